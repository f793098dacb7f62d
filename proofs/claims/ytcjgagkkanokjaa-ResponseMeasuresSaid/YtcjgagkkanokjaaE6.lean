/- The engine, part 6: fields, indexes, aggregates; the pure operations together. -/
import Derived.Test.YtcjgagkkanokjaaE5
namespace Go.Eng

def pfieldAddr (P : Program) (s : TypeId) (x : AV) (f : Nat) : Option AV :=
  match P.underlying s, x with
  | some (.struct fs), .ptr b o => match fs[f]? with
    | some fd => match tsz P fd.type with
      | some n => if n = 0 then none else some (.ptr b (o + fd.offset))
      | none => none
    | none => none
  | _, _ => none
theorem pfieldAddr_sound {P : Program} {ρ : Rho} {s : TypeId} {x v : AV} {f : Nat} {cx : Value} (h : pfieldAddr P s x f = some v) (hx : conc ρ x = some cx) : ∃ c, conc ρ v = some c ∧ ∀ w, (Instr.fieldAt s cx f).run P w = .ok c w := by
  unfold pfieldAddr at h
  split at h
  · rename_i fs b o hu
    split at h
    · rename_i fd hf
      split at h
      · rename_i n hn
        split at h
        · cases h
        · rename_i hn0
          cases h
          obtain ⟨pl, hb, rfl⟩ := conc_ptr hx
          refine ⟨_, conc_ptr_mk hb, fun w => ?_⟩
          simp only [Instr.fieldAt, Sem.run_bind, run_underlying hu, Result.andThen_ok, hf, Instr.sureAddr, Sem.run_pure, fieldPlace, run_sizeOf_tsz hn, hn0, if_false, addr_add, Nat.add_assoc]
      · cases h
    · cases h
  · cases h

def pfield (P : Program) (t : TypeId) (x : AV) (f : Nat) : Option AV :=
  match P.underlying t, x with
  | some (.struct fs), .agg cs => match fs[f]? with
    | some fd => apart P fd.type cs fd.offset
    | none => none
  | _, _ => none
theorem pfield_sound {P : Program} {ρ : Rho} {t : TypeId} {x v : AV} {f : Nat} {cx : Value} (h : pfield P t x f = some v) (hx : conc ρ x = some cx) : ∃ c, conc ρ v = some c ∧ ∀ w, (Instr.field t cx f).run P w = .ok c w := by
  unfold pfield at h
  split at h
  · rename_i fs cs hu
    split at h
    · rename_i fd hf
      obtain ⟨xs, hxs, rfl⟩ := conc_agg hx
      obtain ⟨c, hc, hr⟩ := apart_sound h hxs
      exact ⟨c, hc, fun w => by simp only [Instr.field, Sem.run_bind, run_underlying hu, Result.andThen_ok, hf, asAgg, Sem.run_pure, hr w]⟩
    · cases h
  · cases h

def pindexAddr (P : Program) (t : TypeId) (x ix : AV) : Option AV :=
  match nat? ix with
  | none => none
  | some i =>
    match P.underlying t, x with
    | some (.array n e), .ptr b o => match tsz P e with
      | some s => if i < n then some (.ptr b (o + i * s)) else none
      | none => none
    | some (.slice e), .sl b o _ len _ => match tsz P e with
      | some s => if i < len then some (.ptr b (o + i * s)) else none
      | none => none
    | _, _ => none
theorem pindexAddr_sound {P : Program} {ρ : Rho} {t : TypeId} {x ix v : AV} {cx ci : Value} (h : pindexAddr P t x ix = some v) (hx : conc ρ x = some cx) (hi : conc ρ ix = some ci) : ∃ c, conc ρ v = some c ∧ ∀ w, (Instr.indexAt t cx ci).run P w = .ok c w := by
  unfold pindexAddr at h
  cases hn : nat? ix with
  | none => simp [hn] at h
  | some i =>
    obtain ⟨k, rfl⟩ := nat?_some hn
    rw [conc_int hi]
    simp only [hn] at h
    split at h
    · rename_i n e b o hu
      split at h
      · rename_i s hs
        split at h
        · rename_i hlt
          cases h
          obtain ⟨pl, hb, rfl⟩ := conc_ptr hx
          refine ⟨_, conc_ptr_mk hb, fun w => ?_⟩
          have hc : (0 : Int) ≤ (i : Int) ∧ (i : Int) < (n : Int) := ⟨by omega, by omega⟩
          simp only [Instr.indexAt, asIntOf, Sem.run_bind, Sem.run_pure, run_underlying hu, Result.andThen_ok, Instr.sureAddr, hc, and_self, if_true, run_sizeOf_tsz hs, addr_add, Int.toNat_natCast, Nat.add_assoc]
        · cases h
      · cases h
    · rename_i e b o z len cap hu
      split at h
      · rename_i s hs
        split at h
        · rename_i hlt
          cases h
          obtain ⟨pl, hb, hle, rfl⟩ := conc_sl hx
          refine ⟨_, conc_ptr_mk hb, fun w => ?_⟩
          have hc : (0 : Int) ≤ (i : Int) ∧ (i : Int) < (len : Int) := ⟨by omega, by omega⟩
          rw [slAt_pos (by omega)]
          simp only [Instr.indexAt, asIntOf, Sem.run_bind, Sem.run_pure, run_underlying hu, Result.andThen_ok, hc, and_self, if_true, run_sizeOf_tsz hs, addr_add, Int.toNat_natCast, Nat.add_assoc]
        · cases h
      · cases h
    · cases h

def pindex (P : Program) (t : TypeId) (x ix : AV) : Option AV :=
  match nat? ix with
  | none => none
  | some i =>
    match P.underlying t, x with
    | some (.array n e), .agg cs => match tsz P e with
      | some s => if i < n then apart P e cs (i * s) else none
      | none => none
    | some .string, .str s => match s[i]? with
      | some b => some (.int .u8 b.toNat)
      | none => none
    | _, _ => none
theorem pindex_sound {P : Program} {ρ : Rho} {t : TypeId} {x ix v : AV} {cx ci : Value} (h : pindex P t x ix = some v) (hx : conc ρ x = some cx) (hi : conc ρ ix = some ci) : ∃ c, conc ρ v = some c ∧ ∀ w, (Instr.index t cx ci).run P w = .ok c w := by
  unfold pindex at h
  cases hn : nat? ix with
  | none => simp [hn] at h
  | some i =>
    obtain ⟨k, rfl⟩ := nat?_some hn
    rw [conc_int hi]
    simp only [hn] at h
    split at h
    · rename_i n e cs hu
      split at h
      · rename_i s hs
        split at h
        · rename_i hlt
          obtain ⟨xs, hxs, rfl⟩ := conc_agg hx
          obtain ⟨c, hc', hr⟩ := apart_sound h hxs
          have hc : (0 : Int) ≤ (i : Int) ∧ (i : Int) < (n : Int) := ⟨by omega, by omega⟩
          exact ⟨c, hc', fun w => by simp only [Instr.index, asIntOf, Sem.run_bind, Sem.run_pure, run_underlying hu, Result.andThen_ok, hc, and_self, if_true, run_sizeOf_tsz hs, Int.toNat_natCast, hr w]⟩
        · cases h
      · cases h
    · rename_i s hu
      split at h
      · rename_i b hb
        cases h
        rw [conc_str hx]
        refine ⟨_, rfl, fun w => ?_⟩
        have hlt : i < s.length := (List.getElem?_eq_some_iff.1 hb).1
        have hget : (⟨s.toArray⟩ : ByteArray)[i]? = some b := by
          have hsz : i < (⟨s.toArray⟩ : ByteArray).size := by simpa [ByteArray.size] using hlt
          rw [getElem?_pos (⟨s.toArray⟩ : ByteArray) i hsz]
          have := (List.getElem?_eq_some_iff.1 hb).2
          rw [← this]; rfl
        simp only [Instr.index, asIntOf, Sem.run_bind, Sem.run_pure, run_underlying hu, Result.andThen_ok, Int.natCast_nonneg, if_true, Int.toNat_natCast, hget]
      · cases h
    · cases h

def pextract (x : AV) (i : Nat) : Option AV := match x with | .tuple vs => vs[i]? | _ => none
theorem pextract_sound {P : Program} {ρ : Rho} {x v : AV} {i : Nat} {cx : Value} (h : pextract x i = some v) (hx : conc ρ x = some cx) : ∃ c, conc ρ v = some c ∧ ∀ w, (Instr.extract cx i).run P w = .ok c w := by
  cases x <;> simp only [pextract] at h <;> try (cases h; done)
  obtain ⟨xs, hxs, rfl⟩ := conc_tuple hx
  obtain ⟨c, hc, hv⟩ := concs_get _ xs i v hxs h
  exact ⟨c, hv, fun w => by simp [Instr.extract, hc]⟩

/-- The zero value of a type. -/
def tzero (P : Program) (t : TypeId) : Option AV :=
  match P.info? t with
  | some i => (match i.zero with
    | some z => ofValue z
    | none => none)
  | none => none
theorem tzero_sound {P : Program} {ρ : Rho} {t : TypeId} {v : AV} (h : tzero P t = some v) : ∃ c, conc ρ v = some c ∧ (∃ i, P.info? t = some i ∧ i.zero = some c) ∧ ∀ w, (zeroValue t).run P w = .ok c w := by
  unfold tzero at h
  split at h
  · rename_i i hi
    split at h
    · rename_i z hz
      exact ⟨z, conc_ofValue h, ⟨i, hi, hz⟩, fun w => by simp [zeroValue, typeInfo, hi, hz]⟩
    · cases h
  · cases h

/-- Where a struct's fields lie. -/
def places (P : Program) : List Field → Option (List (Nat × Nat))
  | [] => some []
  | f :: r => match tsz P f.type, places P r with | some n, some l => some ((f.offset, n) :: l) | _, _ => none
theorem places_run {P : Program} : ∀ (fs : List Field) (l : List (Nat × Nat)), places P fs = some l → ∀ w, (fs.mapM fun f => do pure (f.offset, ← sizeOf f.type) : Sem (List (Nat × Nat))).run P w = .ok l w
  | [], l, h, w => by simp [places] at h; subst h; simp
  | f :: r, l, h, w => by
    simp only [places] at h
    cases hn : tsz P f.type with
    | none => simp [hn] at h
    | some n =>
      cases hr : places P r with
      | none => simp [hn, hr] at h
      | some l' =>
        simp [hn, hr] at h
        subst h
        simp only [List.mapM_cons, Sem.run_bind, run_sizeOf_tsz hn, Result.andThen_ok, Sem.run_pure, places_run r l' hr w]

def pbuild (P : Program) (t : TypeId) (ps : List (Nat × AV)) : Option AV :=
  match tzero P t with
  | none => none
  | some z =>
    match P.underlying t with
    | some (.struct fs) => match places P fs.toList with
      | some l => match afill (l[·]?) z.cells ps with
        | some cs => some (.agg cs)
        | none => none
      | none => none
    | some (.array _ e) => match tsz P e with
      | some n => match afill (fun i => some (i * n, n)) z.cells ps with
        | some cs => some (.agg cs)
        | none => none
      | none => none
    | _ => none
/-- Parts, abstract and concrete. -/
def PartsRel (ρ : Rho) (ps : List (Nat × AV)) (qs : List (Nat × Value)) : Prop := ps.length = qs.length ∧ ∀ (i : Nat) p, ps[i]? = some p → ∃ q, qs[i]? = some q ∧ q.1 = p.1 ∧ conc ρ p.2 = some q.2
theorem pbuild_sound {P : Program} {ρ : Rho} {t : TypeId} {ps : List (Nat × AV)} {qs : List (Nat × Value)} {v : AV} (h : pbuild P t ps = some v) (hq : PartsRel ρ ps qs) :
    ∃ c, conc ρ v = some c ∧ ∀ w, (Instr.build t qs.toArray).run P w = .ok c w := by
  unfold pbuild at h
  cases hz : tzero P t with
  | none => simp [hz] at h
  | some z =>
    simp only [hz] at h
    obtain ⟨cz, hcz, _, hrz⟩ := tzero_sound (ρ := ρ) hz
    have hcells := conc_cells hcz
    split at h
    · rename_i fs hu
      cases hp : places P fs.toList with
      | none => simp [hp] at h
      | some l =>
        simp only [hp] at h
        cases hf : afill (l[·]?) z.cells ps with
        | none => simp [hf] at h
        | some cs =>
          simp [hf] at h
          subst h
          obtain ⟨ys, h1, h2⟩ := afill_sound _ ps qs _ _ _ hf hcells hq
          refine ⟨_, conc_agg_mk h1, fun w => ?_⟩
          have hm : (fs.mapM fun f => do pure (f.offset, ← sizeOf f.type) : Sem (Array (Nat × Nat))).run P w = .ok l.toArray w := by
            have e : fs = fs.toList.toArray := by simp
            rw [e, List.mapM_toArray]
            simp only [Sem.run_map, places_run _ _ hp w, Result.andThen_ok]
          simp only [Instr.build, Sem.run_bind, hrz, Result.andThen_ok, run_underlying hu, hm]
          have e2 : Instr.fill (fun x => l[x]?) cz.cells qs = some ys.toArray := by simpa using h2
          simp [e2]
    · rename_i e hu
      split at h
      · rename_i n hn
        cases hf : afill (fun i => some (i * n, n)) z.cells ps with
        | none => simp [hf] at h
        | some cs =>
          simp [hf] at h
          subst h
          obtain ⟨ys, h1, h2⟩ := afill_sound _ ps qs _ _ _ hf hcells hq
          refine ⟨_, conc_agg_mk h1, fun w => ?_⟩
          simp only [Instr.build, Sem.run_bind, hrz, Result.andThen_ok, run_underlying hu, run_sizeOf_tsz hn]
          have e2 : Instr.fill (fun i => some (i * n, n)) cz.cells qs = some ys.toArray := by simpa using h2
          rw [e2]; simp
      · cases h
    · cases h

/-! ### the builtins that look at no memory -/
def plen (P : Program) (t : TypeId) (x : AV) : Option AV :=
  match P.underlying t, x with
  | some .string, .str s => some (.int .i64 s.length)
  | some (.array n _), _ => some (.int .i64 n)
  | some (.slice _), .sl _ _ _ len _ => some (.int .i64 len)
  | some (.slice _), .nilsl => some (.int .i64 0)
  | some (.map _ _), .nilmap => some (.int .i64 0)
  | _, _ => none
theorem plen_sound {P : Program} {ρ : Rho} {t ty : TypeId} {ts : Array TypeId} (h0 : ts[0]? = some t) {x v : AV} {cx : Value} (h : plen P t x = some v) (hx : conc ρ x = some cx) : ∃ c, conc ρ v = some c ∧ ∀ w, (Builtin.len_ ts ty #[cx]).run P w = .ok c w := by
  unfold plen at h
  split at h
  · rename_i s hu; cases h; rw [conc_str hx]
    exact ⟨_, rfl, fun w => by simp only [Builtin.len_, h0, run_underlying hu, Sem.run_bind, Result.andThen_ok, goInt, List.getElem?_toArray, List.getElem?_cons_zero]; simp [ByteArray.size]⟩
  · rename_i n _ hu; cases h; exact ⟨_, rfl, fun w => by cases cx <;> simp only [Builtin.len_, h0, run_underlying hu, Sem.run_bind, Result.andThen_ok, goInt, List.getElem?_toArray, List.getElem?_cons_zero, Sem.run_pure]⟩
  · rename_i hu; cases h; obtain ⟨pl, _, _, rfl⟩ := conc_sl hx
    exact ⟨_, rfl, fun w => by simp only [Builtin.len_, h0, run_underlying hu, Sem.run_bind, Result.andThen_ok, goInt, List.getElem?_toArray, List.getElem?_cons_zero, Sem.run_pure]⟩
  · rename_i hu; cases h; obtain rfl : cx = .slice none 0 0 := by simpa [conc] using hx.symm
    exact ⟨_, rfl, fun w => by simp only [Builtin.len_, h0, run_underlying hu, Sem.run_bind, Result.andThen_ok, goInt, List.getElem?_toArray, List.getElem?_cons_zero, Sem.run_pure]; rfl⟩
  · rename_i hu; cases h; obtain rfl : cx = .map none := by simpa [conc] using hx.symm
    exact ⟨_, rfl, fun w => by simp only [Builtin.len_, h0, run_underlying hu, Sem.run_bind, Result.andThen_ok, goInt, List.getElem?_toArray, List.getElem?_cons_zero, Sem.run_pure]⟩
  · cases h

def pcap (P : Program) (t : TypeId) (x : AV) : Option AV :=
  match P.underlying t, x with
  | some (.slice _), .sl _ _ _ _ (.at_ c) => some (.int .i64 c)
  | some (.slice _), .nilsl => some (.int .i64 0)
  | _, _ => none
theorem pcap_sound {P : Program} {ρ : Rho} {t ty : TypeId} {ts : Array TypeId} (h0 : ts[0]? = some t) {x v : AV} {cx : Value} (h : pcap P t x = some v) (hx : conc ρ x = some cx) : ∃ c, conc ρ v = some c ∧ ∀ w, (Builtin.cap_ ts ty #[cx]).run P w = .ok c w := by
  unfold pcap at h
  split at h
  · rename_i hu; cases h; obtain ⟨pl, _, _, rfl⟩ := conc_sl hx
    exact ⟨_, rfl, fun w => by simp only [Builtin.cap_, h0, run_underlying hu, Sem.run_bind, Result.andThen_ok, goInt, List.getElem?_toArray, List.getElem?_cons_zero, Sem.run_pure, slCap]⟩
  · rename_i hu; cases h; obtain rfl : cx = .slice none 0 0 := by simpa [conc] using hx.symm
    exact ⟨_, rfl, fun w => by simp only [Builtin.cap_, h0, run_underlying hu, Sem.run_bind, Result.andThen_ok, goInt, List.getElem?_toArray, List.getElem?_cons_zero, Sem.run_pure]; rfl⟩
  · cases h

def pminmax (mx : Bool) : List AV → Option AV
  | [] => none
  | .int k x :: rest => go k x rest
  | _ => none
  where go (k : IntKind) (x : Int) : List AV → Option AV
  | [] => some (.int k x)
  | .int _ y :: r => go k (if mx then (if y > x then y else x) else (if y < x then y else x)) r
  | _ => none
theorem pminmax_go {P : Program} {ρ : Rho} (mx : Bool) (k : IntKind) : ∀ (l : List AV) (cl : List Value) (x : Int) (v : AV), pminmax.go mx k x l = some v → concs ρ l = some cl → ∃ c, conc ρ v = some c ∧
    ∀ w, (cl.foldlM (if mx then Builtin.max2 else Builtin.min2) (.int k x)).run P w = .ok c w
  | [], cl, x, v, h, hl => by simp [concs] at hl; subst hl; simp [pminmax.go] at h; subst h; exact ⟨_, rfl, fun w => by simp⟩
  | a :: r, cl, x, v, h, hl => by
    cases a with
    | int k' y =>
      obtain ⟨ca, cr, ha, hr, rfl⟩ := concs_cons hl
      rw [conc_int ha]
      simp only [pminmax.go] at h
      obtain ⟨c, hc, hrun⟩ := pminmax_go mx k r cr _ v h hr
      refine ⟨c, hc, fun w => ?_⟩
      cases mx <;> simpa [List.foldlM_cons, Builtin.max2, Builtin.min2] using hrun w
    | _ => simp [pminmax.go] at h
theorem pminmax_sound {P : Program} {ρ : Rho} {mx : Bool} {ty : TypeId} {ts : Array TypeId} {l : List AV} {cl : List Value} {v : AV} (h : pminmax mx l = some v) (hl : concs ρ l = some cl) :
    ∃ c, conc ρ v = some c ∧ ∀ w, (if mx then Builtin.max_ ts ty cl.toArray else Builtin.min_ ts ty cl.toArray).run P w = .ok c w := by
  cases l with
  | nil => simp [pminmax] at h
  | cons a r =>
    cases a with
    | int k x =>
      obtain ⟨ca, cr, ha, hr, rfl⟩ := concs_cons hl
      rw [conc_int ha]
      simp only [pminmax] at h
      obtain ⟨c, hc, hrun⟩ := pminmax_go (P := P) mx k r cr x v h hr
      refine ⟨c, hc, fun w => ?_⟩
      cases mx
      · simpa [Builtin.min_] using hrun w
      · simpa [Builtin.max_] using hrun w
    | _ => simp [pminmax] at h

def pbuiltin (P : Program) (b : Builtin) (ts : List TypeId) (args : List AV) : Option AV :=
  match b, ts, args with
  | .len, t :: _, [x] => plen P t x
  | .cap, t :: _, [x] => pcap P t x
  | .min, _, l => pminmax false l
  | .max, _, l => pminmax true l
  | _, _, _ => none
theorem pbuiltin_sound {P : Program} {ρ : Rho} {b : Builtin} {ts : Array TypeId} {ty : TypeId} {consts : Array Bool} {args : List AV} {cargs : List Value} {v : AV} (h : pbuiltin P b ts.toList args = some v) (ha : concs ρ args = some cargs) :
    ∃ c, conc ρ v = some c ∧ ∀ w, (builtin b ts ty consts cargs.toArray).run P w = .ok (.value c) w := by
  unfold pbuiltin at h
  split at h
  · rename_i t r x hts
    obtain ⟨ca, cr, hca, hcr, rfl⟩ := concs_cons ha
    simp [concs] at hcr; subst hcr
    have h0 : ts[0]? = some t := by rw [← Array.getElem?_toList, hts]; rfl
    obtain ⟨c, hc, hr⟩ := plen_sound (P := P) (ty := ty) h0 h hca
    exact ⟨c, hc, fun w => by simp [builtin, hr w]⟩
  · rename_i t r x hts
    obtain ⟨ca, cr, hca, hcr, rfl⟩ := concs_cons ha
    simp [concs] at hcr; subst hcr
    have h0 : ts[0]? = some t := by rw [← Array.getElem?_toList, hts]; rfl
    obtain ⟨c, hc, hr⟩ := pcap_sound (P := P) (ty := ty) h0 h hca
    exact ⟨c, hc, fun w => by simp [builtin, hr w]⟩
  · obtain ⟨c, hc, hr⟩ := pminmax_sound (P := P) (ty := ty) (ts := ts) h ha
    exact ⟨c, hc, fun w => by have := hr w; simp at this; simp [builtin, this]⟩
  · obtain ⟨c, hc, hr⟩ := pminmax_sound (P := P) (ty := ty) (ts := ts) h ha
    exact ⟨c, hc, fun w => by have := hr w; simp at this; simp [builtin, this]⟩
  · cases h

end Go.Eng
