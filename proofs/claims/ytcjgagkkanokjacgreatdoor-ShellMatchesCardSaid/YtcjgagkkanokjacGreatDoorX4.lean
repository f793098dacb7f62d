/- The engine, extra operations, part 4: unsafe. -/
import Derived.Test.YtcjgagkkanokjacGreatDoorX1
namespace Go.Eng
theorem liesAt_row {P : Program} {e : TypeId} {s : Nat} (hc : P.cellsOf e = s) (h0 : s ≠ 0) (count off n : Nat) (hr : off % s = 0) (hn : off / s + n ≤ count) : liesAt P P.depth e count off e n = true := by
  have hd : P.depth = (2 * (P.types.size + Made.depth) + 1) + 1 := rfl
  rw [hd]
  simp only [liesAt, Bool.or_eq_true]
  left
  rw [hd]
  simp [rowAt, hc, hn, h0, hr, sameLayout]
/-! ### pointers and unsafe.Pointer -/
def aptrconv (P : Program) (h : AHeap) (src dst : TypeId) (x : AV) : Option AV :=
  match x with
  | .ptr b o => match h.get b with
    | .cells ty cs wr =>
      match P.underlying src, P.underlying dst with
      | some (.pointer t), some .unsafePointer => match tsz P t with
        | some n => if n ≠ 0 ∧ o < cs.length then some (.ptr b o) else none
        | none => none
      | some .unsafePointer, some (.pointer u) => match wr, tsz P u with
        | some _, some n => if u = bty ∧ ty = bty ∧ o = 0 ∧ n ≠ 0 ∧ n ≤ cs.length then some (.ptr b o) else none
        | _, _ => none
      | _, _ => none
    | _ => none
  | _ => none
theorem tsz_info {P : Program} {t : TypeId} {n : Nat} (h : tsz P t = some n) : ∃ i, P.info? t = some i ∧ i.size = n := by
  unfold tsz at h
  cases hi : P.info? t with
  | none => simp [hi] at h
  | some i => simp [hi] at h; exact ⟨i, rfl, h⟩
theorem aptrconv_sound {P : Program} {ρ : Rho} {h : AHeap} {w : World} {src dst : TypeId} {x v : AV} {cx : Value} (ha : aptrconv P h src dst x = some v) (hx : conc ρ x = some cx) (hs : Sim ρ h w) :
    ∃ c, conc ρ v = some c ∧ (convert src dst cx).run P w = .ok c w := by
  unfold aptrconv at ha
  split at ha
  case h_2 => cases ha
  rename_i b o
  split at ha
  case h_2 => cases ha
  rename_i ty cs wr hg
  obtain ⟨pl, hb, rfl⟩ := conc_ptr hx
  obtain ⟨c, fz, xs, hcc, he, hl, _, hxs, _, hfz⟩ := hs.cells hb hg
  have hsh : w.shape? pl.blk = some (ty, c.size) := by simp [World.shape?, hcc]
  split at ha
  · rename_i t hsr hds
    split at ha
    · rename_i n hn
      split at ha
      · rename_i hc
        cases ha
        obtain ⟨i, hi, hin⟩ := tsz_info hn
        exact ⟨_, hx, Lib.run_to_unsafe w ⟨pl.blk, pl.off + o, none⟩ hsr hds hi (by rw [hin]; exact hc.1) hsh (show pl.off + o < c.size by omega)⟩
      · cases ha
    · cases ha
  · rename_i u hsr hds
    split at ha
    · rename_i f n hn
      split at ha
      · rename_i hc
        obtain ⟨rfl, rfl, rfl, h0, hcl⟩ := hc
        cases ha
        obtain ⟨i, hi, hin⟩ := tsz_info hn
        have hpo := (hfz f rfl).2 rfl
        have hce := cellsOf_tsz hn
        refine ⟨_, hx, Lib.run_from_unsafe w ⟨pl.blk, pl.off + 0, none⟩ hsr hds hi hsh ?_⟩
        refine liesAt_row hce h0 _ _ _ (by rw [hpo]; simp) ?_
        rw [hpo, hce]
        have : 1 ≤ c.size / n := by rw [Nat.le_div_iff_mul_le (by omega)]; omega
        simpa using this
      · cases ha
    · cases ha
  · cases ha
/-! ### unsafe.SliceData, unsafe.String -/
def asdata (x : AV) : Option AV := match x with
  | .nilsl => some .nilptr
  | .sl b o _ len _ => if 0 < len then some (.ptr b o) else none
  | _ => none
theorem asdata_sound {P : Program} {ρ : Rho} {w : World} {x v : AV} {ts : Array TypeId} {ty : TypeId} {cx : Value} (ha : asdata x = some v) (hx : conc ρ x = some cx) :
    ∃ c, conc ρ v = some c ∧ (Builtin.unsafeSliceData_ ts ty #[cx]).run P w = .ok c w := by
  unfold asdata at ha
  split at ha
  · cases ha
    obtain rfl : cx = .slice none 0 0 := by simpa [conc] using hx.symm
    exact ⟨_, rfl, rfl⟩
  · rename_i b o z len cap
    split at ha
    · rename_i hl
      cases ha
      obtain ⟨pl, hb, hle, rfl⟩ := conc_sl hx
      have hne : slCap pl o cap ≠ 0 := by omega
      refine ⟨_, conc_ptr_mk hb (conc_sl_sp hx hb hne), ?_⟩
      rw [Lib.run_unsafeSliceData_row (P := P) w ts ty _ _ _ hne, slAt_pos hne, conc_sl_sp hx hb hne]
    · cases ha
  · cases ha
theorem run_unsafeString_at {P : Program} (w : World) (pt it ty e : TypeId) (hp : P.underlying pt = some (.pointer e)) (hc : P.cellsOf e = 1) (g off cells : Nat) (hsh : w.shape? g = some (e, cells)) (l : List UInt8) (h0 : l ≠ []) (hn : off + l.length ≤ cells) (h63 : l.length ≤ 9223372036854775807)
    (hcell : ∀ j x, l[j]? = some x → w.cell? ((⟨g, off, none⟩ : Addr).add j) = some (.int .u8 x.toNat)) :
    (Builtin.unsafeString_ #[pt, it] ty #[.pointer (some ⟨g, off, none⟩), .int .i64 l.length]).run P w = .ok (.string ⟨l.toArray⟩) (w.freeze ⟨g, off, none⟩ l.length) := by
  have hl : l.length ≠ 0 := by simpa using h0
  have hlb := Lib.run_loadBytes (P := P) w l ⟨g, off, none⟩ .empty hcell
  have hlies := liesAt_row (P := P) hc (by decide) (cells / P.cellsOf e) off l.length (Nat.mod_one _) (by rw [hc]; simpa using hn)
  have h63' : ¬ (9223372036854775807 : Int) < (l.length : Int) := by omega
  have hdef : Builtin.unsafeString_ #[pt, it] ty #[.pointer (some ⟨g, off, none⟩), .int .i64 l.length] =
      (do
        let n ← asInt (.int .i64 l.length)
        if n < 0 then runtimePanic (.error "unsafe.String: len out of range")
        if n > IntKind.i64.max then unsupported (.unsafePointer "String: a length above the largest int")
        if n = 0 then pure (.string .empty)
        else if ← variablesAt ⟨g, off, none⟩ (← elemOf pt) n.toNat then do
          let s ← loadBytes ⟨g, off, none⟩ .empty n.toNat
          freeze ⟨g, off, none⟩ n.toNat
          pure (.string s)
        else unsupported (.unsafePointer "String: not so many bytes at ptr")) := rfl
  rw [hdef]
  have hmax : IntKind.i64.max = 9223372036854775807 := rfl
  have hneg : ¬ (l.length : Int) < 0 := by omega
  simp [asInt, asIntOf, hmax, h63', hneg, hl, variablesAt, hsh, elemOf, run_underlying hp, hlies, hlb]
def austring (P : Program) (h : AHeap) (ts : List TypeId) (p n : AV) : Option (AV × AHeap) :=
  match ts, n with
  | [pt, _], .int .i64 n =>
    match p with
    | .nilptr => if n = 0 then some (.str [], h) else none
    | .ptr b o => if n = 0 then some (.str [], h) else if 0 < n ∧ n ≤ 9223372036854775807 then
      (match h.get b with
      | .cells ty cs (some f) =>
        match P.underlying pt, tsz P ty with
        | some (.pointer e), some 1 => if e = ty ∧ o + n.toNat ≤ cs.length then (match abytes ((cs.drop o).take n.toNat) with
          | some l => some (.str l, h.set b (.cells ty cs none))
          | none => none) else none
        | _, _ => none
      | _ => none) else none
    | _ => none
  | _, _ => none
theorem freeze_cells {w : World} {k : Nat} {c : Array Value} {ty : TypeId} {fz : Nat × Nat} (hc : w.heap[k]? = some (.cells c ty fz)) (off n : Nat) :
    (∃ fz', (w.freeze ⟨k, off, none⟩ n).heap[k]? = some (.cells c ty fz')) ∧ (∀ j, j ≠ k → (w.freeze ⟨k, off, none⟩ n).heap[j]? = w.heap[j]?) ∧ (w.freeze ⟨k, off, none⟩ n).heap.size = w.heap.size ∧ (w.freeze ⟨k, off, none⟩ n).os = w.os ∧ (w.freeze ⟨k, off, none⟩ n).tape = w.tape ∧ (w.freeze ⟨k, off, none⟩ n).output = w.output := by
  unfold World.freeze
  split
  · exact ⟨⟨fz, hc⟩, fun _ _ => rfl, rfl, rfl, rfl, rfl⟩
  · refine ⟨?_, fun j hj => ?_, by simp, rfl, rfl, rfl⟩
    · obtain ⟨a, b⟩ := fz
      simp [Array.getElem?_modify, hc]
    · simp only [Array.getElem?_modify]; rw [if_neg (by simpa using Ne.symm hj)]
theorem austring_sound {P : Program} {ρ : Rho} {h h' : AHeap} {w : World} {ts : List TypeId} {ty : TypeId} {p n v : AV} {cp cn : Value} (ha : austring P h ts p n = some (v, h')) (hp : conc ρ p = some cp) (hn : conc ρ n = some cn) (hs : Sim ρ h w) :
    ∃ c w' ρ', (Builtin.unsafeString_ ts.toArray ty #[cp, cn]).run P w = .ok c w' ∧ conc ρ' v = some c ∧ Step ρ h w ρ' h' w' := by
  unfold austring at ha
  split at ha
  case h_2 => cases ha
  rename_i pt it n
  rw [conc_int hn]
  split at ha
  · obtain rfl : cp = .pointer none := by simpa [conc] using hp.symm
    split at ha
    · rename_i h0
      cases ha
      subst h0
      exact ⟨_, w, ρ, Lib.run_unsafeString_none (P := P) w pt it ty none, rfl, Step.refl hs⟩
    · cases ha
  · rename_i b o
    obtain ⟨pl, hb, rfl⟩ := conc_ptr hp
    split at ha
    · rename_i h0
      cases ha
      subst h0
      exact ⟨_, w, ρ, Lib.run_unsafeString_none (P := P) w pt it ty _, rfl, Step.refl hs⟩
    · split at ha
      case isFalse => cases ha
      rename_i hn0 hnr
      split at ha
      case h_2 => cases ha
      rename_i tyb cs f hg
      split at ha
      case h_2 => cases ha
      rename_i e hu htz
      split at ha
      case isFalse => cases ha
      rename_i hc
      obtain ⟨rfl, hlen⟩ := hc
      split at ha
      case h_2 => cases ha
      rename_i l hl
      cases ha
      have he := abytes_eq _ _ hl
      have hll : l.length = n.toNat := by have := congrArg List.length he; simp at this; omega
      have hni : n = ((l.length : Nat) : Int) := by omega
      obtain ⟨c, fz, xs, hcc, hend, hcl, hone, hxs, hi, hfz⟩ := hs.cells hb hg
      have h1 := concs_take n.toNat _ _ (concs_drop o _ _ hxs)
      rw [he, concs_bytes] at h1
      have h1 := Option.some.inj h1
      have hsh : w.shape? pl.blk = some (e, c.size) := by simp [World.shape?, hcc]
      have hcell : ∀ j x, l[j]? = some x → w.cell? ((⟨pl.blk, pl.off + o, none⟩ : Addr).add j) = some (.int .u8 x.toNat) := fun j x hj => by
        rw [addr_add, cell_of hcc]
        have hjl := (List.getElem?_eq_some_iff.1 hj).1
        have h2 := congrArg (fun l : List Value => l[j]?) h1
        simp only [List.getElem?_map, List.getElem?_take, List.getElem?_drop] at h2
        rw [if_pos (by omega), hj] at h2
        rw [Nat.add_assoc]
        exact hi _ _ h2.symm
      have hrun := run_unsafeString_at (P := P) w pt it ty e hu (cellsOf_tsz htz) pl.blk (pl.off + o) c.size hsh l (by intro e0; subst e0; simp at hll; omega) (by omega) (by omega) hcell
      rw [← hni] at hrun
      obtain ⟨⟨fz', f1⟩, f2, f3, f4, f5, f6⟩ := freeze_cells hcc (pl.off + o) l.length
      exact ⟨_, _, ρ, hrun, rfl, Step.write hs hb (by rw [hg]; rfl) _ f3 f4 f5 f6 f2 ⟨c, fz', xs, f1, hend, hcl, hone, hxs, hi, fun f hf => by cases hf⟩⟩
  · cases ha
end Go.Eng
/- The engine, extra operations, part 5: the length of a map; an append of what a make would give, to a nil slice. -/
namespace Go.Eng
/-- The calls whose operation looks at memory. -/
def xlen (ts : List TypeId) : Bool := match ts with | [t] => t == 57 | _ => false
def xapp (ts : List TypeId) : Bool := match ts with | [_, t] => t == 3 | _ => false
def alen (P : Program) (h : AHeap) (ts : List TypeId) (l : List AV) : Option AV :=
  match ts, l with
  | [t], [x] => match P.underlying t with
    | some (.map _ _) => (match x with
      | .nilmap => some (.int .i64 0)
      | .map b => (match h.get b with
        | .map es _ _ => some (.int .i64 es.length)
        | _ => none)
      | _ => none)
    | _ => none
  | _, _ => none
theorem entRel_length {ρ : Rho} : ∀ (es : List (AV × AV × Nat)) (ces : List MapEntry), entRel ρ es ces → ces.length = es.length
  | [], [], _ => rfl
  | (_, _, _) :: r, _ :: es, ⟨_, _, _, d⟩ => by simp [entRel_length r es d]
  | [], _ :: _, h => h.elim
  | _ :: _, [], h => h.elim
theorem mapRel_length {ρ : Rho} {es : List (AV × AV × Nat)} {cl : Nat} {ces : List MapEntry} {cl' : Nat} : ∀ {b : Bool}, mapRel ρ es cl ces cl' b → ces.length = es.length
  | true, h => entRel_length _ _ (h : _ ∧ _).2
  | false, ⟨es0, hp, h⟩ => by
    rw [entRel_length _ _ h]
    have := hp.length_eq
    simpa [kvs] using this
theorem alen_sound {P : Program} {ρ : Rho} {h : AHeap} {w : World} {ts : List TypeId} {ty : TypeId} {args : List AV} {cargs : List Value} {v : AV} (hv : alen P h ts args = some v) (ha : concs ρ args = some cargs) (hs : Sim ρ h w) :
    ∃ c, conc ρ v = some c ∧ (Builtin.len_ ts.toArray ty cargs.toArray).run P w = .ok c w := by
  unfold alen at hv
  split at hv
  case h_2 => cases hv
  rename_i t x
  obtain ⟨cx, cr, hx, hcr, rfl⟩ := concs_cons ha
  simp [concs] at hcr; subst hcr
  split at hv
  case h_2 => cases hv
  rename_i kt et hu
  split at hv
  · cases hv
    obtain rfl : cx = .map none := by simpa [conc] using hx.symm
    exact ⟨.int .i64 0, rfl, by simp [Builtin.len_, run_underlying hu, goInt]⟩
  · rename_i b
    split at hv
    · rename_i es cl wr hg
      cases hv
      obtain ⟨pl, hb, rfl⟩ := conc_map hx
      obtain ⟨ces, cl', h1, h2⟩ := hs.mapAt hb hg
      refine ⟨.int .i64 es.length, rfl, ?_⟩
      have := mapRel_length h2
      simp only [Array.length_toList] at this
      simp [Builtin.len_, run_underlying hu, getObj, Sem.run, h1, Result.andThen, goInt, this]
    · cases hv
  · cases hv
theorem alen_nx : True := trivial

def aappZ (P : Program) (h : AHeap) (ts : List TypeId) (args : List AV) : Option (AV × AHeap) :=
  match ts, args with
  | [t, tx], [.nilsl, .int .i64 n] =>
    match P.underlying t, P.underlying tx with
    | some (.slice e), some (.int _) =>
      match tsz P e, tbytes P e, tzero P e with
      | some size, some bytes, some z => if 0 < n ∧ n ≤ 1099511627776 ∧ z.cells.all AV.one = true then agrow h e size bytes z.cells.length 0 (reps n.toNat z.cells) n.toNat else none
      | _, _, _ => none
    | _, _ => none
  | _, _ => none
theorem wrap_small {n : Int} (h0 : 0 < n) (h1 : n ≤ 1099511627776) : IntKind.i64.wrap n = n := by rw [IntKind.wrap_i64]; omega
theorem aappZ_sound {P : Program} {ρ : Rho} {h h' : AHeap} {w : World} {ts : List TypeId} {ty : TypeId} {args : List AV} {cargs : List Value} {v : AV} (hv : aappZ P h ts args = some (v, h')) (ha : concs ρ args = some cargs) (hs : Sim ρ h w) :
    ∃ c w' ρ', (Builtin.append_ ts.toArray ty cargs.toArray).run P w = .ok c w' ∧ conc ρ' v = some c ∧ Step ρ h w ρ' h' w' := by
  unfold aappZ at hv
  split at hv
  case h_2 => cases hv
  rename_i t tx n
  obtain ⟨cs_, cr, hcs, hcr, rfl⟩ := concs_cons ha
  obtain ⟨cx, cr2, hcx, hcr2, rfl⟩ := concs_cons hcr
  simp [concs] at hcr2; subst hcr2
  obtain rfl : cs_ = .slice none 0 0 := by simpa [conc] using hcs.symm
  rw [conc_int hcx]
  split at hv
  case h_2 => cases hv
  rename_i e ik hu hux
  split at hv
  case h_2 => cases hv
  rename_i size bytes z hn hb hz
  split at hv
  case isFalse => cases hv
  rename_i hc0
  obtain ⟨n0, n1, hz1⟩ := hc0
  obtain ⟨m, rfl⟩ : ∃ m : Nat, n = m := ⟨n.toNat, by omega⟩
  simp only [Int.toNat_natCast] at hv
  unfold agrow at hv
  split at hv
  case isFalse => cases hv
  rename_i hc
  obtain ⟨c1, c2, c3, c4⟩ := hc
  simp only [Option.some.injEq, Prod.mk.injEq] at hv
  obtain ⟨rfl, rfl⟩ := hv
  obtain ⟨cz, hcz, ⟨i, hi, hiz⟩, _⟩ := tzero_sound (ρ := ρ) hz
  have hin : i.size = size := by simpa [tsz, hi] using hn
  have hib : i.bytes = bytes := by simpa [tbytes, hi] using hb
  have hzc := conc_cells hcz
  have hzsz : cz.cells.size = size := by have := concs_length _ _ hzc; simp at this; omega
  have hnc : Builtin.nextslicecap m 0 = m := by unfold Builtin.nextslicecap; rw [if_pos (by omega)]
  have hwr := wrap_small n0 n1
  have hle : ¬ (281474976710656 < (m : Int) * (bytes : Int)) := by
    have h1 : ((m * bytes : Nat) : Int) ≤ 140737488355328 := Int.ofNat_le.2 c1
    have h2 : ((m * bytes : Nat) : Int) = (m : Int) * (bytes : Int) := Int.natCast_mul m bytes
    omega
  have hle2 : ¬ (281474976710656 < m * bytes) := by omega
  have h63 : ¬ (9223372036854775807 < (m : Int)) := by omega
  have hm0 : m ≠ 0 := by omega
  have hneg : ¬ ((m : Int) < 0) := by omega
  have hms : ¬ (m * i.size = 0) := by rw [hin]; exact Nat.mul_ne_zero hm0 (by omega)
  obtain ⟨K, hK⟩ : ∃ K, K = grownCap w m 0 e := ⟨_, rfl⟩
  have hKge : m ≤ K := by rw [hK]; exact grownCap_ge w _ _ _
  have hrun : (Builtin.append_ #[t, tx] ty #[.slice none 0 0, .int .i64 m]).run P w = .ok (.slice (some ⟨w.heap.size, 0, none⟩) m K) (w.drew.alloc (.cells (Builtin.zeroCells cz.cells m ++ Builtin.zeroCells cz.cells (K - m)) e)) := by
    subst hK
    simp [Builtin.append_, run_underlying hu, run_underlying hux, sizeOf, typeInfo, zeroValue, hi, hiz, asInt, asIntOf, hwr, hib, hle, hle2, h63, hms, hm0, hneg, hnc, Question.forced, Builtin.firstCells, newRow, grownCap]
  have hs' : Sim ρ h w.drew := hs.of_heap rfl
  have hfr := hs.fresh
  have e1 : ∀ k, (Builtin.zeroCells cz.cells k).toList = (List.replicate k cz.cells.toList).flatten := fun k => by
    have := madeCells_flat cz.cells k
    unfold madeCells at this
    simp only [Builtin.zeroCells, this]
  have hreps := concs_reps hzc m
  have hrl := concs_length _ _ hreps
  have hlen : ((List.replicate m cz.cells.toList).flatten).length = m * size := by
    rw [← e1, Array.length_toList, size_zeroCells, hzsz]
  have hone : (reps m z.cells).all AV.one = true := reps_one hz1 m
  have hsz : (Builtin.zeroCells cz.cells m ++ Builtin.zeroCells cz.cells (K - m)).size = K * size := by
    simp only [Array.size_append, size_zeroCells, hzsz]
    rw [← Nat.add_mul]; congr 1; omega
  refine ⟨_, _, _, hrun, ?_, (Step.draw hs (w.drawn + 1)).trans (Step.alloc (w := w.drew) hs' _ _ (K * size) ?_)⟩
  · have e2 : slCap ⟨w.drew.heap.size, 0, K * size, none⟩ 0 (.op size m) = K := by simp only [slCap]; rw [Nat.add_zero, Nat.sub_zero, Nat.mul_div_cancel _ c4]
    refine (conc_sl_mk (upd_same _ _ _) (show m ≤ slCap ⟨w.drew.heap.size, 0, K * size, none⟩ 0 (.op size m) by rw [e2]; exact hKge) (fun _ => rfl) (by rw [e2]; exact hKge)).trans ?_
    rw [e2]
    simp only [slAt, cond_eq_ite, ite_self, Nat.add_zero]
    rfl
  · refine ⟨_, (0, 0), _, heap_push_new _, hsz.symm, ?_, hone, concs_mono (Ext.upd _ hfr) _ _ hreps, fun i x hi => ?_, fun f _ => ⟨by simp, fun _ => rfl⟩⟩
    · rw [hsz]; simp only [Nat.zero_add]; rw [← hrl, hlen]; exact Nat.mul_le_mul_right _ hKge
    · simp only [Nat.zero_add]
      rw [Array.getElem?_append]
      have hlt := (List.getElem?_eq_some_iff.1 hi).1
      rw [← e1] at hi hlt
      rw [if_pos (by simpa using hlt)]
      simpa using hi
end Go.Eng
