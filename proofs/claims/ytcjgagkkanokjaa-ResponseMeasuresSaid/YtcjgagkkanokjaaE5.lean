/- The engine, part 5: the pure operations as one function, and that the model does the same. -/
import Derived.Test.YtcjgagkkanokjaaE4
namespace Go.Eng

def puna (op : UnOp) : AV → Option AV
  | .int k n => match op with
    | .neg => some (.int k (k.wrap (0 - n)))
    | .xor => some (.int k (k.wrap (BitVec.ofInt k.bits (if k.signed then -1 else k.max) ^^^ BitVec.ofInt k.bits n).toNat))
    | _ => none
  | .bool b => match op with
    | .not => some (.bool !b)
    | _ => none
  | _ => none
theorem puna_sound {P : Program} {ρ : Rho} {op : UnOp} {x v : AV} {cx : Value} (h : puna op x = some v) (hx : conc ρ x = some cx) : ∃ c, conc ρ v = some c ∧ ∀ w, (Op.unary op cx).run P w = .ok c w := by
  cases x with
  | int k n =>
    rw [conc_int hx]
    cases op <;> simp only [puna] at h <;> first | (cases h; done) | (cases h; exact ⟨_, rfl, fun w => by simp [Op.unary, Op.intArith, Op.intBits]⟩)
  | bool b =>
    rw [conc_bool hx]
    cases op <;> simp only [puna] at h <;> first | (cases h; done) | (cases h; exact ⟨_, rfl, fun w => by simp [Op.unary]⟩)
  | _ => simp [puna] at h

def pconv (P : Program) (src dst : TypeId) (x : AV) : Option AV :=
  match P.underlying src, P.underlying dst, x with
  | some _, some (.int k), .int _ n => some (.int k (k.wrap n))
  | some _, some .string, .str s => some (.str s)
  | _, _, _ => none
theorem pconv_sound {P : Program} {ρ : Rho} {src dst : TypeId} {x v : AV} {cx : Value} (h : pconv P src dst x = some v) (hx : conc ρ x = some cx) : ∃ c, conc ρ v = some c ∧ ∀ w, (convert src dst cx).run P w = .ok c w := by
  unfold pconv at h
  split at h
  · rename_i hs hd
    cases h; rw [conc_int hx]
    exact ⟨_, rfl, fun w => by simp [convert, run_underlying hs, run_underlying hd, Conv.intToInt]⟩
  · rename_i hs hd
    cases h; rw [conc_str hx]
    exact ⟨_, rfl, fun w => by simp [convert, run_underlying hs, run_underlying hd]⟩
  · cases h

def psl2arr (P : Program) (arr : TypeId) (x : AV) : Option AV :=
  match P.underlying arr, x with
  | some (.array n _), .sl b o _ len _ => if n ≤ len ∧ 0 < len then some (.ptr b o) else none
  | _, _ => none
theorem psl2arr_sound {P : Program} {ρ : Rho} {arr : TypeId} {x v : AV} {cx : Value} (h : psl2arr P arr x = some v) (hx : conc ρ x = some cx) : ∃ c, conc ρ v = some c ∧ ∀ w, (Instr.arrayAt arr cx).run P w = .ok c w := by
  unfold psl2arr at h
  split at h
  · rename_i hu
    split at h
    · rename_i hl
      cases h
      obtain ⟨pl, hb, hle, rfl⟩ := conc_sl hx
      have hz : slCap pl _ _ ≠ 0 := Nat.ne_of_gt (Nat.lt_of_lt_of_le hl.2 hle)
      exact ⟨_, conc_ptr_mk hb, fun w => by simp [Instr.arrayAt, run_underlying hu, Nat.not_lt.2 hl.1, slAt_pos hz]⟩
    · cases h
  · cases h

def pmkiface (P : Program) (t : TypeId) (x : AV) : Option AV :=
  match P.underlying t with
  | some (.interface _) => none
  | some _ => some (.iface t x)
  | none => none
theorem pmkiface_sound {P : Program} {ρ : Rho} {t : TypeId} {x v : AV} {cx : Value} (h : pmkiface P t x = some v) (hx : conc ρ x = some cx) : ∃ c, conc ρ v = some c ∧ ∀ w, (Instr.makeInterface t cx).run P w = .ok c w := by
  unfold pmkiface at h
  cases hu : P.underlying t with
  | none => simp [hu] at h
  | some d =>
    refine ⟨.iface t cx, ?_, fun w => ?_⟩
    · cases d <;> simp [hu] at h <;> subst h <;> simp [conc, hx]
    · cases d <;> simp [hu] at h <;> simp [Instr.makeInterface, run_underlying hu]

/-- An index or a bound: an integer. -/
def nat? : AV → Option Nat
  | .int _ i => if 0 ≤ i then some i.toNat else none
  | _ => none
theorem nat?_some {x : AV} {n : Nat} (h : nat? x = some n) : ∃ k, x = .int k n := by
  cases x with
  | int k i =>
    simp only [nat?] at h
    split at h
    · rename_i hi; cases h; exact ⟨k, by rw [Int.toNat_of_nonneg hi]⟩
    · cases h
  | _ => simp [nat?] at h
/-- A bound that may be missing. -/
def bnd (x : Option AV) (d : Nat) : Option Nat := match x with | none => some d | some v => nat? v

def pslice (P : Program) (t : TypeId) (x : AV) (lo hi mx : Option AV) : Option AV :=
  match mx with
  | some _ => none
  | none =>
    match P.underlying t, x with
    | some (.array n e), .ptr b o =>
      match bnd lo 0, bnd hi n, tsz P e with
      | some l, some h, some s => if l ≤ h ∧ h ≤ n then some (.sl b (o + l * s) o (h - l) (.at_ (n - l))) else none
      | _, _, _ => none
    | some .string, .str s =>
      match bnd lo 0, bnd hi s.length with
      | some l, some h => if l ≤ h ∧ h ≤ s.length then some (.str ((s.drop l).take (h - l))) else none
      | _, _ => none
    | some (.slice e), .sl b o z len cap =>
      match bnd lo 0, bnd hi len, tsz P e with
      | some l, some h, some s =>
        match cap with
        | .at_ c => if l ≤ h ∧ h ≤ c then some (.sl b (o + l * s) (if l = 0 then z else o) (h - l) (.at_ (c - l))) else none
        | .op s' => if l ≤ h ∧ h ≤ len ∧ s = s' then some (.sl b (o + l * s) (if l = 0 then z else o) (h - l) (.op s)) else none
      | _, _, _ => none
    | some (.slice e), .nilsl =>
      match bnd lo 0, bnd hi 0, tsz P e with
      | some 0, some 0, some _ => some .nilsl
      | _, _, _ => none
    | _, _ => none

theorem run_sliceBound {P : Program} {k : IntKind} {i y : Nat} (h : i ≤ y) (code : BoundsCode) (w : World) : (Instr.sliceBound (.int k i) y code).run P w = .ok i w := by
  simp [Instr.sliceBound, asIntOf, h]

/-- A value that may be missing. -/
def OptRel (ρ : Rho) : Option AV → Option Value → Prop
  | none, none => True
  | some v, some c => conc ρ v = some c
  | _, _ => False
theorem bnd_run {P : Program} {ρ : Rho} {x : Option AV} {cx : Option Value} {d n y : Nat} (h : bnd x d = some n) (hr : OptRel ρ x cx) (hn : n ≤ y) :
    (cx = none ∧ n = d) ∨ ∃ v, cx = some v ∧ ∀ (code : BoundsCode) (w : World), (Instr.sliceBound v y code).run P w = .ok n w := by
  cases x with
  | none =>
    cases cx with
    | none => exact .inl ⟨rfl, by simpa [bnd] using h.symm⟩
    | some c => exact hr.elim
  | some v =>
    cases cx with
    | none => exact hr.elim
    | some c =>
      obtain ⟨k, rfl⟩ := nat?_some (show nat? v = some n from h)
      rw [conc_int (show conc ρ _ = some c from hr)]
      exact .inr ⟨_, rfl, fun code w => run_sliceBound hn code w⟩
theorem run_bounds {P : Program} {ρ : Rho} {lo hi : Option AV} {clo chi : Option Value} {len cap l h : Nat} (sl : Bool) (hlo : bnd lo 0 = some l) (hhi : bnd hi len = some h)
    (rlo : OptRel ρ lo clo) (rhi : OptRel ρ hi chi) (hl : l ≤ h) (hh : h ≤ cap) (w : World) : (Instr.sliceBounds sl len cap clo chi none).run P w = .ok (l, h, cap) w := by
  rcases bnd_run (P := P) hlo rlo hl with ⟨rfl, rfl⟩ | ⟨v, rfl, hv⟩ <;> rcases bnd_run (P := P) hhi rhi hh with ⟨rfl, rfl⟩ | ⟨u, rfl, hu⟩ <;> simp [Instr.sliceBounds, *]

theorem go_extract (s : List UInt8) (l h : Nat) : ((⟨s.toArray⟩ : ByteArray).extract l h).data.toList = (s.drop l).take (h - l) := by
  simp
theorem addr_add (b o n : Nat) : (⟨b, o, none⟩ : Addr).add n = ⟨b, o + n, none⟩ := by
  unfold Addr.add; split <;> simp_all

theorem pslice_sound {P : Program} {ρ : Rho} {t : TypeId} {x v : AV} {lo hi mx : Option AV} {cx : Value} {clo chi cmx : Option Value} (h : pslice P t x lo hi mx = some v) (hx : conc ρ x = some cx)
    (rlo : OptRel ρ lo clo) (rhi : OptRel ρ hi chi) (rmx : OptRel ρ mx cmx) : ∃ c, conc ρ v = some c ∧ ∀ w, (Instr.sliceAt t cx clo chi cmx).run P w = .ok c w := by
  unfold pslice at h
  cases mx with
  | some m => simp at h
  | none =>
    obtain rfl : cmx = none := by cases cmx <;> first | rfl | exact rmx.elim
    simp only at h
    split at h
    · rename_i n e b o hu
      split at h
      · rename_i l hh s h1 h2 h3
        split at h
        · rename_i hc
          cases h
          obtain ⟨pl, hb, rfl⟩ := conc_ptr hx
          refine ⟨_, conc_sl_mk hb (show hh - l ≤ n - l by omega), fun w => ?_⟩
          simp only [Instr.sliceAt, Sem.run_bind, run_underlying hu, Result.andThen_ok, Instr.sureAddr, Sem.run_pure, run_bounds false h1 h2 rlo rhi hc.1 hc.2, run_sizeOf_tsz h3, slCap, addr_add]
          by_cases e : n = l
          · subst e; rw [slAt_zero (by simp [slCap])]; simp
          · rw [if_neg e, slAt_pos (by simp only [slCap]; omega)]; simp [Nat.add_assoc]
        · cases h
      · cases h
    · rename_i s hu
      split at h
      · rename_i l hh h1 h2
        split at h
        · rename_i hc
          cases h
          rw [conc_str hx]
          refine ⟨_, rfl, fun w => ?_⟩
          have hsz : (ByteArray.mk s.toArray).size = s.length := by simp [ByteArray.size]
          simp only [Instr.sliceAt, Instr.slice, Sem.run_bind, run_underlying hu, Result.andThen_ok, Sem.run_pure, hsz, run_bounds false h1 h2 rlo rhi hc.1 hc.2, Option.isSome_none, Bool.false_eq_true, if_false]
          rw [show (⟨s.toArray⟩ : ByteArray).extract l hh = ⟨((s.drop l).take (hh - l)).toArray⟩ from ByteArray.ext (Array.ext' (by rw [go_extract]))]
        · cases h
      · cases h
    · rename_i e b o z len cap hu
      obtain ⟨pl, hb, hle, rfl⟩ := conc_sl hx
      split at h
      · rename_i l hh s h1 h2 h3
        split at h
        · rename_i c
          split at h
          · rename_i hc
            cases h
            refine ⟨_, conc_sl_mk hb (show hh - l ≤ c - l by omega), fun w => ?_⟩
            simp only [Instr.sliceAt, Instr.slice, Sem.run_bind, run_underlying hu, Result.andThen_ok, Sem.run_pure, run_bounds true h1 h2 rlo rhi hc.1 (show hh ≤ slCap pl o (.at_ c) from hc.2), run_sizeOf_tsz h3, Option.map_some, addr_add]
            have k1 : slCap pl o (.at_ c) = c := rfl
            have k2 : slCap pl (o + l * s) (.at_ (c - l)) = c - l := rfl
            rw [k1, k2]
            by_cases e : c = l
            · have s2 : slAt pl (o + l * s) (if l = 0 then z else o) (.at_ (c - l)) = if l = 0 then z else o := slAt_zero (by rw [k2]; omega)
              rw [s2, if_pos e]
              by_cases e0 : c = 0
              · have s1 : slAt pl o z (.at_ c) = z := slAt_zero (k1.trans e0)
                rw [s1, if_pos (by omega)]
              · have s1 : slAt pl o z (.at_ c) = o := slAt_pos (by rw [k1]; exact e0)
                rw [s1, if_neg (by omega)]
            · have s2 : slAt pl (o + l * s) (if l = 0 then z else o) (.at_ (c - l)) = o + l * s := slAt_pos (by rw [k2]; omega)
              have s1 : slAt pl o z (.at_ c) = o := slAt_pos (by rw [k1]; omega)
              rw [s1, s2, if_neg e, Nat.add_assoc]
          · cases h
        · rename_i s'
          split at h
          · rename_i hc
            obtain ⟨hc1, hc2, hc3⟩ := hc
            subst hc3
            cases h
            have hk : (pl.endc - (pl.off + (o + l * s))) / s = (pl.endc - (pl.off + o)) / s - l := by
              rw [show pl.endc - (pl.off + (o + l * s)) = (pl.endc - (pl.off + o)) - s * l by rw [Nat.mul_comm s l]; omega]
              exact Nat.sub_mul_div _ _ _
            obtain ⟨C, hC⟩ : ∃ C, C = slCap pl o (.op s) := ⟨_, rfl⟩
            have k2 : slCap pl (o + l * s) (.op s) = C - l := by rw [hC]; exact hk
            rw [← hC] at hle
            refine ⟨_, conc_sl_mk hb (show hh - l ≤ slCap pl (o + l * s) (.op s) by rw [k2]; omega), fun w => ?_⟩
            simp only [Instr.sliceAt, Instr.slice, Sem.run_bind, run_underlying hu, Result.andThen_ok, Sem.run_pure, run_bounds true h1 h2 rlo rhi hc1 (show hh ≤ slCap pl o (.op s) by omega), run_sizeOf_tsz h3, Option.map_some, addr_add]
            rw [k2]
            have k1 : slCap pl o (.op s) = C := hC.symm
            rw [k1]
            by_cases e : C = l
            · have s2 : slAt pl (o + l * s) (if l = 0 then z else o) (.op s) = if l = 0 then z else o := slAt_zero (by rw [k2]; omega)
              rw [s2, if_pos e]
              by_cases e0 : C = 0
              · have s1 : slAt pl o z (.op s) = z := slAt_zero (k1.trans e0)
                rw [s1, if_pos (by omega)]
              · have s1 : slAt pl o z (.op s) = o := slAt_pos (by rw [k1]; exact e0)
                rw [s1, if_neg (by omega)]
            · have s2 : slAt pl (o + l * s) (if l = 0 then z else o) (.op s) = o + l * s := slAt_pos (by rw [k2]; omega)
              have s1 : slAt pl o z (.op s) = o := slAt_pos (by rw [k1]; omega)
              rw [s1, s2, if_neg e, Nat.add_assoc]
          · cases h
      · cases h
    · rename_i e hu
      have : cx = .slice none 0 0 := by simpa [conc] using hx.symm
      subst this
      split at h
      · rename_i s h1 h2 h3
        cases h
        refine ⟨_, rfl, fun w => ?_⟩
        simp only [Instr.sliceAt, Instr.slice, Sem.run_bind, run_underlying hu, Result.andThen_ok, Sem.run_pure, run_bounds true h1 h2 rlo rhi (Nat.le_refl 0) (Nat.le_refl 0), run_sizeOf_tsz h3]
        simp
      · cases h
    · cases h

end Go.Eng
