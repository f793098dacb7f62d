/- The engine, part 22: more rules: builds, blocks, stores. -/
import Derived.Test.YtcjgagkkanokjaaE21
namespace Go.Eng
attribute [local semireducible] Wn Wh
@[simp] theorem next_ne2 (n : Nat) : (n + 1 + 1 = n) = False := eq_false (by omega)
@[simp] theorem next_ne2' (n : Nat) : (n = n + 1 + 1) = False := eq_false (by omega)
@[simp] theorem next_ne3 (n : Nat) : (n + 1 + 1 + 1 = n) = False := eq_false (by omega)
@[simp] theorem next_ne3' (n : Nat) : (n = n + 1 + 1 + 1) = False := eq_false (by omega)
@[simp] theorem next_ne4 (n : Nat) : (n + 1 + 1 + 1 + 1 = n) = False := eq_false (by omega)
@[simp] theorem next_ne4' (n : Nat) : (n = n + 1 + 1 + 1 + 1) = False := eq_false (by omega)
@[simp] theorem next_ne5 (n : Nat) : (n + 1 + 1 + 1 + 1 + 1 = n) = False := eq_false (by omega)
@[simp] theorem next_ne5' (n : Nat) : (n = n + 1 + 1 + 1 + 1 + 1) = False := eq_false (by omega)
@[simp] theorem next_ne6 (n : Nat) : (n + 1 + 1 + 1 + 1 + 1 + 1 = n) = False := eq_false (by omega)
@[simp] theorem next_ne6' (n : Nat) : (n = n + 1 + 1 + 1 + 1 + 1 + 1) = False := eq_false (by omega)
@[simp] theorem next_ne7 (n : Nat) : (n + 1 + 1 + 1 + 1 + 1 + 1 + 1 = n) = False := eq_false (by omega)
@[simp] theorem next_ne7' (n : Nat) : (n = n + 1 + 1 + 1 + 1 + 1 + 1 + 1) = False := eq_false (by omega)
@[simp] theorem next_ne8 (n : Nat) : (n + 1 + 1 + 1 + 1 + 1 + 1 + 1 + 1 = n) = False := eq_false (by omega)
@[simp] theorem next_ne8' (n : Nat) : (n = n + 1 + 1 + 1 + 1 + 1 + 1 + 1 + 1) = False := eq_false (by omega)
@[simp] theorem next_ne9 (n : Nat) : (n + 1 + 1 + 1 + 1 + 1 + 1 + 1 + 1 + 1 = n) = False := eq_false (by omega)
@[simp] theorem next_ne9' (n : Nat) : (n = n + 1 + 1 + 1 + 1 + 1 + 1 + 1 + 1 + 1) = False := eq_false (by omega)
section
variable {P : Program}
@[simp] theorem evps_nil (ev : Operand → Option AV) : evps ev [] = some [] := rfl
def oc3 (i : Nat) (a : Option AV) (l : Option (List (Nat × AV))) : Option (List (Nat × AV)) := match a, l with | some a, some b => some ((i, a) :: b) | _, _ => none
@[simp] theorem evps_cons (ev : Operand → Option AV) (i : Nat) (x : Operand) (r : List (Nat × Operand)) : evps ev ((i, x) :: r) = oc3 i (ev x) (evps ev r) := by
  simp only [evps, oc3]
  cases ev x with
  | none => rfl
  | some v => cases evps ev r <;> rfl
@[simp] theorem oc3_some (i : Nat) (a : AV) (l : List (Nat × AV)) : oc3 i (some a) (some l) = some ((i, a) :: l) := rfl
def bd2 (P : Program) (t : TypeId) (l : Option (List (Nat × AV))) : Option AV := match l with | some l => pbuild P t l | none => none
@[simp] theorem ppure_build (ev : Operand → Option AV) (t : TypeId) (ps : Array (Nat × Operand)) : ppure P ev (.build t ps) = bd2 P t (evps ev ps.toList) := rfl
@[simp] theorem bd2_some (t : TypeId) (l : List (Nat × AV)) : bd2 P t (some l) = pbuild P t l := rfl
/-- The cells of a slice that is built. -/
def pbs (P : Program) (t : TypeId) (len : Nat) (l : List (Nat × AV)) : Option (TypeId × List AV × Mk) :=
  match P.underlying t with
  | some (.slice e) =>
    match tsz P e, tzero P e with
    | some n, some z =>
      if len * n ≤ 16777216 ∧ z.cells.length = n then
        match afill (fun i => some (i * n, n)) (reps len z.cells) l with
        | some cs => if cs.all AV.one then some (e, cs, .sl len len) else none
        | none => none
      else none
    | _, _ => none
  | _ => none
def bs2 (P : Program) (t : TypeId) (len : Nat) (l : Option (List (Nat × AV))) : Option (TypeId × List AV × Mk) := match l with | some l => pbs P t len l | none => none
@[simp] theorem bs2_some (t : TypeId) (len : Nat) (l : List (Nat × AV)) : bs2 P t len (some l) = pbs P t len l := rfl
@[simp] theorem palloc_buildSlice (ev : Operand → Option AV) (t : TypeId) (len : Nat) (ps : Array (Nat × Operand)) : palloc P ev (.buildSlice t len ps) = bs2 P t len (evps ev ps.toList) := by
  simp only [palloc, bs2, pbs]
  cases evps ev ps.toList with
  | none => cases P.underlying t with
    | none => rfl
    | some d => cases d <;> rfl
  | some l => cases P.underlying t with
    | none => rfl
    | some d => cases d <;> rfl
def pal (P : Program) (e : TypeId) : Option (TypeId × List AV × Mk) := match tzero P e with
  | some z => if z.cells.all AV.one then some (e, z.cells, .ptr) else none
  | none => none
@[simp] theorem palloc_alloc (ev : Operand → Option AV) (e : TypeId) : palloc P ev (.alloc e) = pal P e := rfl
/-- A store into known cells. -/
def stc (P : Program) (t : TypeId) (x : AObj) (o : Nat) (v : AV) : Option AObj := match x with
  | .cells ty cs (some f) => match tsz P t with
    | some n => if v.cells.length = n ∧ f ≤ o ∧ o + v.cells.length ≤ cs.length ∧ v.cells.all AV.one = true then some (.cells ty (splice cs o v.cells) (some f)) else none
    | none => none
  | _ => none
def Ws (x : Option AObj) (h : AHeap) (b : Nat) (K : AV → AHeap → Prop) : Prop := match x with | some ob => K (.tuple []) (h.set b ob) | none => False
@[simp] theorem Ws_some (x : AObj) (h : AHeap) (b : Nat) (K : AV → AHeap → Prop) : Ws (some x) h b K = K (.tuple []) (h.set b x) := rfl
@[congr] theorem Ws_congr {x x' : Option AObj} {h : AHeap} {b : Nat} {K : AV → AHeap → Prop} (hx : x = x') : Ws x h b K = Ws x' h b K := by rw [hx]
@[simp] theorem Wh_store (h : AHeap) (t : TypeId) (b o : Nat) (v : AV) (K : AV → AHeap → Prop) : Wh (astore P h t (.ptr b o) v) K = Ws (stc P t (h.get b) o v) h b K := by
  simp only [Wh, Ws, astore, stc]
  cases h.get b with
  | dead => rfl
  | map a b c => rfl
  | cells ty cs wr =>
    cases wr with
    | none => rfl
    | some f =>
      simp only []
      cases tsz P t with
      | none => rfl
      | some n =>
        simp only []
        by_cases hc : v.cells.length = n ∧ f ≤ o ∧ o + v.cells.length ≤ cs.length ∧ v.cells.all AV.one = true
        · rw [if_pos hc, if_pos hc]
        · rw [if_neg hc, if_neg hc]
theorem splice_all (cs l : List AV) (h : cs.length = l.length) : splice cs 0 l = l := by
  simp [splice, ← h]
theorem stc_all {t : TypeId} {n : Nat} (hs : tsz P t = some n) {ty : TypeId} {cs : List AV} {v : AV} (h1 : cs.length = n) (h2 : v.cells.length = n) (h3 : allOne v = true) : stc P t (.cells ty cs (some 0)) 0 v = some (.cells ty v.cells (some 0)) := by
  simp only [stc, hs]
  rw [if_pos ⟨h2, Nat.le_refl _, by omega, h3⟩, splice_all _ _ (by omega)]
theorem stc_one {t : TypeId} (hs : tsz P t = some 1) {ty : TypeId} {cs : List AV} {o : Nat} {v : AV} (h1 : o < cs.length) (h2 : v.cells = [v]) (h3 : allOne v = true) : stc P t (.cells ty cs (some 0)) o v = some (.cells ty (cs.set o v) (some 0)) := by
  have e : splice cs o [v] = cs.set o v := by
    rw [splice, List.set_eq_take_append_cons_drop, if_pos h1]
    simp
  have h3' : v.cells.all AV.one = true := h3
  simp only [stc, hs]
  rw [h2] at h3' ⊢
  rw [if_pos ⟨rfl, Nat.zero_le _, by simp; omega, h3'⟩, e]
def pms (P : Program) (t : TypeId) (vl vc : AV) : Option (TypeId × List AV × Mk) :=
  match P.underlying t with
  | some (.slice e) =>
      match nat? vl, nat? vc, tsz P e, tbytes P e, tzero P e with
      | some l, some c, some n, some by_, some z =>
        if l ≤ c ∧ by_ * c ≤ 281474976710656 ∧ c ≤ 9223372036854775807 ∧ z.cells.length = n ∧ z.cells.all AV.one = true then some (e, reps c z.cells, .sl l c) else none
      | _, _, _, _, _ => none
  | _ => none
def ms2 (P : Program) (t : TypeId) (l c : Option AV) : Option (TypeId × List AV × Mk) := match l, c with | some l, some c => pms P t l c | _, _ => none
@[simp] theorem ms2_some (t : TypeId) (l c : AV) : ms2 P t (some l) (some c) = pms P t l c := rfl
@[simp] theorem palloc_makeSlice (ev : Operand → Option AV) (t : TypeId) (l c : Operand) : palloc P ev (.makeSlice t l c) = ms2 P t (ev l) (ev c) := by
  simp only [palloc, ms2, pms]
  cases ev l with
  | none => cases P.underlying t with
    | none => rfl
    | some d => cases d <;> rfl
  | some x => cases ev c with
    | none => cases P.underlying t with
      | none => rfl
      | some d => cases d <;> rfl
    | some y => cases P.underlying t with
      | none => rfl
      | some d => cases d <;> rfl
theorem reps_single (n : Nat) (v : AV) : reps n [v] = List.replicate n v := by
  induction n with
  | zero => rfl
  | succ n ih => simp only [reps, List.replicate_succ, List.flatten_cons] at ih ⊢; rw [ih]; rfl
theorem pms_int {t e : TypeId} (hu : P.underlying t = some (.slice e)) (hs : tsz P e = some 1) {by_ : Nat} (hy : tbytes P e = some by_) {k : IntKind} (hz : tzero P e = some (.int k 0)) {n : Nat} (hn : by_ * n ≤ 281474976710656) (hn2 : n ≤ 9223372036854775807) :
    pms P t (.int .i64 n) (.int .i64 n) = some (e, List.replicate n (.int k 0), .sl n n) := by
  simp only [pms, hu, nat?, Int.toNat_natCast, hs, hy, hz]
  rw [if_pos (by omega)]
  simp only []
  rw [if_pos ⟨Nat.le_refl _, hn, hn2, rfl, rfl⟩, cells_int, reps_single]
end
attribute [irreducible] Ws
end Go.Eng
