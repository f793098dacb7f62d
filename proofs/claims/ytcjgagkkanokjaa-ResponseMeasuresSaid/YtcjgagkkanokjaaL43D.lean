/- Law 43: what is measured, in plain Lean. -/
import Derived.Test.YtcjgagkkanokjaaL43C
namespace Go.Eng.L43
open Go.Proofs Go.Eng

def relOf (i : Nat) (e : Ev) : List Int := if ieq e.kind 6 && ieq e.a i then List.replicate (e.b + 1).toNat e.tm else []
def rels (i : Nat) : List Ev → List Int
  | [] => []
  | e :: r => relOf i e ++ rels i r
theorem rels_append (i : Nat) : ∀ a b : List Ev, rels i (a ++ b) = rels i a ++ rels i b
  | [], _ => rfl
  | e :: r, b => by simp [rels, rels_append i r b]
theorem rels_take {i : Nat} {l : List Ev} {k : Nat} (hk : k < l.length) : rels i (l.take (k + 1)) = rels i (l.take k) ++ relOf i l[k] := by
  rw [List.take_add_one, rels_append]; simp [List.getElem?_eq_getElem hk, rels]
def isComp (i : Nat) (last : Int) (e : Ev) : Bool := ieq e.kind 1 && ieq e.th i && ieq e.a 0 && ieq e.b last
def comps (i : Nat) (last : Int) : List Ev → List Int
  | [] => []
  | e :: r => if isComp i last e then e.tm :: comps i last r else comps i last r
theorem comps_append (i : Nat) (last : Int) : ∀ a b : List Ev, comps i last (a ++ b) = comps i last a ++ comps i last b
  | [], _ => rfl
  | e :: r, b => by
    simp only [List.cons_append, comps, comps_append i last r b]
    split <;> rfl
theorem comps_take {i : Nat} {last : Int} {l : List Ev} {k : Nat} (hk : k < l.length) : comps i last (l.take (k + 1)) = comps i last (l.take k) ++ (if isComp i last l[k] then [l[k].tm] else []) := by
  rw [List.take_add_one, comps_append]
  simp only [List.getElem?_eq_getElem hk, Option.toList_some, comps]
theorem comps_len (i : Nat) (last : Int) : ∀ l : List Ev, (comps i last l).length ≤ l.length
  | [] => by simp [comps]
  | e :: r => by
    have := comps_len i last r
    simp only [comps]
    split <;> simp <;> omega
def val (t r : Int) : Int := IntKind.i64.wrap (IntKind.i64.wrap (t - r) + 1)
def mx (m v : Int) : Int := if ilt m v then v else m
/-- The greatest of the first n answers, if each is a good one. -/
def measN (rel comp : List Int) : Nat → Option Int
  | 0 => some 0
  | n + 1 => match measN rel comp n with
    | none => none
    | some m => if decide (n < rel.length) && !ilt (comp.getD n 0) (rel.getD n 0) then some (mx m (val (comp.getD n 0) (rel.getD n 0))) else none
theorem measN_rel {rel comp : List Int} {T : Nat} : ∀ n, n ≤ T + 1 → measN (rel.take (T + 1)) comp n = measN rel comp n
  | 0, _ => rfl
  | n + 1, h => by
    have e1 : (rel.take (T + 1)).getD n 0 = rel.getD n 0 := by
      simp only [List.getD_eq_getElem?_getD, List.getElem?_take]
      rw [if_pos (by omega)]
    have e2 : decide (n < (rel.take (T + 1)).length) = decide (n < rel.length) := by
      congr 1
      rw [List.length_take]
      apply propext
      omega
    have e3 := measN_rel (rel := rel) (comp := comp) (T := T) n (by omega)
    simp only [measN, e3, e1, e2]
theorem measN_comp {rel comp more : List Int} : ∀ n, n ≤ comp.length → measN rel (comp ++ more) n = measN rel comp n
  | 0, _ => rfl
  | n + 1, h => by
    have e1 : (comp ++ more).getD n 0 = comp.getD n 0 := by
      simp only [List.getD_eq_getElem?_getD, List.getElem?_append_left (show n < comp.length by omega)]
    have e3 := measN_comp (rel := rel) (comp := comp) (more := more) n (by omega)
    simp only [measN, e3, e1]
theorem measN_none {rel comp : List Int} {n : Nat} (h : measN rel comp n = none) : ∀ m, n ≤ m → measN rel comp m = none
  | 0, hm => by have : n = 0 := by omega
                subst this; exact h
  | m + 1, hm => by
    by_cases e : n = m + 1
    · subst e; exact h
    · simp only [measN, measN_none h m (by omega)]
def lastOf (x : Tk) : Int := (pln x : Int) - 2
def meas (i : Nat) (x : Tk) (l : List Ev) : Option Int := measN (rels i l) (comps i (lastOf x) l) (comps i (lastOf x) l).length
def outs (ts : List Tk) (l : List Ev) : Nat → Option (List Int)
  | 0 => some []
  | k + 1 => match outs ts l k, ts[k]? with
    | some o, some x => match meas k x l with
      | some m => some (o ++ [m])
      | none => none
    | _, _ => none
theorem outs_len {ts : List Tk} {l : List Ev} : ∀ {k o}, outs ts l k = some o → o.length = k
  | 0, o, h => by simp [outs] at h; subst h; rfl
  | k + 1, o, h => by
    simp only [outs] at h
    split at h
    · rename_i o' x h1 h2
      split at h
      · cases h; simp [outs_len h1]
      · cases h
    · cases h
theorem outs_none {ts : List Tk} {l : List Ev} {k : Nat} (h : outs ts l k = none) : ∀ m, k ≤ m → outs ts l m = none
  | 0, hm => by have : k = 0 := by omega
                subst this; exact h
  | m + 1, hm => by
    by_cases e : k = m + 1
    · subst e; exact h
    · simp only [outs, outs_none h m (by omega)]
theorem outs_succ {ts : List Tk} {l : List Ev} {k : Nat} {o : List Int} (h : outs ts l k = some o) (hk : k < ts.length) : outs ts l (k + 1) = (meas k ts[k] l).map fun m => o ++ [m] := by
  simp only [outs, h, List.getElem?_eq_getElem hk]
  cases meas k ts[k] l <;> rfl
/-- What both functions answer. -/
def MeasR (h : AHeap) (r : AV) (t0 t1 : Int) (cs : List Int) (ts : List Tk) (l : List Ev) : Prop :=
  if chkE t0 t1 cs ts = 0 then
    match outs ts l ts.length with
    | some o => ∃ x, r = .tuple [x, .int .i64 0] ∧ Sl h 1 x ((o.map (AV.int .i64)).map fun v => [v])
    | none => r = .tuple [.nilsl, .int .i64 14]
  else r = .tuple [.nilsl, .int .i64 (chkE t0 t1 cs ts)]
end Go.Eng.L43
