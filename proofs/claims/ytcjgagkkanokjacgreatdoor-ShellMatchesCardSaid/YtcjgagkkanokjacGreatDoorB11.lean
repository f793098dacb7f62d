/- Law 41: the plain law: the two matchers agree. -/
import Derived.Test.YtcjgagkkanokjacGreatDoorB10
namespace Go.Eng.L41
open Go.Proofs Go.Eng
/-- From place i to place j by an element. -/
def erel (e : El) (name : List UInt8) (i j : Nat) : Prop := if e.1 = true then wrel (e.2 == 42) name i j else name[i]? = some e.2 ∧ j = i + 1
def ereach (name : List UInt8) : List El → Nat → Nat → Prop
  | [], i, j => i = j
  | e :: l, i, j => ∃ k, erel e name i k ∧ ereach name l k j
theorem erel_le {e : El} {name : List UInt8} {i j : Nat} (h : erel e name i j) (hi : i ≤ name.length) : j ≤ name.length := by
  unfold erel at h
  split at h
  · rcases h with ⟨_, rfl⟩ | ⟨_, h, _⟩
    · exact hi
    · exact h
  · obtain ⟨h1, rfl⟩ := h
    have := (List.getElem?_eq_some_iff.1 h1).1
    omega
theorem ereach_le {name : List UInt8} : ∀ (l : List El) (i j : Nat), ereach name l i j → i ≤ name.length → j ≤ name.length
  | [], i, j, h, hi => by have : i = j := h; omega
  | e :: l, i, j, ⟨k, h1, h2⟩, hi => ereach_le l k j h2 (erel_le h1 hi)
theorem ereach_append {name : List UInt8} : ∀ (a b : List El) (i j : Nat), ereach name (a ++ b) i j ↔ ∃ k, ereach name a i k ∧ ereach name b k j
  | [], b, i, j => by
    constructor
    · intro h; exact ⟨i, rfl, h⟩
    · rintro ⟨k, h1, h2⟩
      have : i = k := h1
      subst this; exact h2
  | e :: a, b, i, j => by
    simp only [List.cons_append, ereach]
    constructor
    · rintro ⟨k, h1, h2⟩
      obtain ⟨m, h3, h4⟩ := (ereach_append a b k j).1 h2
      exact ⟨m, ⟨k, h1, h3⟩, h4⟩
    · rintro ⟨m, ⟨k, h1, h3⟩, h4⟩
      exact ⟨k, h1, (ereach_append a b k j).2 ⟨m, h3, h4⟩⟩
theorem ereach_one {name : List UInt8} {e : El} {i j : Nat} : ereach name [e] i j ↔ erel e name i j := by
  constructor
  · rintro ⟨k, h1, h2⟩
    have : k = j := h2
    subst this; exact h1
  · intro h; exact ⟨j, h, rfl⟩
/-! ### stars that are merged -/
theorem star_twice {name : List UInt8} {i j : Nat} : (∃ k, wrel true name i k ∧ wrel true name k j) ↔ wrel true name i j := by
  constructor
  · rintro ⟨k, h1, h2⟩
    rcases h1 with ⟨_, rfl⟩ | ⟨a1, a2, a3, a4⟩
    · exact h2
    · rcases h2 with ⟨_, rfl⟩ | ⟨b1, b2, b3, b4⟩
      · exact .inr ⟨a1, a2, a3, a4⟩
      · exact .inr ⟨by omega, b2, .inl rfl, a4⟩
  · intro h; exact ⟨i, .inl ⟨rfl, rfl⟩, h⟩
theorem push_reach {name : List UInt8} (l : List El) (e : El) (i j : Nat) : ereach name (push l e) i j ↔ ereach name (l ++ [e]) i j := by
  unfold push
  split
  · rename_i h
    simp only [Bool.and_eq_true, beq_iff_eq] at h
    obtain ⟨⟨h1, h2⟩, h3⟩ := h
    obtain ⟨l', rfl⟩ := List.getLast?_eq_some_iff.1 h3
    have er : ∀ a b, erel e name a b ↔ wrel true name a b := fun a b => by
      unfold erel
      rw [if_pos h1, h2]; rfl
    constructor
    · intro h
      obtain ⟨k, k1, k2⟩ := (ereach_append _ _ _ _).1 h
      rw [ereach_one, er] at k2
      refine (ereach_append _ _ _ _).2 ⟨k, (ereach_append _ _ _ _).2 ⟨k, k1, ereach_one.2 ((er _ _).2 (.inl ⟨rfl, rfl⟩))⟩, ereach_one.2 ((er _ _).2 k2)⟩
    · intro h
      obtain ⟨k, k1, k2⟩ := (ereach_append _ _ _ _).1 h
      obtain ⟨m, m1, m2⟩ := (ereach_append _ _ _ _).1 k1
      rw [ereach_one, er] at k2 m2
      exact (ereach_append _ _ _ _).2 ⟨m, m1, ereach_one.2 ((er _ _).2 (star_twice.1 ⟨k, m2, k2⟩))⟩
  · exact Iff.rfl
theorem foldl_reach {name : List UInt8} : ∀ (k l : List El) (i j : Nat), ereach name (k.foldl push l) i j ↔ ereach name (l ++ k) i j
  | [], l, i, j => by simp
  | e :: k, l, i, j => by
    rw [List.foldl_cons, foldl_reach k (push l e) i j, ereach_append]
    rw [show l ++ e :: k = (l ++ [e]) ++ k by simp, ereach_append (l ++ [e])]
    constructor
    · rintro ⟨m, h1, h2⟩; exact ⟨m, (push_reach l e i m).1 h1, h2⟩
    · rintro ⟨m, h1, h2⟩; exact ⟨m, (push_reach l e i m).2 h1, h2⟩
/-! ### fits walks over the elements -/
theorem point_eq (name : List UInt8) (i : Nat) : (decide (i = 0) && (name.drop i).head? == some 46) = !okAt name i := by
  unfold okAt
  by_cases h : i = 0
  · subst h; simp
  · have : 0 < i := by omega
    simp [h, this]
theorem fits_reach {name : List UInt8} : ∀ (l : List El) (i : Nat), i ≤ name.length → (fitsL l (name.drop i) (decide (i = 0)) = true ↔ ereach name l i name.length)
  | [], i, hi => by
    simp only [fitsL, ereach, beq_iff_eq, List.drop_eq_nil_iff]
    omega
  | e :: l, i, hi => by
    have hd : ∀ t, (name.drop i).drop t = name.drop (i + t) := fun t => by rw [List.drop_drop]
    have hh : (name.drop i).head? = name[i]? := by rw [List.head?_drop]
    simp only [fitsL, point_eq, ereach]
    split
    · rename_i hs
      simp only [Bool.and_eq_true] at hs
      have er : ∀ k, erel e name i k ↔ wrel true name i k := fun k => by
        unfold erel
        rw [if_pos hs.1, hs.2]
      simp only [List.any_eq_true, List.mem_range, List.length_drop, Bool.and_eq_true, Bool.not_eq_true', Bool.and_eq_false_iff, decide_eq_false_iff_not, er]
      constructor
      · rintro ⟨t, t1, t2, t3⟩
        have e1 : (decide (i = 0) && decide (t = 0)) = decide (i + t = 0) := by
          rw [Bool.eq_iff_iff]; simp
        rw [hd, e1, fits_reach l (i + t) (by omega)] at t3
        refine ⟨i + t, ?_, t3⟩
        by_cases h0 : t = 0
        · subst h0; exact .inl ⟨rfl, rfl⟩
        · rcases t2 with t2 | t2
          · omega
          · exact .inr ⟨by omega, by omega, .inl rfl, by simpa using t2⟩
      · rintro ⟨k, k1, k2⟩
        have hik : i ≤ k ∧ k ≤ name.length ∧ (k = i ∨ okAt name i = true) := by
          rcases k1 with ⟨_, rfl⟩ | ⟨a1, a2, a3, a4⟩
          · exact ⟨by omega, hi, .inl rfl⟩
          · exact ⟨by omega, a2, .inr a4⟩
        obtain ⟨h1, h2, h3⟩ := hik
        refine ⟨k - i, by omega, ?_, ?_⟩
        · rcases h3 with h3 | h3
          · exact .inl (by omega)
          · exact .inr (by simp [h3])
        · have e1 : (decide (i = 0) && decide (k - i = 0)) = decide (k = 0) := by
            rw [Bool.eq_iff_iff]; simp; omega
          rw [hd, e1, show i + (k - i) = k by omega, fits_reach l k h2]
          exact k2
    · rename_i hs
      have ih : i + 1 ≤ name.length → (fitsL l (name.drop (i + 1)) false = true ↔ ereach name l (i + 1) name.length) := fun h => by
        have := fits_reach l (i + 1) h
        simpa using this
      rw [hd]
      by_cases h1 : e.1 = true
      · have h42 : (e.2 == 42) = false := by
          cases hx : (e.2 == 42) with
          | true => exact (hs (by rw [h1, hx]; rfl)).elim
          | false => rfl
        have er : ∀ k, erel e name i k ↔ wrel false name i k := fun k => by
          unfold erel
          rw [if_pos h1, h42]
        simp only [er, h1]
        constructor
        · intro h
          simp at h
          obtain ⟨⟨a1, a2⟩, a3⟩ := h
          refine ⟨i + 1, .inr ⟨by omega, by omega, .inr rfl, a2⟩, (ih (by omega)).1 a3⟩
        · rintro ⟨k, k1, k2⟩
          rcases k1 with ⟨k1, _⟩ | ⟨a1, a2, a3, a4⟩
          · cases k1
          · rcases a3 with a3 | a3
            · cases a3
            · subst a3
              simp [a4]
              exact ⟨by omega, (ih a2).2 k2⟩
      · have h1' : e.1 = false := by simpa using h1
        have er : ∀ k, erel e name i k ↔ name[i]? = some e.2 ∧ k = i + 1 := fun k => by
          unfold erel
          rw [if_neg h1]
        simp only [er, h1', hh]
        constructor
        · intro h
          simp at h
          obtain ⟨⟨a1, a2⟩, a3⟩ := h
          exact ⟨i + 1, ⟨a2, rfl⟩, (ih (by omega)).1 a3⟩
        · rintro ⟨k, ⟨k1, rfl⟩, k2⟩
          have := (List.getElem?_eq_some_iff.1 k1).1
          simp [k1]
          exact ⟨by omega, (ih (by omega)).2 k2⟩
/-! ### parts -/
theorem lit_reach {name : List UInt8} : ∀ (t : List UInt8) (i j : Nat), i ≤ name.length → (ereach name (t.map fun c => (false, c)) i j ↔ hasP (name.drop i) t = true ∧ j = i + t.length)
  | [], i, j, hi => by
    simp only [List.map_nil, ereach, hasP, List.length_nil, List.take_zero]
    simp
    omega
  | c :: t, i, j, hi => by
    simp only [List.map_cons, ereach, erel, Bool.false_eq_true, if_false, hasP, List.length_cons]
    constructor
    · rintro ⟨k, ⟨h1, rfl⟩, h2⟩
      have hlt := (List.getElem?_eq_some_iff.1 h1).1
      have := (lit_reach t (i + 1) j (by omega)).1 h2
      simp only [hasP, Bool.and_eq_true, decide_eq_true_eq, beq_iff_eq, List.length_drop] at this ⊢
      obtain ⟨⟨a1, a2⟩, a3⟩ := this
      refine ⟨⟨by omega, ?_⟩, by omega⟩
      rw [List.drop_eq_getElem_cons hlt, List.take_succ_cons, a2]
      have := (List.getElem?_eq_some_iff.1 h1).2
      rw [this]
    · rintro ⟨h1, rfl⟩
      simp only [Bool.and_eq_true, decide_eq_true_eq, beq_iff_eq, List.length_drop] at h1
      obtain ⟨a1, a2⟩ := h1
      have hlt : i < name.length := by omega
      rw [List.drop_eq_getElem_cons hlt, List.take_succ_cons, List.cons.injEq] at a2
      refine ⟨i + 1, ⟨by rw [List.getElem?_eq_getElem hlt, a2.1], rfl⟩, (lit_reach t (i + 1) _ (by omega)).2 ⟨?_, by omega⟩⟩
      simp only [hasP, Bool.and_eq_true, decide_eq_true_eq, beq_iff_eq, List.length_drop]
      exact ⟨by omega, a2.2⟩
theorem part_reach {name : List UInt8} {p : Prt} (ho : oddP p = false) {i j : Nat} (hi : i ≤ name.length) : ereach name (partEls p) i j ↔ prel p name i j := by
  unfold prel partEls
  obtain ⟨k, s⟩ := p
  by_cases h4 : k = 4
  · subst h4
    simp only [if_true]
    have : s = [42] ∨ s = [63] := by
      simp only [oddP, Bool.or_eq_false_iff, Bool.and_eq_false_iff] at ho
      rcases ho.2 with (h | h) | h
      · rw [ieq_false] at h; exact (h rfl).elim
      · exact .inl (by simpa using h)
      · exact .inr (by simpa using h)
    rcases this with rfl | rfl
    · show ereach name [(true, 42)] i j ↔ _
      rw [ereach_one]; rfl
    · show ereach name [(true, 63)] i j ↔ _
      rw [ereach_one]; rfl
  · simp only [h4, if_false]
    have : (k == 4) = false := by simpa using h4
    rw [this]
    exact lit_reach s i j hi
theorem rch_reach {W : List Prt} {name : List UInt8} (ho : ∀ p ∈ W, oddP p = false) : ∀ (i j : Nat), i ≤ W.length → (rch W name i j ↔ ereach name ((W.take i).flatMap partEls) 0 j)
  | 0, j, _ => by
    simp only [rch, List.take_zero, List.flatMap_nil, ereach]
    omega
  | i + 1, j, hi => by
    have hlt : i < W.length := by omega
    rw [List.take_add_one, List.getElem?_eq_getElem hlt, List.flatMap_append, ereach_append]
    simp only [rch, List.getElem?_eq_getElem hlt, Option.some.injEq]
    have e : (some W[i]).toList.flatMap partEls = partEls W[i] := by simp
    rw [e]
    constructor
    · rintro ⟨p, k, rfl, h1, h2, h3⟩
      exact ⟨k, (rch_reach ho i k (by omega)).1 h2, (part_reach (ho _ (List.getElem_mem _)) (by omega)).2 h3⟩
    · rintro ⟨k, h1, h2⟩
      have hk := ereach_le _ _ _ h1 (by omega)
      exact ⟨W[i], k, rfl, by omega, (rch_reach ho i k (by omega)).2 h1, (part_reach (ho _ (List.getElem_mem _)) hk).1 h2⟩
/-- The two matchers agree. -/
theorem plain_law (W : List Prt) (name : List UInt8) (ho : W.any oddP = false) : matched W name ↔ kOk W ∧ fitsL (elsOf W) name true = true := by
  have ho' : ∀ p ∈ W, oddP p = false := fun p hp => by
    cases h : oddP p with
    | false => rfl
    | true => rw [List.any_eq_false] at ho; exact absurd h (ho p hp)
  have h1 : rch W name W.length name.length ↔ fitsL (elsOf W) name true = true := by
    rw [rch_reach ho' _ _ (Nat.le_refl _), List.take_length]
    have h2 := fits_reach (name := name) (elsOf W) 0 (by omega)
    rw [List.drop_zero] at h2
    have h3 : fitsL (elsOf W) name true = true ↔ ereach name (elsOf W) 0 name.length := h2
    rw [h3]
    unfold elsOf
    rw [foldl_reach, List.nil_append]
  unfold matched
  rw [h1]
  exact Iff.rfl
end Go.Eng.L41
