/- The engine, part 18: regions that draw and are calm; a calculus of weakest preconditions over the engine. -/
import Derived.Test.YtcjgagkkanokjaaE17
namespace Go.Eng

/-! ### calm regions: every load lies in order with every effect, and no block is made -/
def calmRow (M : List Nat) (l : Nat) : List Oper → Nat → Bool
  | [], _ => true
  | o :: r, e => (!isEff o || (Nat.blt e l && bit M l e) || (Nat.blt l e && bit M e l)) && calmRow M l r (e + 1)
def calmRows (M : List Nat) (ops : List Oper) : List Oper → Nat → Bool
  | [], _ => true
  | o :: r, l => !isAlloc o && (!isLoad o || calmRow M l ops 0) && calmRows M ops r (l + 1)
def calm (ops : Array Oper) : Bool := still ops.toList || calmRows (masks ops) ops.toList ops.toList 0

theorem calmRow_at {M : List Nat} {l : Nat} : ∀ (r : List Oper) (k : Nat), calmRow M l r k = true → ∀ i o, r[i]? = some o → isEff o = true → (k + i < l ∧ bit M l (k + i) = true) ∨ (l < k + i ∧ bit M (k + i) l = true)
  | [], k, _, i, o, hi, _ => by simp at hi
  | x :: r, k, h, 0, o, hi, he => by
    simp only [List.getElem?_cons_zero, Option.some.injEq] at hi
    subst hi
    simp only [calmRow, Bool.and_eq_true, Bool.or_eq_true, he, Bool.not_true, Bool.false_eq_true, false_or] at h
    have blt : ∀ a b : Nat, Nat.blt a b = true → a < b := fun a b hb => (by simpa [Nat.blt, Nat.ble_eq] using hb : a + 1 ≤ b)
    rcases h.1 with h | h
    · exact .inl ⟨by simpa using blt _ _ h.1, by simpa using h.2⟩
    · exact .inr ⟨by simpa using blt _ _ h.1, by simpa using h.2⟩
  | x :: r, k, h, i + 1, o, hi, he => by
    simp only [calmRow, Bool.and_eq_true] at h
    have := calmRow_at r (k + 1) h.2 i o (by simpa using hi) he
    rw [show k + (i + 1) = k + 1 + i by omega]
    exact this
theorem window_at {M : List Nat} {l s : Nat} : ∀ (r : List Oper) (k : Nat), window M l s r k = true → ∀ i o, r[i]? = some o → isEff o = true →
    (k + i < l → bit M l (k + i) = true → k + i < s) ∧ (l < k + i → bit M (k + i) l = true → s ≤ k + i)
  | [], k, _, i, o, hi, _ => by simp at hi
  | x :: r, k, h, 0, o, hi, he => by
    simp only [List.getElem?_cons_zero, Option.some.injEq] at hi
    subst hi
    simp only [window, Bool.and_eq_true, Bool.or_eq_true, he, Bool.not_true, Bool.false_eq_true, false_or, Bool.not_eq_true', Bool.and_eq_false_iff] at h
    have e1 : ∀ a b : Nat, Nat.blt a b = true ↔ a < b := fun a b => by simp only [Nat.blt, Nat.ble_eq]; omega
    have e2 : ∀ a b : Nat, Nat.blt a b = false ↔ ¬ a < b := fun a b => by rw [← e1, Bool.not_eq_true]
    obtain ⟨⟨h1, h2⟩, _⟩ := h
    refine ⟨fun a b => ?_, fun a b => ?_⟩
    · rcases h1 with (h1 | h1) | h1
      · exact absurd a ((e2 _ _).1 h1)
      · rw [show k + 0 = k by omega] at b; rw [b] at h1; cases h1
      · exact (e1 _ _).1 h1
    · rcases h2 with (h2 | h2) | h2
      · exact absurd a ((e2 _ _).1 h2)
      · rw [show k + 0 = k by omega] at b; rw [b] at h2; cases h2
      · simpa [Nat.ble_eq] using h2
  | x :: r, k, h, i + 1, o, hi, he => by
    simp only [window, Bool.and_eq_true] at h
    have := window_at r (k + 1) h.2 i o (by simpa using hi) he
    rw [show k + (i + 1) = k + 1 + i by omega]
    exact this
theorem calmRows_at {M : List Nat} {ops : List Oper} : ∀ (r : List Oper) (k : Nat), calmRows M ops r k = true → ∀ i o, r[i]? = some o → isAlloc o = false ∧ (isLoad o = true → calmRow M (k + i) ops 0 = true)
  | [], k, _, i, o, hi => by simp at hi
  | x :: r, k, h, 0, o, hi => by
    simp only [List.getElem?_cons_zero, Option.some.injEq] at hi
    subst hi
    simp only [calmRows, Bool.and_eq_true, Bool.or_eq_true, Bool.not_eq_true'] at h
    refine ⟨h.1.1, fun hl => ?_⟩
    rcases h.1.2 with h | h
    · rw [hl] at h; cases h
    · exact h
  | x :: r, k, h, i + 1, o, hi => by
    simp only [calmRows, Bool.and_eq_true] at h
    rw [show k + (i + 1) = k + 1 + i by omega]
    exact calmRows_at r (k + 1) h.2 i o (by simpa using hi)

/-- The heap before operation number k. -/
def hpAt (tr : List Rec) (hl : AHeap) (k : Nat) : AHeap := match tr[k]? with | some r => r.h | none => hl
theorem hpAt_cons (x : Rec) (tr : List Rec) (hl : AHeap) (k : Nat) : hpAt (x :: tr) hl (k + 1) = hpAt tr hl k := by simp [hpAt]
theorem states_at : ∀ (r : List Oper) (tr : List Rec) (i : Nat) (hl : AHeap) (s : Nat) (hs : AHeap), r.length = tr.length → (s, hs) ∈ states r tr i hl → ∃ j o, r[j]? = some o ∧ isEff o = true ∧ s = i + j + 1 ∧ hs = hpAt tr hl (j + 1)
  | [], [], _, _, _, _, _, h => by simp [states] at h
  | [], _ :: _, _, _, _, _, hlen, _ => by simp at hlen
  | _ :: _, [], _, _, _, _, hlen, _ => by simp at hlen
  | o :: r, x :: tr, i, hl, s, hs, hlen, h => by
    simp only [states] at h
    have tail : (s, hs) ∈ states r tr (i + 1) hl → ∃ j o', (o :: r)[j]? = some o' ∧ isEff o' = true ∧ s = i + j + 1 ∧ hs = hpAt (x :: tr) hl (j + 1) := fun h => by
      obtain ⟨j, o', h1, h2, h3, h4⟩ := states_at r tr (i + 1) hl s hs (by simpa using hlen) h
      exact ⟨j + 1, o', by simpa using h1, h2, by omega, by rw [hpAt_cons]; exact h4⟩
    split at h
    · rename_i he
      rcases List.mem_cons.1 h with h | h
      · cases h
        exact ⟨0, o, rfl, he, by omega, by rw [hpAt_cons]; cases tr <;> rfl⟩
      · exact tail h
    · exact tail h

section
variable {P : Program} {call : CallFn} {ops : Array Oper}
theorem astep_keep {fr : AFrame} {h h' : AHeap} {o : Oper} {v : AV} (ho : astep P call ops fr h o = some (v, h')) (h1 : isEff o = false) (h2 : isAlloc o = false) : h' = h := by
  unfold astep at ho
  split at ho
  · unfold aop at ho
    split at ho
    · split at ho <;> cases ho; rfl
    · split at ho <;> cases ho; rfl
    · rename_i hk; simp [isAlloc, hk] at h2
    · rename_i hk; simp [isEff, hk] at h1
  · cases ho; rfl
  · cases ho
theorem astep_load {fr : AFrame} {h h' : AHeap} {o : Oper} {v : AV} (ho : astep P call ops fr h o = some (v, h')) (h1 : isLoad o = true) (hw : awanted ops fr o = some true) : pload P h (aeval fr h.glob) o.op = some v := by
  unfold astep at ho
  rw [hw] at ho
  simp only at ho
  unfold aop at ho
  split at ho
  · rename_i hk; simp [isLoad, hk] at h1
  · split at ho
    · rename_i hv; cases ho; exact hv
    · cases ho
  · rename_i hk; simp [isLoad, hk] at h1
  · rename_i hk; simp [isLoad, hk] at h1
/-- From a run in the order of the text, its records. -/
theorem adops_of (hc : CallNx call) : ∀ (l : List Oper) (fr fr' : AFrame) (h h' : AHeap), aops P call ops l fr h = some (fr', h') →
    ∃ tr, adops P call ops l fr h = some (tr, fr', h') ∧ l.length = tr.length ∧ hpAt tr h' 0 = h ∧
      ∀ i o, l[i]? = some o → ∃ rec, tr[i]? = some rec ∧ ((isEff o = false ∧ isAlloc o = false) → hpAt tr h' (i + 1) = hpAt tr h' i) ∧
        (isLoad o = true → awanted ops rec.fr o = some true → pload P rec.h (aeval rec.fr rec.h.glob) o.op = some rec.v)
  | [], fr, fr', h, h', ho => by
    simp only [aops, Option.some.injEq, Prod.mk.injEq] at ho
    obtain ⟨rfl, rfl⟩ := ho
    exact ⟨[], rfl, rfl, rfl, fun i o hi => by simp at hi⟩
  | o :: l, fr, fr', h, h', ho => by
    simp only [aops] at ho
    split at ho
    · rename_i v h1 hs
      split at ho
      · rename_i fr1 hp
        obtain ⟨tr, h2, h3, h4, h5⟩ := adops_of hc l fr1 fr' h1 h' ho
        have hn := astep_nx hc hs
        refine ⟨⟨fr, h, v⟩ :: tr, ?_, by simp [h3], rfl, ?_⟩
        · simp only [adops, hs, hp, h2]
          rw [if_pos (by simp [Nat.ble_eq, hn.1, hn.2])]
        · intro i o' hi
          cases i with
          | zero =>
            simp only [List.getElem?_cons_zero, Option.some.injEq] at hi
            subst hi
            refine ⟨⟨fr, h, v⟩, rfl, fun hk => ?_, fun hl hw => ?_⟩
            · rw [hpAt_cons, h4]; exact astep_keep hs hk.1 hk.2
            · exact astep_load hs hl hw
          | succ i =>
            obtain ⟨rec, k1, k2, k3⟩ := h5 i o' (by simpa using hi)
            exact ⟨rec, by simpa using k1, fun hk => by rw [hpAt_cons, hpAt_cons]; exact k2 hk, k3⟩
      · cases ho
    · cases ho
theorem avEq_refl : (∀ v : AV, avEq v v = true) := by
  intro v
  exact AV.rec (motive_1 := fun v => avEq v v = true) (motive_2 := fun l => avsEq l l = true)
    (by intro b; simp [avEq]) (by intro k n; simp [avEq]) (by intro s; simp [avEq]) (by simp [avEq]) (by intro a b; simp [avEq]) (by simp [avEq])
    (by intro b o z l c; cases c <;> simp [avEq]) (by simp [avEq]) (by intro b; simp [avEq]) (by intro f c h; simp [avEq, h]) (by simp [avEq])
    (by intro t v h; simp [avEq, h]) (by simp [avEq]) (by intro l h; simp [avEq, h]) (by intro l h; simp [avEq, h])
    (by simp [avsEq]) (by intro a r h1 h2; simp [avsEq, h1, h2]) v
theorem loadsOk_of {P : Program} {ops : Array Oper} {M : List Nat} {sts : List (Nat × AHeap)} : ∀ (l : List Oper) (tr : List Rec) (k : Nat), (∀ i o rec, l[i]? = some o → tr[i]? = some rec → loadOk P ops M sts (k + i) o rec = true) → loadsOk P ops M sts l tr k = true
  | [], tr, _, _ => by cases tr <;> rfl
  | _ :: _, [], _, _ => rfl
  | o :: l, rec :: tr, k, h => by
    simp only [loadsOk, Bool.and_eq_true]
    refine ⟨h 0 o rec rfl rfl, loadsOk_of l tr (k + 1) fun i o' rec' h1 h2 => ?_⟩
    rw [show k + 1 + i = k + (i + 1) by omega]
    exact h (i + 1) o' rec' (by simpa using h1) (by simpa using h2)
/-- A calm region that draws is as one in the order of the text. -/
theorem adraw_calm (hc : CallNx call) {fr fr' : AFrame} {h h' : AHeap} (hd : drawOk ops = true) (hk : calm ops = true) (ho : aops P call ops ops.toList fr h = some (fr', h')) : adraw P call ops fr h = some (fr', h') := by
  obtain ⟨tr, h1, h2, h3, h4⟩ := adops_of hc _ _ _ _ _ ho
  unfold adraw
  rw [if_pos hd, h1]
  simp only
  rw [if_pos]
  unfold calm at hk
  cases hst : still ops.toList with
  | true => rfl
  | false =>
    rw [hst, Bool.false_or] at hk
    rw [Bool.false_or]
    refine loadsOk_of _ _ _ fun i o rec hi hr => ?_
    rw [Nat.zero_add]
    unfold loadOk
    split
    · rename_i hload
      split
      · rename_i hw
        obtain ⟨_, hcl⟩ := calmRows_at _ _ hk i o hi
        rw [Nat.zero_add] at hcl
        have hcl := hcl hload
        have hrec : hpAt tr h' i = rec.h := by simp [hpAt, hr]
        have keep : ∀ a b, a ≤ b → b ≤ ops.toList.length → (∀ j o, a ≤ j → j < b → ops.toList[j]? = some o → isEff o = false) → hpAt tr h' a = hpAt tr h' b := by
          intro a b hab hbl hne
          induction b with
          | zero => rw [show a = 0 by omega]
          | succ b ih =>
            by_cases e : a = b + 1
            · rw [e]
            · rw [ih (by omega) (by omega) fun j o' h5 h6 => hne j o' h5 (by omega)]
              have hb : ops.toList[b]? = some (ops.toList[b]'(by omega)) := List.getElem?_eq_getElem (by omega)
              obtain ⟨rb, _, k2, _⟩ := h4 b _ hb
              exact (k2 ⟨hne b _ (by omega) (by omega) hb, (calmRows_at _ _ hk b _ hb).1⟩).symm
        have hil : i < ops.toList.length := by rw [List.getElem?_eq_some_iff] at hi; exact hi.1
        have good : ∀ s hs, (s, hs) ∈ (0, h) :: states ops.toList tr 0 h' → window (masks ops) i s ops.toList 0 = true → hs = rec.h := by
          intro s hs hmem hwin
          have first : hs = hpAt tr h' s ∧ (s = 0 ∨ ∃ j oj, s = j + 1 ∧ ops.toList[j]? = some oj ∧ isEff oj = true) := by
            rcases List.mem_cons.1 hmem with e | e
            · cases e; exact ⟨h3.symm, .inl rfl⟩
            · obtain ⟨j, oj, e1, e2, e3, e4⟩ := states_at _ _ _ _ _ _ h2 e
              rw [Nat.zero_add] at e3
              exact ⟨by rw [e3]; exact e4, .inr ⟨j, oj, e3, e1, e2⟩⟩
          obtain ⟨e1, e2⟩ := first
          rw [e1, ← hrec]
          have hsi : s ≤ i := by
            rcases e2 with e2 | ⟨j, oj, e2, e3, e4⟩
            · omega
            · have hne : j ≠ i := by
                intro e; subst e
                rw [e3] at hi; cases hi
                revert hload e4
                unfold isLoad isEff
                cases kind o.op <;> simp
              have := calmRow_at _ _ hcl j oj e3 e4
              have w := window_at _ _ hwin j oj e3 e4
              simp only [Nat.zero_add] at this w
              rcases this with ⟨h5, _⟩ | ⟨h5, h6⟩
              · omega
              · have := w.2 h5 h6; omega
          refine keep s i hsi (by omega) fun j oj h5 h6 h7 => ?_
          cases he : isEff oj with
          | false => rfl
          | true =>
            exfalso
            have := calmRow_at _ _ hcl j oj h7 he
            have w := window_at _ _ hwin j oj h7 he
            simp only [Nat.zero_add] at this w
            rcases this with ⟨h8, h9⟩ | ⟨h8, _⟩
            · have := w.1 h8 h9; omega
            · omega
        rw [List.all_eq_true]
        intro s hs
        cases hwin : window (masks ops) i s.1 ops.toList 0 with
        | false => rfl
        | true =>
          have := good s.1 s.2 hs hwin
          rw [this]
          obtain ⟨rec', k1, _, k3⟩ := h4 i o hi
          rw [hr] at k1; cases k1
          rw [k3 hload hw]
          simp only [avEq_refl, Bool.or_true]
      · rfl
    · rfl
end

end Go.Eng
