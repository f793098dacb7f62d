/- The engine, part 26: the engine's run in a round of a range over a function. -/
import Derived.Test.YtcjgagkkanokjacGreatDoorE25
import Derived.OrdersIn
import Derived.LoopNIn
import Derived.TacticsIn
namespace Go.Eng
def noOut (Q : Exit → Act → World → Prop) (e : Exit) (a : Act) (w : World) : Prop := e ≠ .outgrown ∧ Q e a w
theorem noOut_lets (Q : Exit → Act → World → Prop) : ¬ LetsOut (noOut Q) := fun ⟨_, _, h, _⟩ => h rfl
section
variable {l0 m : Nat} {P : Program}
theorem callsIn_round {f : FuncId} {args : Array Value} {w : World} {R : Ending → World → Prop} (h : Calls P f args w R) : CallsIn (Fence.wide.inRound l0) m P f args w R := (callsIn_wide (n := m)).2 h
theorem upon_in {o : Oper} {a : Act} {next : Act → World → Prop} {Q : Exit → Act → World → Prop} {r : Result Next} (h : o.upon P a next (noOut Q) r) : o.uponIn (Fence.wide.inRound l0) m P a next Q r := by
  cases r with
  | ok x w' =>
    cases x with
    | enter f args =>
      refine ⟨fun hd => (by cases hd), callsIn_round (Calls.mono (show Calls P f args w' _ from h) ?_)⟩
      rintro e w'' he
      cases e with
      | returned v => exact he
      | panicked ch => exact he.2
      | outgrown => exact absurd he (noOut_lets Q)
    | row row args => exact ⟨fun hd => (by cases hd), fun c cs _ => (by obtain ⟨v, w2, h1, h2⟩ := (show Rows P row args w' _ from h) c cs; exact ⟨v, w2, h1, stepsIn_wide.2 h2⟩)⟩
    | value v => exact h
    | skip => exact h
    | defer d => exact h
    | _ => exact h.elim
  | halt x w' =>
    cases x with
    | panic v => exact h.2
    | _ => exact h.elim
theorem op_in {o : Oper} (hd : ∀ c, o.op ≠ .defer c) {a : Act} {w : World} {next : Act → World → Prop} {Q : Exit → Act → World → Prop} (h : o.wp P a w next (noOut Q)) : o.wpIn (Fence.wide.inRound l0) m P a w next Q := by
  refine ⟨fun _ _ => trivial, ?_⟩
  rw [Oper.semAt_eq _ _ _ hd]
  exact upon_in h
def isDefer (o : Oper) : Bool := match o.op with | .defer _ => true | _ => false
theorem not_defer {o : Oper} (h : isDefer o = false) : ∀ c, o.op ≠ .defer c := fun c e => by simp [isDefer, e] at h
def nodefL : List Oper → Bool
  | [] => true
  | o :: r => !isDefer o && nodefL r
theorem list_in {ops : Array Oper} {Q : Exit → Act → World → Prop} : ∀ (l : List Oper) (a : Act) (w : World), nodefL l = true → wpList P ops (noOut Q) l a w → wpListIn (Fence.wide.inRound l0) m P ops Q l a w
  | [], a, w, _, h => h.2
  | o :: r, a, w, hn, h => by
    simp only [nodefL, Bool.and_eq_true, Bool.not_eq_true'] at hn
    unfold wpList at h
    unfold wpListIn
    split at h
    · rename_i hw
      rw [if_pos hw]
      rcases h with h | ⟨_, h⟩
      · exact op_in (not_defer hn.1) (Oper.wp_mono (fun a w hx => list_in r a w hn.2 hx) h)
      · exact absurd h (noOut_lets Q)
    · rename_i hw
      rw [if_neg hw]
      exact ⟨fun _ _ => trivial, list_in r _ w hn.2 h⟩
theorem nodefL_at : ∀ (l : List Oper), nodefL l = true → ∀ (i : Nat) (o : Oper), l[i]? = some o → isDefer o = false
  | [], _, i, o, hi => by simp at hi
  | x :: r, h, 0, o, hi => by
    simp only [nodefL, Bool.and_eq_true, Bool.not_eq_true'] at h
    simp only [List.getElem?_cons_zero, Option.some.injEq] at hi
    subst hi; exact h.1
  | x :: r, h, i + 1, o, hi => by
    simp only [nodefL, Bool.and_eq_true] at h
    exact nodefL_at r h.2 i o (by simpa using hi)
theorem any_in {ops : Array Oper} {Q : Exit → Act → World → Prop} (hn : nodefL ops.toList = true) : ∀ (fuel : Nat) (listed : Array Bool) (a : Act) (w : World), wpAny P .any ops (noOut Q) fuel listed a w → wpAnyIn (Fence.wide.inRound l0) m P .any ops Q fuel listed a w
  | 0, listed, a, w, h => ⟨h.1, h.2.2⟩
  | fuel + 1, listed, a, w, h => by
    refine ⟨fun hr => (h.1 hr).2, fun i hi => ?_⟩
    have hop := h.2 i hi
    unfold wpOp at hop
    unfold wpOpIn
    split at hop
    · rename_i hi2
      simp only [hi2]
      exact any_in hn fuel _ _ _ hop
    · rename_i o hi2
      simp only [hi2]
      have hd := nodefL_at _ hn i o (by rw [Array.getElem?_toList]; exact hi2)
      split at hop
      · rename_i hw
        rw [if_pos hw]
        rcases hop with hop | ⟨_, hop⟩
        · exact op_in (not_defer hd) (Oper.wp_mono (fun a w hx => any_in hn fuel _ a w hx) hop)
        · exact absurd hop (noOut_lets Q)
      · rename_i hw
        rw [if_neg hw]
        exact ⟨fun _ _ => trivial, any_in hn fuel _ _ _ hop⟩
def nodef : Code → Bool
  | .region _ ops _ => nodefL ops.toList
  | .seq a b => nodef a && nodef b
  | .cond _ a b => nodef a && nodef b
  | .block _ c => nodef c
  | .loop c => nodef c
  | _ => true
end
theorem aexec_soundIn (l0 m : Nat) {P : Program} (hP : POk P) {call : CallFn} (hcall : CallOk P call) (n : Nat) : ∀ (c : Code) (fr : AFrame) (h : AHeap) (e : AEx) (fr' : AFrame) (h' : AHeap) (ρ : Rho) (a : Act) (w : World) (Q : Exit → Act → World → Prop),
    nodef c = true → aexec P call n c fr h = some (e, fr', h') → FrRel ρ fr a → Sim ρ h w → (∀ ρ' a' w', FrRel ρ' fr' a' → Step ρ h w ρ' h' w' → Q e.to a' w') → c.wpIn (Fence.wide.inRound l0) m P Q a w := by
  intro c
  induction c with
  | skip =>
    intro fr h e fr' h' ρ a w Q hnd ho hf hs hq
    simp only [aexec, Option.some.injEq, Prod.mk.injEq] at ho
    obtain ⟨rfl, rfl, rfl⟩ := ho
    exact wpIn_skip (hq ρ a w hf (Step.refl hs))
  | label l =>
    intro fr h e fr' h' ρ a w Q hnd ho hf hs hq
    simp only [aexec, Option.some.injEq, Prod.mk.injEq] at ho
    obtain ⟨rfl, rfl, rfl⟩ := ho
    exact wpIn_label (hq ρ a w hf (Step.refl hs))
  | region id ops draw =>
    intro fr h e fr' h' ρ a w Q hnd ho hf hs hq
    simp only [aexec] at ho
    split at ho
    · rename_i fr1 h1 hr
      simp only [Option.some.injEq, Prod.mk.injEq] at ho
      obtain ⟨rfl, rfl, rfl⟩ := ho
      cases draw with
      | true =>
        rw [if_pos rfl] at hr
        exact wpIn_region_any hP.mixed (any_in hnd _ _ _ _ (adrawAny_sound hP hcall hr hf hs (Q := noOut Q) fun ρ' a' w' h1 h2 => ⟨by simp, hq ρ' a' w' h1 h2⟩))
      | false =>
        rw [if_neg (by simp)] at hr
        exact wpIn_region_list (list_in _ _ _ hnd (aops_sound hP hcall ops.toList fr _ h _ ρ a w hr hf hs (Q := noOut Q) fun ρ' a' w' h1 h2 => ⟨by simp, hq ρ' a' w' h1 h2⟩))
    · cases ho
  | seq x y ihx ihy =>
    intro fr h e fr' h' ρ a w Q hnd ho hf hs hq
    simp only [nodef, Bool.and_eq_true] at hnd
    simp only [aexec] at ho
    split at ho
    · rename_i fr1 h1 hx
      refine wpIn_seq (ihx fr h .normal fr1 h1 ρ a w _ hnd.1 hx hf hs fun ρ1 a1 w1 hf1 hs1 => ?_)
      exact ihy fr1 h1 e fr' h' ρ1 a1 w1 Q hnd.2 ho hf1 hs1.sim fun ρ2 a2 w2 hf2 hs2 => hq ρ2 a2 w2 hf2 (hs1.trans hs2)
    · rename_i id fr1 h1 hx
      simp only [Option.some.injEq, Prod.mk.injEq] at ho
      obtain ⟨rfl, rfl, rfl⟩ := ho
      exact wpIn_seq (ihx fr h (.exit id) fr1 h1 ρ a w _ hnd.1 hx hf hs fun ρ1 a1 w1 hf1 hs1 => hq ρ1 a1 w1 hf1 hs1)
    · rename_i fr1 h1 hx
      simp only [Option.some.injEq, Prod.mk.injEq] at ho
      obtain ⟨rfl, rfl, rfl⟩ := ho
      exact wpIn_seq (ihx fr h .ret fr1 h1 ρ a w _ hnd.1 hx hf hs fun ρ1 a1 w1 hf1 hs1 => hq ρ1 a1 w1 hf1 hs1)
    · cases ho
  | cond c x y ihx ihy =>
    intro fr h e fr' h' ρ a w Q hnd ho hf hs hq
    simp only [nodef, Bool.and_eq_true] at hnd
    simp only [aexec] at ho
    split at ho
    · rename_i b hc
      have hb := conc_bool (aeval_sound hf hs c _ hc)
      split at ho
      · exact wpIn_cond_true hb (ihx fr h e fr' h' ρ a w Q hnd.1 ho hf hs hq)
      · exact wpIn_cond_false hb (ihy fr h e fr' h' ρ a w Q hnd.2 ho hf hs hq)
    · cases ho
  | block id c ih =>
    intro fr h e fr' h' ρ a w Q hnd ho hf hs hq
    simp only [aexec] at ho
    refine wpIn_block ?_
    split at ho
    · rename_i fr1 h1 hx
      simp only [Option.some.injEq, Prod.mk.injEq] at ho
      obtain ⟨rfl, rfl, rfl⟩ := ho
      exact ih fr h .normal fr1 h1 ρ a w _ hnd hx hf hs fun ρ1 a1 w1 hf1 hs1 => hq ρ1 a1 w1 hf1 hs1
    · rename_i id' fr1 h1 hx
      refine ih fr h (.exit id') fr1 h1 ρ a w _ hnd hx hf hs fun ρ1 a1 w1 hf1 hs1 => ?_
      split at ho
      · rename_i hid
        simp only [Option.some.injEq, Prod.mk.injEq] at ho
        obtain ⟨rfl, rfl, rfl⟩ := ho
        show if id' = id then Q .normal a1 w1 else Q (.exit id') a1 w1
        rw [if_pos hid]
        exact hq ρ1 a1 w1 hf1 hs1
      · rename_i hid
        simp only [Option.some.injEq, Prod.mk.injEq] at ho
        obtain ⟨rfl, rfl, rfl⟩ := ho
        show if id' = id then Q .normal a1 w1 else Q (.exit id') a1 w1
        rw [if_neg hid]
        exact hq ρ1 a1 w1 hf1 hs1
    · rename_i fr1 h1 hx
      simp only [Option.some.injEq, Prod.mk.injEq] at ho
      obtain ⟨rfl, rfl, rfl⟩ := ho
      exact ih fr h .ret fr1 h1 ρ a w _ hnd hx hf hs fun ρ1 a1 w1 hf1 hs1 => hq ρ1 a1 w1 hf1 hs1
    · cases ho
  | loop c ih =>
    intro fr h e fr' h' ρ a w Q hnd ho hf hs hq
    simp only [aexec] at ho
    have key : ∀ (k : Nat) (fr : AFrame) (h : AHeap) (ρ : Rho) (a : Act) (w : World), aiter (fun fr h => aexec P call n c fr h) k fr h = some (e, fr', h') → FrRel ρ fr a → Sim ρ h w →
        (∀ ρ' a' w', FrRel ρ' fr' a' → Step ρ h w ρ' h' w' → Q e.to a' w') → Code.roundsIn (Fence.wide.inRound l0) m P c Q k a w := by
      intro k
      induction k with
      | zero => intro fr h ρ a w ho; simp [aiter] at ho
      | succ k ihk =>
        intro fr h ρ a w ho hf hs hq
        rw [roundsIn_succ]
        simp only [aiter] at ho
        split at ho
        · rename_i fr1 h1 hx
          exact ih fr h .normal fr1 h1 ρ a w _ hnd hx hf hs fun ρ1 a1 w1 hf1 hs1 =>
            ihk fr1 h1 ρ1 a1 w1 ho hf1 hs1.sim fun ρ2 a2 w2 hf2 hs2 => hq ρ2 a2 w2 hf2 (hs1.trans hs2)
        · rename_i id fr1 h1 hx
          simp only [Option.some.injEq, Prod.mk.injEq] at ho
          obtain ⟨rfl, rfl, rfl⟩ := ho
          exact ih fr h (.exit id) fr1 h1 ρ a w _ hnd hx hf hs fun ρ1 a1 w1 hf1 hs1 => hq ρ1 a1 w1 hf1 hs1
        · rename_i fr1 h1 hx
          simp only [Option.some.injEq, Prod.mk.injEq] at ho
          obtain ⟨rfl, rfl, rfl⟩ := ho
          exact ih fr h .ret fr1 h1 ρ a w _ hnd hx hf hs fun ρ1 a1 w1 hf1 hs1 => hq ρ1 a1 w1 hf1 hs1
        · cases ho
    exact wpIn_loop_rounds n (key n fr h ρ a w ho hf hs hq)
  | exit id =>
    intro fr h e fr' h' ρ a w Q hnd ho hf hs hq
    simp only [aexec, Option.some.injEq, Prod.mk.injEq] at ho
    obtain ⟨rfl, rfl, rfl⟩ := ho
    exact wpIn_exit (hq ρ a w hf (Step.refl hs))
  | ret =>
    intro fr h e fr' h' ρ a w Q hnd ho hf hs hq
    simp only [aexec, Option.some.injEq, Prod.mk.injEq] at ho
    obtain ⟨rfl, rfl, rfl⟩ := ho
    exact wpIn_ret (hq ρ a w hf (Step.refl hs))
  | rangeFunc f ps as bo _ _ => intro fr h e fr' h' ρ a w Q _ ho; simp [aexec] at ho
  | scope c _ => intro fr h e fr' h' ρ a w Q _ ho; simp [aexec] at ho
  | goto l => intro fr h e fr' h' ρ a w Q _ ho; simp [aexec] at ho
  | refuse s => intro fr h e fr' h' ρ a w Q _ ho; simp [aexec] at ho
end Go.Eng
