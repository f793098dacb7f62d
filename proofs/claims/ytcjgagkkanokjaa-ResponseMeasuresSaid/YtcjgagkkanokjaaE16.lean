/- The engine, part 16: code and calls: what the engine's run says of the model's. -/
import Derived.Test.YtcjgagkkanokjaaE15
namespace Go.Eng

def AEx.to : AEx → Exit
  | .normal => .normal
  | .exit id => .exit id
  | .ret => .ret

theorem code_mono {P : Program} {c : Code} {Q Q' : Exit → Act → World → Prop} {a : Act} {w : World} (h : c.wp P Q a w) (hq : ∀ e a w, Q e a w → Q' e a w) : c.wp P Q' a w := wp_mono h hq

theorem aexec_sound {P : Program} (hP : POk P) {call : CallFn} (hcall : CallOk P call) (n : Nat) : ∀ (c : Code) (fr : AFrame) (h : AHeap) (e : AEx) (fr' : AFrame) (h' : AHeap) (ρ : Rho) (a : Act) (w : World) (Q : Exit → Act → World → Prop),
    aexec P call n c fr h = some (e, fr', h') → FrRel ρ fr a → Sim ρ h w → (∀ ρ' a' w', FrRel ρ' fr' a' → Step ρ h w ρ' h' w' → Q e.to a' w') → c.wp P Q a w := by
  intro c
  induction c with
  | skip =>
    intro fr h e fr' h' ρ a w Q ho hf hs hq
    simp only [aexec, Option.some.injEq, Prod.mk.injEq] at ho
    obtain ⟨rfl, rfl, rfl⟩ := ho
    exact wp_skip (hq ρ a w hf (Step.refl hs))
  | label l =>
    intro fr h e fr' h' ρ a w Q ho hf hs hq
    simp only [aexec, Option.some.injEq, Prod.mk.injEq] at ho
    obtain ⟨rfl, rfl, rfl⟩ := ho
    exact wp_label (hq ρ a w hf (Step.refl hs))
  | region id ops draw =>
    intro fr h e fr' h' ρ a w Q ho hf hs hq
    simp only [aexec] at ho
    split at ho
    · rename_i fr1 h1 hr
      simp only [Option.some.injEq, Prod.mk.injEq] at ho
      obtain ⟨rfl, rfl, rfl⟩ := ho
      cases draw with
      | true =>
        rw [if_pos rfl] at hr
        exact adraw_sound hP hcall hr hf hs hq
      | false =>
        rw [if_neg (by simp)] at hr
        exact wp_region_list (aops_sound hP hcall ops.toList fr _ h _ ρ a w hr hf hs hq)
    · cases ho
  | seq x y ihx ihy =>
    intro fr h e fr' h' ρ a w Q ho hf hs hq
    simp only [aexec] at ho
    split at ho
    · rename_i fr1 h1 hx
      refine wp_seq (ihx fr h .normal fr1 h1 ρ a w _ hx hf hs fun ρ1 a1 w1 hf1 hs1 => ?_)
      exact ihy fr1 h1 e fr' h' ρ1 a1 w1 Q ho hf1 hs1.sim fun ρ2 a2 w2 hf2 hs2 => hq ρ2 a2 w2 hf2 (hs1.trans hs2)
    · rename_i id fr1 h1 hx
      simp only [Option.some.injEq, Prod.mk.injEq] at ho
      obtain ⟨rfl, rfl, rfl⟩ := ho
      exact wp_seq (ihx fr h (.exit id) fr1 h1 ρ a w _ hx hf hs fun ρ1 a1 w1 hf1 hs1 => hq ρ1 a1 w1 hf1 hs1)
    · rename_i fr1 h1 hx
      simp only [Option.some.injEq, Prod.mk.injEq] at ho
      obtain ⟨rfl, rfl, rfl⟩ := ho
      exact wp_seq (ihx fr h .ret fr1 h1 ρ a w _ hx hf hs fun ρ1 a1 w1 hf1 hs1 => hq ρ1 a1 w1 hf1 hs1)
    · cases ho
  | cond c x y ihx ihy =>
    intro fr h e fr' h' ρ a w Q ho hf hs hq
    simp only [aexec] at ho
    split at ho
    · rename_i b hc
      have hb := conc_bool (aeval_sound hf hs c _ hc)
      split at ho
      · exact wp_cond_true hb (ihx fr h e fr' h' ρ a w Q ho hf hs hq)
      · exact wp_cond_false hb (ihy fr h e fr' h' ρ a w Q ho hf hs hq)
    · cases ho
  | block id c ih =>
    intro fr h e fr' h' ρ a w Q ho hf hs hq
    simp only [aexec] at ho
    refine wp_block ?_
    split at ho
    · rename_i fr1 h1 hx
      simp only [Option.some.injEq, Prod.mk.injEq] at ho
      obtain ⟨rfl, rfl, rfl⟩ := ho
      exact ih fr h .normal fr1 h1 ρ a w _ hx hf hs fun ρ1 a1 w1 hf1 hs1 => hq ρ1 a1 w1 hf1 hs1
    · rename_i id' fr1 h1 hx
      refine ih fr h (.exit id') fr1 h1 ρ a w _ hx hf hs fun ρ1 a1 w1 hf1 hs1 => ?_
      split at ho
      · rename_i hid
        simp only [Option.some.injEq, Prod.mk.injEq] at ho
        obtain ⟨rfl, rfl, rfl⟩ := ho
        show if id' = id then Q .normal a1 w1 else Q (.exit id') a1 w1
        rw [if_pos hid]
        exact hq ρ1 a1 w1 hf1 hs1
      · rename_i hid
        simp only [Option.some.injEq, Prod.mk.injEq] at ho
        obtain ⟨rfl, rfl, rfl⟩ := ho
        show if id' = id then Q .normal a1 w1 else Q (.exit id') a1 w1
        rw [if_neg hid]
        exact hq ρ1 a1 w1 hf1 hs1
    · rename_i fr1 h1 hx
      simp only [Option.some.injEq, Prod.mk.injEq] at ho
      obtain ⟨rfl, rfl, rfl⟩ := ho
      exact ih fr h .ret fr1 h1 ρ a w _ hx hf hs fun ρ1 a1 w1 hf1 hs1 => hq ρ1 a1 w1 hf1 hs1
    · cases ho
  | loop c ih =>
    intro fr h e fr' h' ρ a w Q ho hf hs hq
    simp only [aexec] at ho
    have key : ∀ (k : Nat) (fr : AFrame) (h : AHeap) (ρ : Rho) (a : Act) (w : World), aiter (fun fr h => aexec P call n c fr h) k fr h = some (e, fr', h') → FrRel ρ fr a → Sim ρ h w →
        (∀ ρ' a' w', FrRel ρ' fr' a' → Step ρ h w ρ' h' w' → Q e.to a' w') → Code.rounds P c Q k a w := by
      intro k
      induction k with
      | zero => intro fr h ρ a w ho; simp [aiter] at ho
      | succ k ihk =>
        intro fr h ρ a w ho hf hs hq
        rw [rounds_succ]
        simp only [aiter] at ho
        split at ho
        · rename_i fr1 h1 hx
          exact ih fr h .normal fr1 h1 ρ a w _ hx hf hs fun ρ1 a1 w1 hf1 hs1 =>
            ihk fr1 h1 ρ1 a1 w1 ho hf1 hs1.sim fun ρ2 a2 w2 hf2 hs2 => hq ρ2 a2 w2 hf2 (hs1.trans hs2)
        · rename_i id fr1 h1 hx
          simp only [Option.some.injEq, Prod.mk.injEq] at ho
          obtain ⟨rfl, rfl, rfl⟩ := ho
          exact ih fr h (.exit id) fr1 h1 ρ a w _ hx hf hs fun ρ1 a1 w1 hf1 hs1 => hq ρ1 a1 w1 hf1 hs1
        · rename_i fr1 h1 hx
          simp only [Option.some.injEq, Prod.mk.injEq] at ho
          obtain ⟨rfl, rfl, rfl⟩ := ho
          exact ih fr h .ret fr1 h1 ρ a w _ hx hf hs fun ρ1 a1 w1 hf1 hs1 => hq ρ1 a1 w1 hf1 hs1
        · cases ho
    exact wp_loop_rounds n (key n fr h ρ a w ho hf hs hq)
  | exit id =>
    intro fr h e fr' h' ρ a w Q ho hf hs hq
    simp only [aexec, Option.some.injEq, Prod.mk.injEq] at ho
    obtain ⟨rfl, rfl, rfl⟩ := ho
    exact wp_exit (hq ρ a w hf (Step.refl hs))
  | ret =>
    intro fr h e fr' h' ρ a w Q ho hf hs hq
    simp only [aexec, Option.some.injEq, Prod.mk.injEq] at ho
    obtain ⟨rfl, rfl, rfl⟩ := ho
    exact wp_ret (hq ρ a w hf (Step.refl hs))
  | rangeFunc f ps as bo _ _ => intro fr h e fr' h' ρ a w Q ho; simp [aexec] at ho
  | scope c _ => intro fr h e fr' h' ρ a w Q ho; simp [aexec] at ho
  | goto l => intro fr h e fr' h' ρ a w Q ho; simp [aexec] at ho
  | refuse s => intro fr h e fr' h' ρ a w Q ho; simp [aexec] at ho

/-! ### results -/
theorem ares_sound {P : Program} {ρ : Rho} {fr : AFrame} {h : AHeap} {a : Act} {w : World} (hf : FrRel ρ fr a) (hs : Sim ρ h w) : ∀ (l : List ResultVar) (vs : List AV), ares P fr h l = some vs →
    ∃ cs, concs ρ vs = some cs ∧ (l.mapM fun | .tmp t => pure (a.tmps.getD t undef) | .cell x t => do loadVar t (← asAddr (a.tmps.getD x undef)) : Sem (List Value)).run P w = .ok cs w
  | [], vs, h => by simp only [ares, Option.some.injEq] at h; subst h; exact ⟨[], rfl, by simp⟩
  | .tmp t :: r, vs, hv => by
    simp only [ares] at hv
    split at hv
    · rename_i v l h1 h2
      cases hv
      obtain ⟨c, h3, h4⟩ := hf.val t v h1
      obtain ⟨cs, h5, h6⟩ := ares_sound hf hs r l h2
      refine ⟨c :: cs, concs_cons_mk h4 h5, ?_⟩
      simp only [List.mapM_cons, Sem.run_bind, Sem.run_pure, Result.andThen_ok, h6]
      simp [h3]
    · cases hv
  | .cell x t :: r, vs, hv => by
    simp only [ares] at hv
    split at hv
    · rename_i p h0
      split at hv
      · rename_i v l h1 h2
        cases hv
        obtain ⟨cp, h3, h4⟩ := hf.val x p h0
        obtain ⟨c, h7, h8⟩ := aload_sound (P := P) h1 h4 hs
        obtain ⟨cs, h5, h6⟩ := ares_sound hf hs r l h2
        refine ⟨c :: cs, concs_cons_mk h7 h5, ?_⟩
        have hcp : ∃ ad, cp = .pointer (some ad) := by
          cases p <;> simp only [aload] at h1 <;> try (cases h1; done)
          obtain ⟨pl, _, hh⟩ := conc_ptr h4
          exact ⟨_, hh⟩
        obtain ⟨ad, rfl⟩ := hcp
        have h8' : (loadVar t ad).run P w = .ok c w := by simpa [Instr.loadAt, Instr.sureAddr] using h8
        have hget : (asAddr (a.tmps.getD x undef)).run P w = .ok ad w := by
          have : a.tmps.getD x undef = .pointer (some ad) := by simp [h3]
          rw [this]; rfl
        simp only [List.mapM_cons, Sem.run_bind, hget, Result.andThen_ok, h8', h6, Sem.run_pure]
      · cases hv
    · cases hv
theorem results_sound {P : Program} {ρ : Rho} {fr : AFrame} {h : AHeap} {a : Act} {w : World} {fn : Func} {vs : List AV} (hf : FrRel ρ fr a) (hs : Sim ρ h w) (hv : ares P fr h fn.results.toList = some vs) :
    ∃ c, conc ρ (ares1 vs) = some c ∧ (results fn a.tmps).run P w = .ok c w := by
  obtain ⟨cs, h1, h2⟩ := ares_sound hf hs _ vs hv
  have hm : (fn.results.mapM fun | .tmp t => pure (a.tmps.getD t undef) | .cell x t => do loadVar t (← asAddr (a.tmps.getD x undef)) : Sem (Array Value)).run P w = .ok cs.toArray w := by
    have e : fn.results = fn.results.toList.toArray := by simp
    rw [e, List.mapM_toArray]
    simp only [Sem.run_map, h2, Result.andThen_ok]
  have hlen := concs_length _ _ h1
  by_cases h0 : vs.length = 1
  · obtain ⟨v, rfl⟩ : ∃ v, vs = [v] := List.length_eq_one_iff.1 h0
    obtain ⟨c, cr, hc, hcr, rfl⟩ := concs_cons h1
    simp [concs] at hcr; subst hcr
    refine ⟨c, hc, ?_⟩
    unfold results
    rw [Sem.run_bind]
    exact (congrArg (fun r => Result.andThen r fun vs w => Sem.run P (pure (if h : vs.size = 1 then vs[0] else .tuple vs) : Sem Value) w) hm).trans rfl
  · have e : ares1 vs = .tuple vs := by
      unfold ares1
      split
      · simp at h0
      · rfl
    refine ⟨.tuple cs.toArray, by rw [e]; exact conc_tuple_mk h1, ?_⟩
    unfold results
    rw [Sem.run_bind]
    refine (congrArg (fun r => Result.andThen r fun vs w => Sem.run P (pure (if h : vs.size = 1 then vs[0] else .tuple vs) : Sem Value) w) hm).trans ?_
    simp only [Result.andThen_ok, Sem.run_pure]
    rw [dif_neg (by simp; omega)]

theorem args0_get : ∀ (l : List AV) (i : Nat) (t : T AV) (j : Nat), T.get 6 (args0 l i t) j = if i ≤ j ∧ j < i + l.length then l[j - i]? else T.get 6 t j
  | [], i, t, j => by simp only [args0]; rw [if_neg (by simp)]
  | v :: r, i, t, j => by
    simp only [args0]
    rw [args0_get r (i + 1) _ j, T.get_set]
    simp only [List.length_cons]
    by_cases h : i = j
    · subst h
      rw [if_neg (by omega), if_pos rfl, if_pos (by omega)]
      simp
    · rw [if_neg h]
      by_cases h2 : i + 1 ≤ j ∧ j < i + 1 + r.length
      · rw [if_pos h2, if_pos (by omega)]
        have : j - i = (j - (i + 1)) + 1 := by omega
        rw [this, List.getElem?_cons_succ]
      · rw [if_neg h2, if_neg (by omega)]

theorem acall_sound {P : Program} [Orc] (hP : POk P) (hO : CallOk P Orc.call) : ∀ n, CallOk P (acall P n) := by
  intro n
  induction n with
  | zero => exact hO
  | succ n ih =>
    intro f args h r h' ρ w cargs ho hs hargs
    simp only [acall] at ho
    split at ho
    · rename_i hor; cases ho; exact hO f args h r h' ρ w cargs hor hs hargs
    simp only [abody] at ho
    split at ho
    case h_2 => cases ho
    rename_i fn hfn
    split at ho
    case h_2 => cases ho
    rename_i c hbody
    have hlen := concs_length _ _ hargs
    have hfr : FrRel ρ ⟨args.length + (fn.ntmps - args.length), args0 args 0 .nil⟩ { tmps := cargs.toArray ++ Array.replicate (fn.ntmps - cargs.toArray.size) undef, defers := [] } := by
      refine ⟨rfl, by simp [hlen], fun i v hv => ?_⟩
      simp only [AFrame.get] at hv
      rw [args0_get] at hv
      split at hv
      · rename_i hlt
        obtain ⟨c, h1, h2⟩ := concs_get _ _ _ _ hargs hv
        refine ⟨c, ?_, h2⟩
        rw [Array.getElem?_append]
        rw [if_pos (by simp; omega)]
        simpa using h1
      · rw [T.get_nil] at hv; cases hv
    have fin : ∀ (e : AEx) (fr' : AFrame) (h1 : AHeap), (e = .normal ∨ e = .ret) → aexec P (acall P n) n c ⟨args.length + (fn.ntmps - args.length), args0 args 0 .nil⟩ h = some (e, fr', h1) →
        (match ares P fr' h1 fn.results.toList with | some l => some (ares1 l, h1) | none => none) = some (r, h') →
        Calls P f cargs.toArray w fun e w' => ∃ c ρ', e = .returned c ∧ conc ρ' r = some c ∧ Step ρ h w ρ' h' w' := by
      intro e fr' h1 he hx hr
      split at hr
      · rename_i l hl
        simp only [Option.some.injEq, Prod.mk.injEq] at hr
        obtain ⟨rfl, rfl⟩ := hr
        refine calls_of_wp hfn hbody (aexec_sound hP ih n c _ h e fr' h1 ρ _ w _ hx hfr hs fun ρ' a' w' hf' hs' => ?_)
        obtain ⟨cv, h2, h3⟩ := results_sound (P := P) (fn := fn) hf' hs'.sim hl
        rcases he with rfl | rfl <;> exact ⟨hf'.defers, cv, h3, cv, ρ', rfl, h2, hs'⟩
      · cases hr
    split at ho
    · rename_i fr' h1 hx; exact fin .normal fr' h1 (.inl rfl) hx ho
    · rename_i fr' h1 hx; exact fin .ret fr' h1 (.inr rfl) hx ho
    · cases ho

end Go.Eng
