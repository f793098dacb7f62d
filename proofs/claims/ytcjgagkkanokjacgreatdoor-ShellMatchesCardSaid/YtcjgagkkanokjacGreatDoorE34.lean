/- The engine, part 34: the engine's run outside rounds, with the fence. -/
import Derived.Test.YtcjgagkkanokjacGreatDoorE32
import Derived.RangeFuncLeaves
namespace Go.Eng
section
variable {m : Nat} {P : Program}
theorem list_wide {ops : Array Oper} {Q : Exit → Act → World → Prop} : ∀ (l : List Oper) (a : Act) (w : World), nodefL l = true → wpList P ops (noOut Q) l a w → wpListIn Fence.wide m P ops Q l a w
  | [], a, w, _, h => h.2
  | o :: r, a, w, hn, h => by
    simp only [nodefL, Bool.and_eq_true, Bool.not_eq_true'] at hn
    unfold wpList at h
    unfold wpListIn
    split at h
    · rename_i hw
      rw [if_pos hw]
      rcases h with h | ⟨_, h⟩
      · exact op_wide (Oper.wp_mono (fun a w hx => list_wide r a w hn.2 hx) h)
      · exact absurd h (noOut_lets Q)
    · rename_i hw
      rw [if_neg hw]
      exact ⟨fun _ _ => trivial, list_wide r _ w hn.2 h⟩
theorem any_wide {ops : Array Oper} {Q : Exit → Act → World → Prop} (hn : nodefL ops.toList = true) : ∀ (fuel : Nat) (listed : Array Bool) (a : Act) (w : World), wpAny P .any ops (noOut Q) fuel listed a w → wpAnyIn Fence.wide m P .any ops Q fuel listed a w
  | 0, listed, a, w, h => ⟨h.1, h.2.2⟩
  | fuel + 1, listed, a, w, h => by
    refine ⟨fun hr => (h.1 hr).2, fun i hi => ?_⟩
    have hop := h.2 i hi
    unfold wpOp at hop
    unfold wpOpIn
    split at hop
    · rename_i hi2
      simp only [hi2]
      exact any_wide hn fuel _ _ _ hop
    · rename_i o hi2
      simp only [hi2]
      have hd := nodefL_at _ hn i o (by rw [Array.getElem?_toList]; exact hi2)
      split at hop
      · rename_i hw
        rw [if_pos hw]
        rcases hop with hop | ⟨_, hop⟩
        · exact op_wide (Oper.wp_mono (fun a w hx => any_wide hn fuel _ a w hx) hop)
        · exact absurd hop (noOut_lets Q)
      · rename_i hw
        rw [if_neg hw]
        exact ⟨fun _ _ => trivial, any_wide hn fuel _ _ _ hop⟩
end
theorem aexec_soundW (m : Nat) {P : Program} (hP : POk P) {call : CallFn} (hcall : CallOk P call) (n : Nat) : ∀ (c : Code) (fr : AFrame) (h : AHeap) (e : AEx) (fr' : AFrame) (h' : AHeap) (ρ : Rho) (a : Act) (w : World) (Q : Exit → Act → World → Prop),
    nodef c = true → aexec P call n c fr h = some (e, fr', h') → FrRel ρ fr a → Sim ρ h w → (∀ ρ' a' w', FrRel ρ' fr' a' → Step ρ h w ρ' h' w' → Q e.to a' w') → c.wpIn Fence.wide m P Q a w := by
  intro c
  induction c with
  | skip =>
    intro fr h e fr' h' ρ a w Q hnd ho hf hs hq
    simp only [aexec, Option.some.injEq, Prod.mk.injEq] at ho
    obtain ⟨rfl, rfl, rfl⟩ := ho
    exact wpIn_skip (hq ρ a w hf (Step.refl hs))
  | label l =>
    intro fr h e fr' h' ρ a w Q hnd ho hf hs hq
    simp only [aexec, Option.some.injEq, Prod.mk.injEq] at ho
    obtain ⟨rfl, rfl, rfl⟩ := ho
    exact wpIn_label (hq ρ a w hf (Step.refl hs))
  | region id ops draw =>
    intro fr h e fr' h' ρ a w Q hnd ho hf hs hq
    simp only [aexec] at ho
    split at ho
    · rename_i fr1 h1 hr
      simp only [Option.some.injEq, Prod.mk.injEq] at ho
      obtain ⟨rfl, rfl, rfl⟩ := ho
      cases draw with
      | true =>
        rw [if_pos rfl] at hr
        exact wpIn_region_any hP.mixed (any_wide hnd _ _ _ _ (adrawAny_sound hP hcall hr hf hs (Q := noOut Q) fun ρ' a' w' h1 h2 => ⟨by simp, hq ρ' a' w' h1 h2⟩))
      | false =>
        rw [if_neg (by simp)] at hr
        exact wpIn_region_list (list_wide _ _ _ hnd (aops_sound hP hcall ops.toList fr _ h _ ρ a w hr hf hs (Q := noOut Q) fun ρ' a' w' h1 h2 => ⟨by simp, hq ρ' a' w' h1 h2⟩))
    · cases ho
  | seq x y ihx ihy =>
    intro fr h e fr' h' ρ a w Q hnd ho hf hs hq
    simp only [nodef, Bool.and_eq_true] at hnd
    simp only [aexec] at ho
    split at ho
    · rename_i fr1 h1 hx
      refine wpIn_seq (ihx fr h .normal fr1 h1 ρ a w _ hnd.1 hx hf hs fun ρ1 a1 w1 hf1 hs1 => ?_)
      exact ihy fr1 h1 e fr' h' ρ1 a1 w1 Q hnd.2 ho hf1 hs1.sim fun ρ2 a2 w2 hf2 hs2 => hq ρ2 a2 w2 hf2 (hs1.trans hs2)
    · rename_i id fr1 h1 hx
      simp only [Option.some.injEq, Prod.mk.injEq] at ho
      obtain ⟨rfl, rfl, rfl⟩ := ho
      exact wpIn_seq (ihx fr h (.exit id) fr1 h1 ρ a w _ hnd.1 hx hf hs fun ρ1 a1 w1 hf1 hs1 => hq ρ1 a1 w1 hf1 hs1)
    · rename_i fr1 h1 hx
      simp only [Option.some.injEq, Prod.mk.injEq] at ho
      obtain ⟨rfl, rfl, rfl⟩ := ho
      exact wpIn_seq (ihx fr h .ret fr1 h1 ρ a w _ hnd.1 hx hf hs fun ρ1 a1 w1 hf1 hs1 => hq ρ1 a1 w1 hf1 hs1)
    · cases ho
  | cond c x y ihx ihy =>
    intro fr h e fr' h' ρ a w Q hnd ho hf hs hq
    simp only [nodef, Bool.and_eq_true] at hnd
    simp only [aexec] at ho
    split at ho
    · rename_i b hc
      have hb := conc_bool (aeval_sound hf hs c _ hc)
      split at ho
      · exact wpIn_cond_true hb (ihx fr h e fr' h' ρ a w Q hnd.1 ho hf hs hq)
      · exact wpIn_cond_false hb (ihy fr h e fr' h' ρ a w Q hnd.2 ho hf hs hq)
    · cases ho
  | block id c ih =>
    intro fr h e fr' h' ρ a w Q hnd ho hf hs hq
    simp only [aexec] at ho
    refine wpIn_block ?_
    split at ho
    · rename_i fr1 h1 hx
      simp only [Option.some.injEq, Prod.mk.injEq] at ho
      obtain ⟨rfl, rfl, rfl⟩ := ho
      exact ih fr h .normal fr1 h1 ρ a w _ hnd hx hf hs fun ρ1 a1 w1 hf1 hs1 => hq ρ1 a1 w1 hf1 hs1
    · rename_i id' fr1 h1 hx
      refine ih fr h (.exit id') fr1 h1 ρ a w _ hnd hx hf hs fun ρ1 a1 w1 hf1 hs1 => ?_
      split at ho
      · rename_i hid
        simp only [Option.some.injEq, Prod.mk.injEq] at ho
        obtain ⟨rfl, rfl, rfl⟩ := ho
        show if id' = id then Q .normal a1 w1 else Q (.exit id') a1 w1
        rw [if_pos hid]
        exact hq ρ1 a1 w1 hf1 hs1
      · rename_i hid
        simp only [Option.some.injEq, Prod.mk.injEq] at ho
        obtain ⟨rfl, rfl, rfl⟩ := ho
        show if id' = id then Q .normal a1 w1 else Q (.exit id') a1 w1
        rw [if_neg hid]
        exact hq ρ1 a1 w1 hf1 hs1
    · rename_i fr1 h1 hx
      simp only [Option.some.injEq, Prod.mk.injEq] at ho
      obtain ⟨rfl, rfl, rfl⟩ := ho
      exact ih fr h .ret fr1 h1 ρ a w _ hnd hx hf hs fun ρ1 a1 w1 hf1 hs1 => hq ρ1 a1 w1 hf1 hs1
    · cases ho
  | loop c ih =>
    intro fr h e fr' h' ρ a w Q hnd ho hf hs hq
    simp only [aexec] at ho
    have key : ∀ (k : Nat) (fr : AFrame) (h : AHeap) (ρ : Rho) (a : Act) (w : World), aiter (fun fr h => aexec P call n c fr h) k fr h = some (e, fr', h') → FrRel ρ fr a → Sim ρ h w →
        (∀ ρ' a' w', FrRel ρ' fr' a' → Step ρ h w ρ' h' w' → Q e.to a' w') → Code.roundsIn Fence.wide m P c Q k a w := by
      intro k
      induction k with
      | zero => intro fr h ρ a w ho; simp [aiter] at ho
      | succ k ihk =>
        intro fr h ρ a w ho hf hs hq
        rw [roundsIn_succ]
        simp only [aiter] at ho
        split at ho
        · rename_i fr1 h1 hx
          exact ih fr h .normal fr1 h1 ρ a w _ hnd hx hf hs fun ρ1 a1 w1 hf1 hs1 =>
            ihk fr1 h1 ρ1 a1 w1 ho hf1 hs1.sim fun ρ2 a2 w2 hf2 hs2 => hq ρ2 a2 w2 hf2 (hs1.trans hs2)
        · rename_i id fr1 h1 hx
          simp only [Option.some.injEq, Prod.mk.injEq] at ho
          obtain ⟨rfl, rfl, rfl⟩ := ho
          exact ih fr h (.exit id) fr1 h1 ρ a w _ hnd hx hf hs fun ρ1 a1 w1 hf1 hs1 => hq ρ1 a1 w1 hf1 hs1
        · rename_i fr1 h1 hx
          simp only [Option.some.injEq, Prod.mk.injEq] at ho
          obtain ⟨rfl, rfl, rfl⟩ := ho
          exact ih fr h .ret fr1 h1 ρ a w _ hnd hx hf hs fun ρ1 a1 w1 hf1 hs1 => hq ρ1 a1 w1 hf1 hs1
        · cases ho
    exact wpIn_loop_rounds n (key n fr h ρ a w ho hf hs hq)
  | exit id =>
    intro fr h e fr' h' ρ a w Q hnd ho hf hs hq
    simp only [aexec, Option.some.injEq, Prod.mk.injEq] at ho
    obtain ⟨rfl, rfl, rfl⟩ := ho
    exact wpIn_exit (hq ρ a w hf (Step.refl hs))
  | ret =>
    intro fr h e fr' h' ρ a w Q hnd ho hf hs hq
    simp only [aexec, Option.some.injEq, Prod.mk.injEq] at ho
    obtain ⟨rfl, rfl, rfl⟩ := ho
    exact wpIn_ret (hq ρ a w hf (Step.refl hs))
  | rangeFunc f ps as bo _ _ => intro fr h e fr' h' ρ a w Q _ ho; simp [aexec] at ho
  | scope c _ => intro fr h e fr' h' ρ a w Q _ ho; simp [aexec] at ho
  | goto l => intro fr h e fr' h' ρ a w Q _ ho; simp [aexec] at ho
  | refuse s => intro fr h e fr' h' ρ a w Q _ ho; simp [aexec] at ho
end Go.Eng
/- The engine, part 35: a range over a function. -/
namespace Go.Eng
/-- The frame in which the iterator starts: its register 0 holds yield. -/
def frameI (fn : Func) (caps : List AV) : AFrame := ⟨(1 + caps.length) + (fn.ntmps - (1 + caps.length)), args0 caps 1 .nil, []⟩
theorem wpIn_range {P : Program} (hP : POk P) {call : CallFn} (hcall : CallOk P call) {n m : Nat} {g : Operand} {ps : Array Tmp} {as bo : Code} {Q : Exit → Act → World → Prop} {fr : AFrame} {a : Act} {ρ : Rho} {h : AHeap} {w : World}
    (hf : FrRel ρ fr a) (hds : fr.ds = []) (hs : Sim ρ h w) (hnd1 : nodef as = true) (hnd2 : nodef bo = true) {gf : FuncId} {caps : List AV} (hg : aeval fr h.glob g = some (.func gf caps)) {fnI : Func} {cI : Code} (hfI : P.funcs[gf]? = some fnI) (hbI : fnI.body = some cI) (hb : hasBody P gf = true) (hrs : fnI.results = #[])
    {e : AEx} {s' : YSt} (hI : aexecY P call (rdOf P call n ps as bo fr) n cI (frameI fnI caps, [0], h) = some (e, s')) (he : e = .normal ∨ e = .ret) (hds' : s'.1.ds = [])
    (hq : ∀ ρ' w' D, Step ρ h w ρ' s'.2.2 w' → w'.heap[D]? = some (.deferred (some [])) → ¬ Use ρ' s'.2.2 D → w.heap.size ≤ D → Q .normal { a with defers := [{ target := .collected D, args := #[] }] } w') :
    (Code.rangeFunc g ps as bo).wpIn Fence.wide m P Q a w := by
  have had : a.defers = [] := hf.defers.trans hds
  refine wpIn_rangeFunc ?_
  intro fn _
  obtain ⟨W1, hW1⟩ : ∃ W1, (w.alloc (.deferred (some []))).alloc (.loop { state := .ready, pending := none, fn := fn, tmps := a.tmps, params := ps, assign := as, body := bo, defers := w.heap.size }) = W1 := ⟨_, rfl⟩
  have st1 : Step ρ h w ρ h W1 := by rw [← hW1]; exact ((Step.refl hs).alloc_extra _).alloc_extra _
  have hul : ¬ Use ρ h (w.heap.size + 1) := fun hu => by have := hs.use_lt hu; omega
  have hud : ¬ Use ρ h w.heap.size := fun hu => by have := hs.use_lt hu; omega
  obtain ⟨cs, hcs, hfv⟩ := conc_func (aeval_sound hf hs g _ hg)
  refine ⟨w.heap.size + 1, [{ target := .collected w.heap.size, args := #[] }], W1, { target := .fn (.func gf) cs.toArray, args := #[.func (.yield (w.heap.size + 1)) #[] #[]] }, W1, gf,
    #[.func (.yield (w.heap.size + 1)) #[] #[]] ++ cs.toArray, W1, ?_, ?_, ?_, ?_, fun hd => (by cases hd), ?_⟩
  · rw [← hW1]; exact run_enterLoop_outer _ _ _ _ _
  · simp only [resolve, hfv]
    simp [go_sem]
  · intro f' _; trivial
  · simp only [invoke]
    exact run_callFunc hP hb _ _
  · have hl1 : W1.heap[w.heap.size + 1]? = some (.loop { state := .ready, pending := none, fn := fn, tmps := a.tmps, params := ps, assign := as, body := bo, defers := w.heap.size }) := by
      rw [← hW1]; have := World.alloc_heap_new (w.alloc (.deferred (some []))) (.loop { state := .ready, pending := none, fn := fn, tmps := a.tmps, params := ps, assign := as, body := bo, defers := w.heap.size }); rwa [World.size_alloc] at this
    have hd1 : W1.heap[w.heap.size]? = some (.deferred (some [])) := by
      rw [← hW1]; show ((w.alloc (.deferred (some []))).heap.push _)[w.heap.size]? = _
      rw [Array.getElem?_push, if_neg (by rw [World.size_alloc]; omega)]
      exact World.alloc_heap_new w _
    have rr : RR ρ h w (w.heap.size + 1) w.heap.size (fun st pe => { state := st, pending := pe, fn := fn, tmps := a.tmps, params := ps, assign := as, body := bo, defers := w.heap.size }) ρ h W1 := ⟨st1, hul, hud, by omega, Nat.le_refl _, by omega, hl1, hd1⟩
    refine callsIn_of_wp hfI hbI trivial ?_
    have hlenc := concs_length _ _ hcs
    refine aexecY_sound (lp := w.heap.size + 1) hP hcall (fun _ _ _ r => r.st.sim) (fun _ _ _ _ _ _ r s => r.step s) (rounds_ok hP hcall hnd1 hnd2 hf hds) n cI _ _ _ ρ _ W1 _ hI ⟨rfl, by simp [frameI, hlenc]; omega, fun i v hv => ?_⟩ (fun i hi => ?_) rr fun ρ' a' w' hext hf' hy' rr' => ?_
    · simp only [frameI, AFrame.get] at hv
      rw [args0_get] at hv
      split at hv
      · rename_i hlt
        obtain ⟨c, h1, h2⟩ := concs_get _ _ _ _ hcs hv
        refine ⟨c, ?_, h2⟩
        rw [Array.getElem?_append, if_pos (by simp; omega), Array.getElem?_append, if_neg (by simp; omega)]
        simpa using h1
      · rw [T.get_nil] at hv; cases hv
    · simp at hi; subst hi
      rw [Array.getElem?_append, if_pos (by simp)]
      simp
    · have had' : a'.defers = [] := hf'.defers.trans hds'
      have hlst : (Instr.endLoop (w.heap.size + 1)).run P w' = .ok none (w'.putObj (w.heap.size + 1) (.loop { state := .exhausted, pending := none, fn := fn, tmps := a.tmps, params := ps, assign := as, body := bo, defers := w.heap.size })) := run_endLoop rr'.hl (by simp)
      have fin : ∃ v, (results fnI a'.tmps).run P w' = .ok v w' ∧ rangePost Fence.wide m P (w.heap.size + 1) Q { a with defers := [{ target := .collected w.heap.size, args := #[] }] ++ a.defers } (.returned v) w' := by
        refine ⟨.tuple #[], by simp [results, hrs], none, _, hlst, ?_⟩
        rw [had, List.append_nil]
        exact hq ρ' _ w.heap.size (rr'.st.putObj_extra rr'.ul (by omega) _) ((World.putObj_heap_other (by omega)).trans rr'.hd) rr'.ud (Nat.le_refl _)
      rcases he with rfl | rfl <;> exact ⟨had', fin⟩
end Go.Eng
