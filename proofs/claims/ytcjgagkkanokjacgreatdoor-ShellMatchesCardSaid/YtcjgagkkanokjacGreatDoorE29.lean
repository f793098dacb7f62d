/- The engine, part 29: copy as a rule of rewriting. -/
import Derived.Test.YtcjgagkkanokjacGreatDoorE27
import Derived.RangeFuncRecord
import Derived.RangeFuncIn
import Derived.BigFrameIn
namespace Go.Eng
attribute [local semireducible] AW OW SW EW CW Ca kop optP Wv Wn Wh SG Br SD DW dpost dskip dkop
section
variable {P : Program} [Orc]
def acopy2 (P : Program) (h : AHeap) (ts : List TypeId) (l : Option (List AV)) : Option (AV × AHeap) := match l with | some l => acopy P h ts l | none => none
omit [Orc] in
@[simp] theorem acopy2_some (h : AHeap) (ts : List TypeId) (l : List AV) : acopy2 P h ts (some l) = acopy P h ts l := rfl
@[simp] theorem EW_copy (fr : AFrame) (h : AHeap) (xs : Array Operand) (ts : Array TypeId) (K : AV → AHeap → Prop) : EW P fr h (.call ⟨.builtin .copy, xs, ts⟩) K = optP (acopy2 P h ts.toList (evs (aeval fr h.glob) xs.toList)) K := by
  simp only [EW, aop, kind, peff, acopy2]
  cases evs (aeval fr h.glob) xs.toList <;> rfl
end
end Go.Eng
/- The engine, part 30: blocks that the engine does not name; the operations of an iterator. -/
namespace Go.Eng
theorem Sim.world {ρ : Rho} {h : AHeap} {w w' : World} (hs : Sim ρ h w) (hk : ∀ k, Use ρ h k → w'.heap[k]? = w.heap[k]?) : Sim ρ h w' :=
  ⟨hs.rng, fun b hl => let ⟨pl, h1, h2⟩ := hs.obj b hl; ⟨pl, h1, h2.mono (Ext.refl ρ) (hk _ ⟨b, pl, hl, h1, rfl⟩)⟩, hs.sep, hs.glob, hs.gl⟩
theorem Sim.use_lt {ρ : Rho} {h : AHeap} {w : World} (hs : Sim ρ h w) {k : Nat} (hu : Use ρ h k) : k < w.heap.size := by
  obtain ⟨b, pl, hl, hp, rfl⟩ := hu
  obtain ⟨pl', h1, h2⟩ := hs.obj b hl
  rw [hp] at h1; cases h1
  exact h2.lt hl
theorem Step.alloc_extra {ρ0 ρ : Rho} {h0 h : AHeap} {w0 w : World} (s : Step ρ0 h0 w0 ρ h w) (o : Obj) : Step ρ0 h0 w0 ρ h (w.alloc o) := by
  have hg : ∀ k, k < w.heap.size → (w.alloc o).heap[k]? = w.heap[k]? := fun k hk => by show (w.heap.push o)[k]? = _; rw [Array.getElem?_push, if_neg (by omega)]
  exact ⟨s.ext, s.sim.world fun k hu => hg k (s.sim.use_lt hu), ⟨by rw [World.size_alloc]; exact Nat.le_succ_of_le s.keep.size, s.keep.os, s.keep.tape, s.keep.output, fun k hk hn =>
    let ⟨h1, h2⟩ := s.keep.old k hk hn; ⟨(hg k (Nat.lt_of_lt_of_le hk s.keep.size)).trans h1, h2⟩, s.keep.use⟩, s.nx, s.gb⟩
theorem Step.putObj_extra {ρ0 ρ : Rho} {h0 h : AHeap} {w0 w : World} (s : Step ρ0 h0 w0 ρ h w) {l : Nat} (hl : ¬ Use ρ h l) (hl0 : w0.heap.size ≤ l) (o : Obj) : Step ρ0 h0 w0 ρ h (w.putObj l o) := by
  have hg : ∀ k, k ≠ l → (w.putObj l o).heap[k]? = w.heap[k]? := fun k hk => World.putObj_heap_other hk
  exact ⟨s.ext, s.sim.world fun k hu => hg k fun e => hl (e ▸ hu), ⟨by rw [World.putObj_size]; exact s.keep.size, s.keep.os, s.keep.tape, s.keep.output, fun k hk hn =>
    let ⟨h1, h2⟩ := s.keep.old k hk hn; ⟨(hg k (by omega)).trans h1, h2⟩, s.keep.use⟩, s.nx, s.gb⟩
/-- A block beside the engine's stays as it is. -/
theorem Step.beside {ρ ρ' : Rho} {h h' : AHeap} {w w' : World} (s : Step ρ h w ρ' h' w') {l : Nat} (hl : ¬ Use ρ h l) (hlt : l < w.heap.size) : w'.heap[l]? = w.heap[l]? ∧ ¬ Use ρ' h' l :=
  ⟨(s.keep.old l hlt fun ho => hl ho.use).1, s.keep.use l hlt hl⟩
section
variable {m : Nat} {P : Program}
theorem callsIn_plain {f : FuncId} {args : Array Value} {w : World} {R : Ending → World → Prop} (h : Calls P f args w R) : CallsIn Fence.wide m P f args w R := (callsIn_wide (n := m)).2 h
theorem upon_wide {o : Oper} {a : Act} {next : Act → World → Prop} {Q : Exit → Act → World → Prop} {r : Result Next} (h : o.upon P a next (noOut Q) r) : o.uponIn Fence.wide m P a next Q r := by
  cases r with
  | ok x w' =>
    cases x with
    | enter f args =>
      refine ⟨fun hd => (by cases hd), callsIn_plain (Calls.mono (show Calls P f args w' _ from h) ?_)⟩
      rintro e w'' he
      cases e with
      | returned v => exact he
      | panicked ch => exact he.2
      | outgrown => exact absurd he (noOut_lets Q)
    | row row args => exact ⟨fun hd => (by cases hd), fun c cs _ => (by obtain ⟨v, w2, h1, h2⟩ := (show Rows P row args w' _ from h) c cs; exact ⟨v, w2, h1, stepsIn_wide.2 h2⟩)⟩
    | value v => exact h
    | skip => exact h
    | defer d => exact h
    | _ => exact h.elim
  | halt x w' =>
    cases x with
    | panic v => exact h.2
    | _ => exact h.elim
theorem op_wide {o : Oper} {a : Act} {w : World} {next : Act → World → Prop} {Q : Exit → Act → World → Prop} (h : o.wp P a w next (noOut Q)) : o.wpIn Fence.wide m P a w next Q :=
  ⟨fun _ _ => trivial, upon_wide h⟩
end
end Go.Eng
/- The engine, part 31: the operations of an iterator. -/
namespace Go.Eng
/-- The registers that hold yield. -/
def YRel (lp : Nat) (Y : List Nat) (a : Act) : Prop := ∀ i ∈ Y, a.tmps[i]? = some (.func (.yield lp) #[] #[])
def dropY (Y : List Nat) (d : Option Tmp) : List Nat := match d with | some d => Y.filter fun i => !(i == d) | none => Y
def plainY (P : Program) (call : CallFn) (ops : Array Oper) (fr : AFrame) (Y : List Nat) (h : AHeap) (o : Oper) : Option (AFrame × List Nat × AHeap) :=
  match astep P call ops fr h o with
  | some (v, h') => match fr.put o.dst v with
    | some fr' => some (fr', dropY Y o.dst, h')
    | none => none
  | none => none
def ystep (P : Program) (call : CallFn) (rd : List AV → AHeap → Option (AV × AHeap)) (ops : Array Oper) (fr : AFrame) (Y : List Nat) (h : AHeap) (o : Oper) : Option (AFrame × List Nat × AHeap) :=
  match o.guard, o.op with
  | none, .move (.tmp i) => if Y.contains i then (match o.dst with
      | some d => match fr.get d with | none => (if d < fr.n then some (fr, d :: Y, h) else none) | some _ => none
      | none => none) else plainY P call ops fr Y h o
  | none, .call ⟨.value (.tmp i), args, _⟩ => if Y.contains i then (match evs (aeval fr h.glob) args.toList with
      | some l => match rd l h with
        | some (v, h') => match fr.put o.dst v with
          | some fr' => some (fr', dropY Y o.dst, h')
          | none => none
        | none => none
      | none => none) else plainY P call ops fr Y h o
  | _, _ => plainY P call ops fr Y h o
def aopsY (P : Program) (call : CallFn) (rd : List AV → AHeap → Option (AV × AHeap)) (ops : Array Oper) : List Oper → AFrame → List Nat → AHeap → Option (AFrame × List Nat × AHeap)
  | [], fr, Y, h => some (fr, Y, h)
  | o :: r, fr, Y, h => match ystep P call rd ops fr Y h o with
    | some (fr', Y', h') => aopsY P call rd ops r fr' Y' h'
    | none => none
theorem put_other {a : Act} {d : Tmp} {c : Value} {i : Nat} (h : i ≠ d) : (a.put (some d) c).tmps[i]? = a.tmps[i]? := by
  simp only [Act.put]
  rw [Array.getElem?_setIfInBounds_ne (Ne.symm h)]
theorem YRel.put {lp : Nat} {Y : List Nat} {a : Act} (hy : YRel lp Y a) (d : Option Tmp) (c : Value) : YRel lp (dropY Y d) (a.put d c) := by
  intro i hi
  cases d with
  | none => exact hy i hi
  | some d =>
    simp only [dropY, List.mem_filter] at hi
    rw [put_other (by simpa using hi.2)]
    exact hy i hi.1
section
variable {P : Program} {lp m : Nat}
/-- What a round of the loop does, as the engine sees it. -/
def RoundOk (P : Program) (lp m : Nat) (R : Rho → AHeap → World → Prop) (rd : List AV → AHeap → Option (AV × AHeap)) : Prop :=
  ∀ args h v h' ρ w cargs, rd args h = some (v, h') → R ρ h w → concs ρ args = some cargs → ∃ f tmps as bo, (Instr.yield lp cargs.toArray).run P w = .ok (.round lp f tmps as bo) w ∧
    RoundIn Fence.wide (m - 1) P lp f tmps as bo w (fun e w' => ∃ c ρ', e = .returned c ∧ conc ρ' v = some c ∧ Ext ρ ρ' ∧ R ρ' h' w')
theorem plainY_sound (hP : POk P) {call : CallFn} (hcall : CallOk P call) {R : Rho → AHeap → World → Prop} (hR1 : ∀ ρ h w, R ρ h w → Sim ρ h w) (hR2 : ∀ ρ h w ρ' h' w', R ρ h w → Step ρ h w ρ' h' w' → R ρ' h' w')
    {ops : Array Oper} {o : Oper} {r : List Oper} {fr fr' : AFrame} {Y Y' : List Nat} {h h' : AHeap} {ρ : Rho} {a : Act} {w : World} {Q : Exit → Act → World → Prop} (ho : plainY P call ops fr Y h o = some (fr', Y', h')) (hf : FrRel ρ fr a) (hy : YRel lp Y a) (hr : R ρ h w)
    (hq : ∀ ρ' a' w', Ext ρ ρ' → FrRel ρ' fr' a' → YRel lp Y' a' → R ρ' h' w' → wpListIn Fence.wide m P ops Q r a' w') : wpListIn Fence.wide m P ops Q (o :: r) a w := by
  unfold plainY at ho
  split at ho
  · rename_i v h1 hst
    split at ho
    · rename_i fr1 hp
      simp only [Option.some.injEq, Prod.mk.injEq] at ho
      obtain ⟨rfl, rfl, rfl⟩ := ho
      have hs := hR1 _ _ _ hr
      have next : ∀ c w' ρ', conc ρ' v = some c → Step ρ h w ρ' h1 w' → wpListIn Fence.wide m P ops Q r (a.put o.dst c) w' := fun c w' ρ' hcv hst' =>
        hq ρ' (a.put o.dst c) w' hst'.ext ((hf.mono hst'.ext).put hp hcv) (hy.put o.dst c) (hR2 _ _ _ _ _ _ hr hst')
      unfold astep at hst
      unfold wpListIn
      split at hst
      · rename_i hw
        rw [awanted_sound hw hf, if_pos rfl]
        exact op_wide (aop_sound hP hcall hst (aeval_sound hf hs) hs next)
      · rename_i hw
        cases hst
        rw [awanted_sound hw hf, if_neg (by simp)]
        exact ⟨fun _ _ => trivial, next undef w ρ (by simp [conc, concs, undef]) (Step.refl hs)⟩
      · cases hst
    · cases ho
  · cases ho
theorem ystep_sound (hP : POk P) {call : CallFn} (hcall : CallOk P call) {R : Rho → AHeap → World → Prop} (hR1 : ∀ ρ h w, R ρ h w → Sim ρ h w) (hR2 : ∀ ρ h w ρ' h' w', R ρ h w → Step ρ h w ρ' h' w' → R ρ' h' w') {rd : List AV → AHeap → Option (AV × AHeap)} (hrd : RoundOk P lp m R rd)
    {ops : Array Oper} {o : Oper} {r : List Oper} {fr fr' : AFrame} {Y Y' : List Nat} {h h' : AHeap} {ρ : Rho} {a : Act} {w : World} {Q : Exit → Act → World → Prop} (ho : ystep P call rd ops fr Y h o = some (fr', Y', h')) (hf : FrRel ρ fr a) (hy : YRel lp Y a) (hr : R ρ h w)
    (hq : ∀ ρ' a' w', Ext ρ ρ' → FrRel ρ' fr' a' → YRel lp Y' a' → R ρ' h' w' → wpListIn Fence.wide m P ops Q r a' w') : wpListIn Fence.wide m P ops Q (o :: r) a w := by
  unfold ystep at ho
  split at ho
  · rename_i i hg hop
    split at ho
    · rename_i hc
      have hi : i ∈ Y := by simpa using hc
      split at ho
      · rename_i d hd
        split at ho
        · rename_i hn
          split at ho
          case isFalse => cases ho
          rename_i hdn
          simp only [Option.some.injEq, Prod.mk.injEq] at ho
          obtain ⟨rfl, rfl, rfl⟩ := ho
          have hw : Region.wanted o (yielded ops a.tmps) = true := by simp [Region.wanted, hg]
          refine Go.BigFrame.wpListIn_want hw fun K hK => Go.BigFrame.wpIn_move (.tmp i) hop (hK _ _ ?_)
          have hv : a.eval (.tmp i) = .func (.yield lp) #[] #[] := by
            have := hy i hi
            simp [Act.eval, this]
          rw [hv, hd]
          refine hq ρ _ w (Ext.refl ρ) ?_ ?_ hr
          · refine ⟨hf.defers, by simp [Act.put, hf.size], fun j v hj => ?_⟩
            have hne : j ≠ d := fun e => by subst e; rw [hn] at hj; cases hj
            rw [put_other hne]
            exact hf.val j v hj
          · intro j hj
            by_cases e : j = d
            · subst e
              simp [Act.put, hf.size, hdn]
            · rw [put_other e]
              rcases List.mem_cons.1 hj with e2 | e2
              · exact absurd e2 e
              · exact hy j e2
        · cases ho
      · cases ho
    · exact plainY_sound hP hcall hR1 hR2 ho hf hy hr hq
  · rename_i i args ts hg hop
    split at ho
    · rename_i hc
      have hi : i ∈ Y := by simpa using hc
      split at ho
      · rename_i l hl
        split at ho
        · rename_i v h1 hrdv
          split at ho
          · rename_i fr1 hp
            simp only [Option.some.injEq, Prod.mk.injEq] at ho
            obtain ⟨rfl, rfl, rfl⟩ := ho
            have hw : Region.wanted o (yielded ops a.tmps) = true := by simp [Region.wanted, hg]
            have hs := hR1 _ _ _ hr
            have hargs := evs_sound (aeval_sound hf hs) _ _ hl
            have hv : a.eval (.tmp i) = .func (.yield lp) #[] #[] := by
              have := hy i hi
              simp [Act.eval, this]
            obtain ⟨f, tmps, as, bo, hrun, hround⟩ := hrd l h v h1 ρ w _ hrdv hr hargs
            refine Go.BigFrame.wpListIn_want hw fun K hK => ⟨fun _ _ => trivial, ?_⟩
            have e : args.map a.eval = (args.toList.map a.eval).toArray := by apply Array.ext'; simp
            have hexec : (Oper.semAt Fence.wide.round a.eval o).run P w = .ok (.round lp f tmps as bo) w := by
              rw [Oper.semAt_eq _ _ _ (by simp [hop])]
              unfold execOp
              rw [hop]
              simp only [resolve, hv, Deferred.ofValue, Sem.run_bind, Sem.run_pure, Result.andThen_ok, invoke, e]
              simpa using hrun
            rw [hexec]
            refine ⟨fun hd => (by cases hd), hround.mono ?_⟩
            rintro e2 w' ⟨c, ρ', rfl, hcv, hext, hr'⟩
            exact hK _ _ (hq ρ' _ w' hext ((hf.mono hext).put hp hcv) (hy.put o.dst c) hr')
          · cases ho
        · cases ho
      · cases ho
    · exact plainY_sound hP hcall hR1 hR2 ho hf hy hr hq
  · exact plainY_sound hP hcall hR1 hR2 ho hf hy hr hq
end
end Go.Eng
