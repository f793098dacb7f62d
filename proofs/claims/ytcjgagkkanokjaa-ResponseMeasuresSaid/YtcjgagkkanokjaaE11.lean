/- The engine, part 11: one operation; a region in the order of the text. -/
import Derived.Test.YtcjgagkkanokjaaE10
import Derived.LoopN
import Derived.Tactics
namespace Go.Eng

/-! ### frames -/
structure AFrame where
  n : Nat
  t : T AV
def AFrame.get (fr : AFrame) (i : Nat) : Option AV := T.get 6 fr.t i
def AFrame.put (fr : AFrame) (dst : Option Tmp) (v : AV) : Option AFrame :=
  match dst with
  | none => some fr
  | some d => bif Nat.blt d fr.n then some { fr with t := T.set 6 fr.t d v } else none
structure FrRel (ρ : Rho) (fr : AFrame) (a : Act) : Prop where
  defers : a.defers = []
  size : a.tmps.size = fr.n
  val : ∀ i v, fr.get i = some v → ∃ c, a.tmps[i]? = some c ∧ conc ρ v = some c

theorem FrRel.mono {ρ ρ' : Rho} {fr : AFrame} {a : Act} (h : FrRel ρ fr a) (he : Ext ρ ρ') : FrRel ρ' fr a :=
  ⟨h.defers, h.size, fun i v hv => let ⟨c, h1, h2⟩ := h.val i v hv; ⟨c, h1, conc_mono he v c h2⟩⟩
theorem AFrame.get_put {fr fr' : AFrame} {d : Nat} {v : AV} (h : fr.put (some d) v = some fr') (i : Nat) : fr'.get i = if d = i then some v else fr.get i := by
  simp only [AFrame.put] at h
  cases hb : Nat.blt d fr.n with
  | false => simp [hb] at h
  | true =>
    simp [hb] at h
    subst h
    simp only [AFrame.get, T.get_set]
theorem AFrame.put_lt {fr fr' : AFrame} {d : Nat} {v : AV} (h : fr.put (some d) v = some fr') : d < fr.n ∧ fr'.n = fr.n := by
  simp only [AFrame.put] at h
  cases hb : Nat.blt d fr.n with
  | false => simp [hb] at h
  | true =>
    simp [hb] at h
    subst h
    exact ⟨by have : d + 1 ≤ fr.n := by simpa [Nat.blt, Nat.ble_eq] using hb
              omega, rfl⟩
theorem FrRel.put {ρ : Rho} {fr fr' : AFrame} {a : Act} {dst : Option Tmp} {v : AV} {c : Value} (h : FrRel ρ fr a) (hp : fr.put dst v = some fr') (hc : conc ρ v = some c) : FrRel ρ fr' (a.put dst c) := by
  cases dst with
  | none => simp only [AFrame.put, Option.some.injEq] at hp; subst hp; exact h
  | some d =>
    obtain ⟨hlt, hn⟩ := AFrame.put_lt hp
    refine ⟨h.defers, by simp [Act.put, h.size, hn], fun i u hu => ?_⟩
    rw [AFrame.get_put hp] at hu
    by_cases e : d = i
    · subst e
      rw [if_pos rfl] at hu; cases hu
      refine ⟨c, ?_, hc⟩
      simp only [Act.put]
      rw [Array.getElem?_setIfInBounds_self_of_lt (by rw [h.size]; exact hlt)]
    · rw [if_neg e] at hu
      obtain ⟨c', h1, h2⟩ := h.val i u hu
      refine ⟨c', ?_, h2⟩
      simp only [Act.put]
      rw [Array.getElem?_setIfInBounds_ne e]
      exact h1

def aeval (fr : AFrame) (g : Nat) : Operand → Option AV
  | .tmp t => fr.get t
  | .const v => ofValue v
  | .global i => bif Nat.blt i g then some (.ptr i 0) else none
  | .func f => some (.func f [])
theorem aeval_sound {ρ : Rho} {fr : AFrame} {a : Act} {h : AHeap} {w : World} (hf : FrRel ρ fr a) (hs : Sim ρ h w) : EvRel ρ (aeval fr h.glob) a.eval := by
  intro x v hv
  cases x with
  | tmp t =>
    obtain ⟨c, h1, h2⟩ := hf.val t v hv
    rw [h2]
    simp [Act.eval, h1]
  | const u => exact conc_ofValue hv
  | global i =>
    simp only [aeval] at hv
    cases hb : Nat.blt i h.glob with
    | false => simp [hb] at hv
    | true =>
      simp [hb] at hv
      subst hv
      have hlt : i + 1 ≤ h.glob := by simpa [Nat.blt, Nat.ble_eq] using hb
      obtain ⟨e, he⟩ := hs.glob i hlt
      simp [conc, he, Act.eval]
  | func f => simp only [aeval, Option.some.injEq] at hv; subst hv; simp [conc, concs, Act.eval]

/-! ### guards -/
def awanted (ops : Array Oper) (fr : AFrame) (o : Oper) : Option Bool :=
  match o.guard with
  | none => some true
  | some (j, want) =>
    match (ops[j]?).bind (·.dst) with
    | none => none
    | some d => match fr.get d with
      | some (.bool b) => some (b == want)
      | some (.tuple _) => some false
      | _ => none
theorem awanted_sound {ρ : Rho} {ops : Array Oper} {fr : AFrame} {o : Oper} {b : Bool} {a : Act} (h : awanted ops fr o = some b) (hf : FrRel ρ fr a) : Region.wanted o (yielded ops a.tmps) = b := by
  unfold awanted at h
  unfold Region.wanted
  cases hg : o.guard with
  | none => simp [hg] at h; simp [h]
  | some jw =>
    obtain ⟨j, want⟩ := jw
    simp only [hg] at h
    cases hd : (ops[j]?).bind (·.dst) with
    | none => simp [hd] at h
    | some d =>
      simp only [hd] at h
      cases hv : fr.get d with
      | none => simp [hv] at h
      | some v =>
        obtain ⟨c, h1, h2⟩ := hf.val d v hv
        cases v <;> simp [hv] at h
        · subst h
          rw [conc_bool h2] at h1
          simp [yielded, hd, h1]
        · subst h
          obtain ⟨x, _, rfl⟩ := conc_tuple h2
          simp [yielded, hd, h1]

/-! ### one operation -/
inductive Kind where
  | pure | load | alloc | eff
  deriving DecidableEq
def kind : Op → Kind
  | .load _ _ => .load
  | .alloc _ | .box _ _ | .buildSlice _ _ _ | .makeSlice _ _ _ => .alloc
  | .store _ _ _ => .eff
  | .call c => match c.callee with
    | .builtin .len | .builtin .cap | .builtin .min | .builtin .max => .pure
    | _ => .eff
  | _ => .pure

abbrev CallFn := FuncId → List AV → AHeap → Option (AV × AHeap)
def CallOk (P : Program) (call : CallFn) : Prop :=
  ∀ (f : FuncId) (args : List AV) (h : AHeap) (r : AV) (h' : AHeap) (ρ : Rho) (w : World) (cargs : List Value), call f args h = some (r, h') → Sim ρ h w → concs ρ args = some cargs →
    Calls P f cargs.toArray w fun e w' => ∃ c ρ', e = .returned c ∧ conc ρ' r = some c ∧ Step ρ h w ρ' h' w'
structure POk (P : Program) : Prop where
  ng : ∀ (f : FuncId) (fn : Func), P.funcs[f]? = some fn → (fn.name == "runtime.NumGoroutine") = false
  mixed : P.follows .mixedOrders = true

def hasBody (P : Program) (f : FuncId) : Bool := match P.funcs[f]? with | some fn => fn.body.isSome | none => false

def peff (P : Program) (call : CallFn) (h : AHeap) (ev : Operand → Option AV) (op : Op) : Option (AV × AHeap) :=
  match op with
  | .store t a x => match ev a, ev x with
    | some p, some v => match astore P h t p v with
      | some h' => some (.tuple [], h')
      | none => none
    | _, _ => none
  | .call c =>
    match c.callee with
    | .builtin b => match evs ev c.args.toList with
      | some l => match b with
        | .append => aappend P h c.argTypes.toList l
        | .copy => acopy P h c.argTypes.toList l
        | .clear => aclear P h c.argTypes.toList l
        | _ => none
      | none => none
    | .value f => match ev f, evs ev c.args.toList with
      | some (.func g cap), some l => bif hasBody P g then call g (l ++ cap) h else none
      | _, _ => none
    | .invoke _ _ => none
  | _ => none

def aop (P : Program) (call : CallFn) (h : AHeap) (ev : Operand → Option AV) (op : Op) : Option (AV × AHeap) :=
  match kind op with
  | .pure => match ppure P ev op with
    | some v => some (v, h)
    | none => none
  | .load => match pload P h ev op with
    | some v => some (v, h)
    | none => none
  | .alloc => match palloc P ev op with
    | some (e, cs, m) => some (m.abs h.next, h.new (.cells e cs (some 0)))
    | none => none
  | .eff => peff P call h ev op

theorem run_callFunc {P : Program} (hP : POk P) {g : FuncId} (hb : hasBody P g = true) (args : Array Value) (w : World) : (callFunc g args).run P w = .ok (.enter g args) w := by
  unfold hasBody at hb
  cases hf : P.funcs[g]? with
  | none => simp [hf] at hb
  | some fn =>
    simp only [hf] at hb
    have hn := hP.ng g fn hf
    have hbn : fn.body ≠ none := by intro hx; simp [hx] at hb
    have hn' : fn.name ≠ "runtime.NumGoroutine" := by simpa using hn
    simp [callFunc, hf, hn', hbn]

theorem peff_sound {P : Program} (hP : POk P) {call : CallFn} (hc : CallOk P call) {h h' : AHeap} {o : Oper} {v : AV} {ρ : Rho} {a : Act} {w : World} {ev : Operand → Option AV} (ho : peff P call h ev o.op = some (v, h')) (he : EvRel ρ ev a.eval) (hs : Sim ρ h w)
    {next : Act → World → Prop} {Q : Exit → Act → World → Prop} (hn : ∀ c w' ρ', conc ρ' v = some c → Step ρ h w ρ' h' w' → next (a.put o.dst c) w') : o.wp P a w next Q := by
  obtain ⟨dst, op, ty, pos, after, guard⟩ := o
  simp only at ho
  unfold Oper.wp
  cases op <;> simp only [peff] at ho <;> try (cases ho; done)
  case store t p x =>
    split at ho
    · rename_i p' v' hp hx
      split at ho
      · rename_i h2 hst
        cases ho
        obtain ⟨w', hr, hst⟩ := astore_sound (P := P) hst (he p p' hp) (he x v' hx) hs
        simp only [execOp, Sem.run_bind, hr, Result.andThen_ok, Sem.run_pure, Oper.upon]
        exact hn _ w' ρ (by simp [conc, concs, undef]) hst
      · cases ho
    · cases ho
  case call c =>
    obtain ⟨callee, args, argTypes⟩ := c
    cases callee with
    | builtin b =>
      simp only at ho
      split at ho
      · rename_i l hl
        have hargs := evs_sound he _ _ hl
        have e : args.map a.eval = (args.toList.map a.eval).toArray := by apply Array.ext'; simp
        have et : argTypes = argTypes.toList.toArray := by simp
        split at ho
        · obtain ⟨c, w', ρ', hr, hcv, hst⟩ := aappend_sound (P := P) (ty := ty) ho hargs hs
          simp only [execOp, resolve, Sem.run_bind, Sem.run_pure, Result.andThen_ok, invoke, builtin, e]
          rw [et, hr]
          exact hn c w' ρ' hcv hst
        · obtain ⟨c, w', ρ', hr, hcv, hst⟩ := acopy_sound (P := P) (ty := ty) ho hargs hs
          simp only [execOp, resolve, Sem.run_bind, Sem.run_pure, Result.andThen_ok, invoke, builtin, e]
          rw [et, hr]
          exact hn c w' ρ' hcv hst
        · obtain ⟨c, w', ρ', hr, hcv, hst⟩ := aclear_sound (P := P) (ty := ty) ho hargs hs
          simp only [execOp, resolve, Sem.run_bind, Sem.run_pure, Result.andThen_ok, invoke, builtin, e]
          rw [et, hr]
          exact hn c w' ρ' hcv hst
        · cases ho
      · cases ho
    | value f =>
      simp only at ho
      split at ho
      · rename_i g cap l hf hl
        cases hb : hasBody P g with
        | false => simp [hb] at ho
        | true =>
          simp [hb] at ho
          have hargs := evs_sound he _ _ hl
          obtain ⟨x, hx, hfv⟩ := conc_func (he f _ hf)
          have e : args.map a.eval = (args.toList.map a.eval).toArray := by apply Array.ext'; simp
          have hcall := hc g _ h v h' ρ w _ ho hs (concs_append _ _ _ _ hargs hx)
          have hrun : (execOp a.eval { dst := dst, op := .call { callee := .value f, args := args, argTypes := argTypes }, type := ty, pos := pos, after := after, guard := guard }).run P w = .ok (.enter g (args.toList.map a.eval ++ x).toArray) w := by
            simp only [execOp, resolve, hfv, Deferred.ofValue, Sem.run_bind, Sem.run_pure, Result.andThen_ok, invoke, e]
            rw [show (#[] ++ (args.toList.map a.eval).toArray) ++ x.toArray = (args.toList.map a.eval ++ x).toArray by apply Array.ext'; simp]
            exact run_callFunc hP hb _ w
          rw [hrun]
          simp only [Oper.upon]
          refine hcall.mono ?_
          rintro e w' ⟨c, ρ', rfl, hcv, hst⟩
          exact hn c w' ρ' hcv hst
      · cases ho
    | invoke r m => simp at ho

theorem aop_sound {P : Program} (hP : POk P) {call : CallFn} (hc : CallOk P call) {h h' : AHeap} {o : Oper} {v : AV} {ρ : Rho} {a : Act} {w : World} {ev : Operand → Option AV} (ho : aop P call h ev o.op = some (v, h')) (he : EvRel ρ ev a.eval) (hs : Sim ρ h w)
    {next : Act → World → Prop} {Q : Exit → Act → World → Prop} (hn : ∀ c w' ρ', conc ρ' v = some c → Step ρ h w ρ' h' w' → next (a.put o.dst c) w') : o.wp P a w next Q := by
  unfold aop at ho
  split at ho
  · split at ho
    · rename_i u hu
      cases ho
      obtain ⟨c, h1, h2⟩ := ppure_sound hu he
      unfold Oper.wp
      rw [h2 w]
      exact hn c w ρ h1 (Step.refl hs)
    · cases ho
  · split at ho
    · rename_i u hu
      cases ho
      obtain ⟨c, h1, h2⟩ := pload_sound hu he hs
      unfold Oper.wp
      rw [h2]
      exact hn c w ρ h1 (Step.refl hs)
    · cases ho
  · split at ho
    · rename_i e cs m hm
      cases ho
      obtain ⟨c, w', ρ', h1, h2, h3⟩ := Step.newblk (P := P) hm he hs
      unfold Oper.wp
      rw [h1]
      exact hn c w' ρ' h2 h3
    · cases ho
  · exact peff_sound hP hc ho he hs hn

def astep (P : Program) (call : CallFn) (ops : Array Oper) (fr : AFrame) (h : AHeap) (o : Oper) : Option (AV × AHeap) :=
  match awanted ops fr o with
  | some true => aop P call h (aeval fr h.glob) o.op
  | some false => some (.tuple [], h)
  | none => none

/-! ### a region in the order of the text -/
def aops (P : Program) (call : CallFn) (ops : Array Oper) : List Oper → AFrame → AHeap → Option (AFrame × AHeap)
  | [], fr, h => some (fr, h)
  | o :: r, fr, h =>
    match astep P call ops fr h o with
    | some (v, h') => match fr.put o.dst v with
      | some fr' => aops P call ops r fr' h'
      | none => none
    | none => none

theorem aops_sound {P : Program} (hP : POk P) {call : CallFn} (hc : CallOk P call) {ops : Array Oper} {Q : Exit → Act → World → Prop} : ∀ (l : List Oper) (fr fr' : AFrame) (h h' : AHeap) (ρ : Rho) (a : Act) (w : World),
    aops P call ops l fr h = some (fr', h') → FrRel ρ fr a → Sim ρ h w → (∀ ρ' a' w', FrRel ρ' fr' a' → Step ρ h w ρ' h' w' → Q .normal a' w') → wpList P ops Q l a w
  | [], fr, fr', h, h', ρ, a, w, ho, hf, hs, hq => by
    simp only [aops, Option.some.injEq, Prod.mk.injEq] at ho
    obtain ⟨rfl, rfl⟩ := ho
    exact hq ρ a w hf (Step.refl hs)
  | o :: r, fr, fr', h, h', ρ, a, w, ho, hf, hs, hq => by
    simp only [aops] at ho
    split at ho
    · rename_i v h1 hst
      split at ho
      · rename_i fr1 hp
        have next : ∀ c w' ρ', conc ρ' v = some c → Step ρ h w ρ' h1 w' → wpList P ops Q r (a.put o.dst c) w' := fun c w' ρ' hcv hst' =>
          aops_sound hP hc r fr1 fr' h1 h' ρ' (a.put o.dst c) w' ho ((hf.mono hst'.ext).put hp hcv) hst'.sim (fun ρ2 a2 w2 hf2 hs2 => hq ρ2 a2 w2 hf2 (hst'.trans hs2))
        unfold astep at hst
        unfold wpList
        split at hst
        · rename_i hw
          rw [awanted_sound hw hf, if_pos rfl]
          exact .inl (aop_sound hP hc hst (aeval_sound hf hs) hs next)
        · rename_i hw
          cases hst
          rw [awanted_sound hw hf, if_neg (by simp)]
          exact next undef w ρ (by simp [conc, concs, undef]) (Step.refl hs)
        · cases hst
      · cases ho
    · cases ho

end Go.Eng
