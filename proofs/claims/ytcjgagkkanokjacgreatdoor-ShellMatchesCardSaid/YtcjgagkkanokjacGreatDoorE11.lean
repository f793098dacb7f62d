/- The engine, part 11: one operation; a region in the order of the text. -/
import Derived.Test.YtcjgagkkanokjacGreatDoorX4
import Derived.LoopN
import Derived.Tactics
namespace Go.Eng

/-! ### frames -/
structure AFrame where
  n : Nat
  t : T AV
  ds : List Deferred := []
def AFrame.get (fr : AFrame) (i : Nat) : Option AV := T.get 6 fr.t i
def AFrame.put (fr : AFrame) (dst : Option Tmp) (v : AV) : Option AFrame :=
  match dst with
  | none => some fr
  | some d => bif Nat.blt d fr.n then some { fr with t := T.set 6 fr.t d v } else none
structure FrRel (ρ : Rho) (fr : AFrame) (a : Act) : Prop where
  defers : a.defers = fr.ds
  size : a.tmps.size = fr.n
  val : ∀ i v, fr.get i = some v → ∃ c, a.tmps[i]? = some c ∧ conc ρ v = some c

theorem FrRel.mono {ρ ρ' : Rho} {fr : AFrame} {a : Act} (h : FrRel ρ fr a) (he : Ext ρ ρ') : FrRel ρ' fr a :=
  ⟨h.defers, h.size, fun i v hv => let ⟨c, h1, h2⟩ := h.val i v hv; ⟨c, h1, conc_mono he v c h2⟩⟩
theorem AFrame.get_put {fr fr' : AFrame} {d : Nat} {v : AV} (h : fr.put (some d) v = some fr') (i : Nat) : fr'.get i = if d = i then some v else fr.get i := by
  simp only [AFrame.put] at h
  cases hb : Nat.blt d fr.n with
  | false => simp [hb] at h
  | true =>
    simp [hb] at h
    subst h
    simp only [AFrame.get, T.get_set]
theorem AFrame.put_lt {fr fr' : AFrame} {d : Nat} {v : AV} (h : fr.put (some d) v = some fr') : d < fr.n ∧ fr'.n = fr.n := by
  simp only [AFrame.put] at h
  cases hb : Nat.blt d fr.n with
  | false => simp [hb] at h
  | true =>
    simp [hb] at h
    subst h
    exact ⟨by have : d + 1 ≤ fr.n := by simpa [Nat.blt, Nat.ble_eq] using hb
              omega, rfl⟩
theorem AFrame.put_ds {fr fr' : AFrame} {d : Option Tmp} {v : AV} (h : fr.put d v = some fr') : fr'.ds = fr.ds := by
  cases d with
  | none => simp only [AFrame.put, Option.some.injEq] at h; subst h; rfl
  | some d =>
    simp only [AFrame.put] at h
    cases hb : Nat.blt d fr.n with
    | false => simp [hb] at h
    | true => simp [hb] at h; subst h; rfl
theorem FrRel.put {ρ : Rho} {fr fr' : AFrame} {a : Act} {dst : Option Tmp} {v : AV} {c : Value} (h : FrRel ρ fr a) (hp : fr.put dst v = some fr') (hc : conc ρ v = some c) : FrRel ρ fr' (a.put dst c) := by
  cases dst with
  | none => simp only [AFrame.put, Option.some.injEq] at hp; subst hp; exact h
  | some d =>
    obtain ⟨hlt, hn⟩ := AFrame.put_lt hp
    refine ⟨h.defers.trans (AFrame.put_ds hp).symm, by simp [Act.put, h.size, hn], fun i u hu => ?_⟩
    rw [AFrame.get_put hp] at hu
    by_cases e : d = i
    · subst e
      rw [if_pos rfl] at hu; cases hu
      refine ⟨c, ?_, hc⟩
      simp only [Act.put]
      rw [Array.getElem?_setIfInBounds_self_of_lt (by rw [h.size]; exact hlt)]
    · rw [if_neg e] at hu
      obtain ⟨c', h1, h2⟩ := h.val i u hu
      refine ⟨c', ?_, h2⟩
      simp only [Act.put]
      rw [Array.getElem?_setIfInBounds_ne e]
      exact h1

def aeval (fr : AFrame) (g : Nat) : Operand → Option AV
  | .tmp t => fr.get t
  | .const v => ofValue v
  | .global i => bif Nat.blt i g then some (.ptr i 0) else none
  | .func f => some (.func f [])
theorem aeval_sound {ρ : Rho} {fr : AFrame} {a : Act} {h : AHeap} {w : World} (hf : FrRel ρ fr a) (hs : Sim ρ h w) : EvRel ρ (aeval fr h.glob) a.eval := by
  intro x v hv
  cases x with
  | tmp t =>
    obtain ⟨c, h1, h2⟩ := hf.val t v hv
    rw [h2]
    simp [Act.eval, h1]
  | const u => exact conc_ofValue hv
  | global i =>
    simp only [aeval] at hv
    cases hb : Nat.blt i h.glob with
    | false => simp [hb] at hv
    | true =>
      simp [hb] at hv
      subst hv
      have hlt : i + 1 ≤ h.glob := by simpa [Nat.blt, Nat.ble_eq] using hb
      obtain ⟨e, he⟩ := hs.glob i hlt
      simp [conc, he, Act.eval]
  | func f => simp only [aeval, Option.some.injEq] at hv; subst hv; simp [conc, concs, Act.eval]

/-! ### guards -/
def awanted (ops : Array Oper) (fr : AFrame) (o : Oper) : Option Bool :=
  match o.guard with
  | none => some true
  | some (j, want) =>
    match (ops[j]?).bind (·.dst) with
    | none => none
    | some d => match fr.get d with
      | some (.bool b) => some (b == want)
      | some (.tuple _) => some false
      | _ => none
theorem awanted_sound {ρ : Rho} {ops : Array Oper} {fr : AFrame} {o : Oper} {b : Bool} {a : Act} (h : awanted ops fr o = some b) (hf : FrRel ρ fr a) : Region.wanted o (yielded ops a.tmps) = b := by
  unfold awanted at h
  unfold Region.wanted
  cases hg : o.guard with
  | none => simp [hg] at h; simp [h]
  | some jw =>
    obtain ⟨j, want⟩ := jw
    simp only [hg] at h
    cases hd : (ops[j]?).bind (·.dst) with
    | none => simp [hd] at h
    | some d =>
      simp only [hd] at h
      cases hv : fr.get d with
      | none => simp [hv] at h
      | some v =>
        obtain ⟨c, h1, h2⟩ := hf.val d v hv
        cases v <;> simp [hv] at h
        · subst h
          rw [conc_bool h2] at h1
          simp [yielded, hd, h1]
        · subst h
          obtain ⟨x, _, rfl⟩ := conc_tuple h2
          simp [yielded, hd, h1]

/-! ### one operation -/
inductive Kind where
  | pure | load | alloc | eff
  deriving DecidableEq
/-- The conversions that look at memory. -/
def xconv (s d : Nat) : Bool := (s == 130 && d == 9) || (s == 9 && d == 130) || (s == 129 && d == 212) || (s == 212 && d == 129)
def kind : Op → Kind
  | .load _ _ => .load
  | .makeMap _ _ | .lookup _ _ _ _ | .mapUpdate _ _ _ _ | .insert _ _ _ _ | .range _ _ | .next _ _ => .eff
  | .convert s d _ => bif xconv s d then .eff else .pure
  | .alloc _ | .box _ _ | .buildSlice _ _ _ | .makeSlice _ _ _ => .alloc
  | .store _ _ _ => .eff
  | .call c => match c.callee with
    | .builtin .len => bif xlen c.argTypes.toList then .eff else .pure
    | .builtin .cap | .builtin .min | .builtin .max => .pure
    | _ => .eff
  | _ => .pure

abbrev CallFn := FuncId → List AV → AHeap → Option (AV × AHeap)
def CallOk (P : Program) (call : CallFn) : Prop :=
  ∀ (f : FuncId) (args : List AV) (h : AHeap) (r : AV) (h' : AHeap) (ρ : Rho) (w : World) (cargs : List Value), call f args h = some (r, h') → Sim ρ h w → concs ρ args = some cargs →
    Calls P f cargs.toArray w fun e w' => ∃ c ρ', e = .returned c ∧ conc ρ' r = some c ∧ Step ρ h w ρ' h' w'
structure POk (P : Program) : Prop where
  ng : ∀ (f : FuncId) (fn : Func), P.funcs[f]? = some fn → (fn.name == "runtime.NumGoroutine") = false
  mixed : P.follows .mixedOrders = true
  fuel : P.types.size ≠ 0
  ib : ∀ (s : ByteArray) (c : Int) (w : World), (callFunc 47 #[.string s, .int .u8 c]).run P w = .ok (.value (.int .i64 (Lib.indexByte s.data.toList c.toNat.toUInt8))) w
  cb : ∀ (s : ByteArray) (c : Int) (w : World), (callFunc 16 #[.string s, .int .u8 c]).run P w = .ok (.value (.int .i64 (Lib.countByte s.data.toList c.toNat.toUInt8 : Nat))) w
  ne : ∀ (x : Value) (w : World), (callFunc 145 #[x]).run P w = .ok (.value x) w
  mz : ∀ (n : Nat) (w : World), n ≤ 281474976710656 → ∃ cs : Array Value, (callFunc 214 #[.int .i64 n]).run P w = .ok (.value (.slice (some ⟨w.heap.size, 0, none⟩) n cs.size)) (w.drew.drew.alloc (.cells cs 5)) ∧ n ≤ cs.size

def hasBody (P : Program) (f : FuncId) : Bool := match P.funcs[f]? with | some fn => fn.body.isSome | none => false

/-- Functions of the library that the model knows. -/
def aext (f : FuncId) (args : List AV) (h : AHeap) : Option (AV × AHeap) :=
  match args with
  | [.str s, .int .u8 c] => bif Nat.beq f 47 then some (.int .i64 (Lib.indexByte s c.toNat.toUInt8), h) else bif Nat.beq f 16 then some (.int .i64 (Lib.countByte s c.toNat.toUInt8 : Nat), h) else none
  | [.int .i64 n] => bif Nat.beq f 214 then (if 0 ≤ n ∧ n ≤ 281474976710656 then some (.sl h.next 0 0 n.toNat (.op 1 n.toNat), h.new (.cells 5 [] (some 0))) else none) else none
  | [.ptr b o] => bif Nat.beq f 145 then some (.ptr b o, h) else none
  | _ => none
/-- The method of a pointer type. -/
def amethod (P : Program) (t : TypeId) (name : String) : Option FuncId :=
  match P.info? t, P.underlying t with
  | some i, some (.pointer _) => match i.methods.find? (·.name == name) with
    | some m => match m.path.toList, m.func with
      | [], some (f, true) => some f
      | _, _ => none
    | none => none
  | _, _ => none
def peff (P : Program) (call : CallFn) (h : AHeap) (ev : Operand → Option AV) (op : Op) : Option (AV × AHeap) :=
  match op with
  | .store t a x => match ev a, ev x with
    | some p, some v => match astore P h t p v with
      | some h' => some (.tuple [], h')
      | none => none
    | _, _ => none
  | .call c =>
    match c.callee with
    | .builtin b => match evs ev c.args.toList with
      | some l => match b with
        | .append => bif xapp c.argTypes.toList then aappZ P h c.argTypes.toList l else aappend P h c.argTypes.toList l
        | .len => (match alen P h c.argTypes.toList l with | some v => some (v, h) | none => none)
        | .copy => acopy P h c.argTypes.toList l
        | .clear => aclear P h c.argTypes.toList l
        | .unsafeSliceData => (match l with
          | [x] => match asdata x with | some v => some (v, h) | none => none
          | _ => none)
        | .unsafeString => (match l with
          | [p, n] => austring P h c.argTypes.toList p n
          | _ => none)
        | _ => none
      | none => none
    | .value f => match ev f, evs ev c.args.toList with
      | some (.func g cap), some l => bif hasBody P g then call g (l ++ cap) h else aext g (l ++ cap) h
      | _, _ => none
    | .invoke r name => match ev r, evs ev c.args.toList with
      | some (.iface t v), some l => match amethod P t name with
        | some f => bif hasBody P f then call f (v :: l) h else none
        | none => none
      | _, _ => none
  | .makeMap _ none => some (.map h.next, h.new (.map [] 0 true))
  | .lookup t x k ok => match ev x, ev k with
    | some a, some b => match alookup P h t a b ok with
      | some v => some (v, h)
      | none => none
    | _, _ => none
  | .mapUpdate t m k x | .insert t m k x => match ev m, ev k, ev x with
    | some a, some b, some c => match aupdate P h t a b c with
      | some h' => some (.tuple [], h')
      | none => none
    | _, _, _ => none
  | .range t x => match ev x with
    | some a => arange P h t a
    | none => none
  | .next x isS => match ev x with
    | some a => anext h a isS
    | none => none
  | .convert s d x => match ev x with
    | some a => match aconv P h s d a with
      | some r => some r
      | none => match aptrconv P h s d a with
        | some v => some (v, h)
        | none => none
    | none => none
  | _ => none

def aop (P : Program) (call : CallFn) (h : AHeap) (ev : Operand → Option AV) (op : Op) : Option (AV × AHeap) :=
  match kind op with
  | .pure => match ppure P ev op with
    | some v => some (v, h)
    | none => none
  | .load => match pload P h ev op with
    | some v => some (v, h)
    | none => none
  | .alloc => match palloc P ev op with
    | some (e, cs, m) => some (m.abs h.next, h.new (.cells e cs (some 0)))
    | none => none
  | .eff => peff P call h ev op

theorem run_callFunc {P : Program} (hP : POk P) {g : FuncId} (hb : hasBody P g = true) (args : Array Value) (w : World) : (callFunc g args).run P w = .ok (.enter g args) w := by
  unfold hasBody at hb
  cases hf : P.funcs[g]? with
  | none => simp [hf] at hb
  | some fn =>
    simp only [hf] at hb
    have hn := hP.ng g fn hf
    have hbn : fn.body ≠ none := by intro hx; simp [hx] at hb
    have hn' : fn.name ≠ "runtime.NumGoroutine" := by simpa using hn
    simp [callFunc, hf, hn', hbn]

theorem aext_sound {P : Program} (hP : POk P) {f : FuncId} {args : List AV} {h h' : AHeap} {v : AV} {ρ : Rho} {w : World} {cargs : List Value} (ha : aext f args h = some (v, h')) (hargs : concs ρ args = some cargs) (hs : Sim ρ h w) :
    ∃ c w' ρ', (callFunc f cargs.toArray).run P w = .ok (.value c) w' ∧ conc ρ' v = some c ∧ Step ρ h w ρ' h' w' := by
  unfold aext at ha
  split at ha
  · rename_i s n
    obtain ⟨a1, r1, hs1, hr1, rfl⟩ := concs_cons hargs
    obtain ⟨a2, r2, hs2, hr2, rfl⟩ := concs_cons hr1
    simp only [concs, Option.some.injEq] at hr2
    subst hr2
    rw [conc_str hs1, conc_int hs2]
    cases h1 : Nat.beq f 47 with
    | true =>
      simp only [h1, cond_true, Option.some.injEq, Prod.mk.injEq] at ha
      obtain ⟨rfl, rfl⟩ := ha
      obtain rfl := Nat.eq_of_beq_eq_true h1
      exact ⟨_, w, ρ, hP.ib _ _ w, rfl, Step.refl hs⟩
    | false =>
      simp only [h1, cond_false] at ha
      cases h2 : Nat.beq f 16 with
      | true =>
        simp only [h2, cond_true, Option.some.injEq, Prod.mk.injEq] at ha
        obtain ⟨rfl, rfl⟩ := ha
        obtain rfl := Nat.eq_of_beq_eq_true h2
        exact ⟨_, w, ρ, hP.cb _ _ w, rfl, Step.refl hs⟩
      | false => simp [h2] at ha
  · rename_i n
    obtain ⟨a1, r1, hs1, hr1, rfl⟩ := concs_cons hargs
    simp only [concs, Option.some.injEq] at hr1
    subst hr1
    rw [conc_int hs1]
    cases h1 : Nat.beq f 214 with
    | false => simp [h1] at ha
    | true =>
      simp only [h1, cond_true] at ha
      obtain rfl := Nat.eq_of_beq_eq_true h1
      split at ha
      · rename_i hn
        cases ha
        obtain ⟨cs, hrun, hle⟩ := hP.mz n.toNat w (by omega)
        rw [show ((n.toNat : Nat) : Int) = n by omega] at hrun
        have hs2 : Sim ρ h w.drew.drew := (hs.of_heap rfl : Sim ρ h w.drew.drew)
        have hd : Step ρ h w ρ h w.drew.drew := (Step.draw hs (w.drawn + 1)).trans (Step.draw (w := w.drew) (hs.of_heap rfl) (w.drew.drawn + 1))
        refine ⟨_, _, _, hrun, ?_, hd.trans (Step.alloc (w := w.drew.drew) hs2 (.cells 5 [] (some 0)) (.cells cs 5) cs.size ⟨cs, (0, 0), [], heap_push_new _, rfl, by simp, rfl, rfl, fun i x hi => by simp at hi, fun f _ => ⟨by simp, fun _ => rfl⟩⟩)⟩
        have e1 : slCap ⟨w.drew.drew.heap.size, 0, cs.size, none⟩ 0 (.op 1 n.toNat) = cs.size := by simp [slCap]
        refine (conc_sl_mk (upd_same _ _ _) (by rw [e1]; exact hle) (fun _ => rfl) (by rw [e1]; exact hle)).trans ?_
        rw [e1]
        simp only [slAt, cond_eq_ite, ite_self, Nat.add_zero]
        rfl
      · cases ha
  · rename_i b o
    obtain ⟨a1, r1, hs1, hr1, rfl⟩ := concs_cons hargs
    simp only [concs, Option.some.injEq] at hr1
    subst hr1
    cases h1 : Nat.beq f 145 with
    | false => simp [h1] at ha
    | true =>
      simp only [h1, cond_true, Option.some.injEq, Prod.mk.injEq] at ha
      obtain ⟨rfl, rfl⟩ := ha
      obtain rfl := Nat.eq_of_beq_eq_true h1
      exact ⟨_, w, ρ, hP.ne _ w, hs1, Step.refl hs⟩
  · cases ha
theorem run_method {P : Program} (hP : POk P) {t : TypeId} {name : String} {f : FuncId} {v : Value} (h : amethod P t name = some f) (args : Array Value) (w : World) : (callMethod (.iface t v) name args).run P w = (callFunc f (#[v] ++ args)).run P w := by
  unfold amethod at h
  split at h
  case h_2 => cases h
  rename_i i e hi hu
  split at h
  case h_2 => cases h
  rename_i m hm
  split at h
  case h_2 => cases h
  rename_i f' hp hf
  cases h
  obtain ⟨k, hk⟩ : ∃ k, P.types.size + Made.depth = k + 1 := ⟨P.types.size + Made.depth - 1, by have := hP.fuel; omega⟩
  simp [callMethod, hk, method, typeInfo, hi, hm, hp, follow, hf, receiverAt, run_underlying hu, Place.get]
theorem peff_sound {P : Program} (hP : POk P) {call : CallFn} (hc : CallOk P call) {h h' : AHeap} {o : Oper} {v : AV} {ρ : Rho} {a : Act} {w : World} {ev : Operand → Option AV} (ho : peff P call h ev o.op = some (v, h')) (he : EvRel ρ ev a.eval) (hs : Sim ρ h w)
    {next : Act → World → Prop} {Q : Exit → Act → World → Prop} (hn : ∀ c w' ρ', conc ρ' v = some c → Step ρ h w ρ' h' w' → next (a.put o.dst c) w') : o.wp P a w next Q := by
  obtain ⟨dst, op, ty, pos, after, guard⟩ := o
  simp only at ho
  unfold Oper.wp
  cases op <;> simp only [peff] at ho <;> try (cases ho; done)
  case store t p x =>
    split at ho
    · rename_i p' v' hp hx
      split at ho
      · rename_i h2 hst
        cases ho
        obtain ⟨w', hr, hst⟩ := astore_sound (P := P) hst (he p p' hp) (he x v' hx) hs
        simp only [execOp, Sem.run_bind, hr, Result.andThen_ok, Sem.run_pure, Oper.upon]
        exact hn _ w' ρ (by simp [conc, concs, undef]) hst
      · cases ho
    · cases ho
  case call c =>
    obtain ⟨callee, args, argTypes⟩ := c
    cases callee with
    | builtin b =>
      simp only at ho
      split at ho
      · rename_i l hl
        have hargs := evs_sound he _ _ hl
        have e : args.map a.eval = (args.toList.map a.eval).toArray := by apply Array.ext'; simp
        have et : argTypes = argTypes.toList.toArray := by simp
        split at ho
        · have key : ∃ c w' ρ', (Builtin.append_ argTypes.toList.toArray ty (args.toList.map a.eval).toArray).run P w = .ok c w' ∧ conc ρ' v = some c ∧ Step ρ h w ρ' h' w' := by
            cases hx : xapp argTypes.toList with
            | true => rw [hx] at ho; exact aappZ_sound (P := P) (ty := ty) ho hargs hs
            | false => rw [hx] at ho; exact aappend_sound (P := P) (ty := ty) ho hargs hs
          obtain ⟨c, w', ρ', hr, hcv, hst⟩ := key
          simp only [execOp, resolve, Sem.run_bind, Sem.run_pure, Result.andThen_ok, invoke, builtin, e]
          rw [et, hr]
          exact hn c w' ρ' hcv hst
        · split at ho
          · rename_i v1 hv1
            cases ho
            obtain ⟨c, hcv, hr⟩ := alen_sound (P := P) (ty := ty) hv1 hargs hs
            simp only [execOp, resolve, Sem.run_bind, Sem.run_pure, Result.andThen_ok, invoke, builtin, e]
            rw [et, hr]
            exact hn c w ρ hcv (Step.refl hs)
          · cases ho
        · obtain ⟨c, w', ρ', hr, hcv, hst⟩ := acopy_sound (P := P) (ty := ty) ho hargs hs
          simp only [execOp, resolve, Sem.run_bind, Sem.run_pure, Result.andThen_ok, invoke, builtin, e]
          rw [et, hr]
          exact hn c w' ρ' hcv hst
        · obtain ⟨c, w', ρ', hr, hcv, hst⟩ := aclear_sound (P := P) (ty := ty) ho hargs hs
          simp only [execOp, resolve, Sem.run_bind, Sem.run_pure, Result.andThen_ok, invoke, builtin, e]
          rw [et, hr]
          exact hn c w' ρ' hcv hst
        · split at ho
          · rename_i x
            split at ho
            · rename_i v1 hv1
              cases ho
              obtain ⟨a1, r1, hs1, hr1, hca⟩ := concs_cons hargs
              simp only [concs, Option.some.injEq] at hr1
              subst hr1
              obtain ⟨c, hcv, hr⟩ := asdata_sound (P := P) (w := w) (ts := argTypes) (ty := ty) hv1 hs1
              simp only [execOp, resolve, Sem.run_bind, Sem.run_pure, Result.andThen_ok, invoke, builtin, e]
              rw [hca, hr]
              exact hn c w ρ hcv (Step.refl hs)
            · cases ho
          · cases ho
        · split at ho
          · rename_i p n
            obtain ⟨a1, r1, hs1, hr1, hca⟩ := concs_cons hargs
            obtain ⟨a2, r2, hs2, hr2, hcb⟩ := concs_cons hr1
            simp only [concs, Option.some.injEq] at hr2
            subst hr2
            subst hcb
            obtain ⟨c, w', ρ', hr, hcv, hst⟩ := austring_sound (P := P) (ty := ty) ho hs1 hs2 hs
            simp only [execOp, resolve, Sem.run_bind, Sem.run_pure, Result.andThen_ok, invoke, builtin, e]
            rw [et, hca, hr]
            exact hn c w' ρ' hcv hst
          · cases ho
        · cases ho
      · cases ho
    | value f =>
      simp only at ho
      split at ho
      · rename_i g cap l hf hl
        cases hb : hasBody P g with
        | false =>
          simp only [hb, cond_false] at ho
          have hargs := evs_sound he _ _ hl
          obtain ⟨x, hx, hfv⟩ := conc_func (he f _ hf)
          have e : args.map a.eval = (args.toList.map a.eval).toArray := by apply Array.ext'; simp
          obtain ⟨c, w', ρ', hr, hcv, hst⟩ := aext_sound hP ho (concs_append _ _ _ _ hargs hx) hs
          simp only [execOp, resolve, hfv, Deferred.ofValue, Sem.run_bind, Sem.run_pure, Result.andThen_ok, invoke, e]
          rw [show (#[] ++ (args.toList.map a.eval).toArray) ++ x.toArray = (args.toList.map a.eval ++ x).toArray by apply Array.ext'; simp]
          rw [hr]
          exact hn c w' ρ' hcv hst
        | true =>
          simp only [hb, cond_true] at ho
          have hargs := evs_sound he _ _ hl
          obtain ⟨x, hx, hfv⟩ := conc_func (he f _ hf)
          have e : args.map a.eval = (args.toList.map a.eval).toArray := by apply Array.ext'; simp
          have hcall := hc g _ h v h' ρ w _ ho hs (concs_append _ _ _ _ hargs hx)
          have hrun : (execOp a.eval { dst := dst, op := .call { callee := .value f, args := args, argTypes := argTypes }, type := ty, pos := pos, after := after, guard := guard }).run P w = .ok (.enter g (args.toList.map a.eval ++ x).toArray) w := by
            simp only [execOp, resolve, hfv, Deferred.ofValue, Sem.run_bind, Sem.run_pure, Result.andThen_ok, invoke, e]
            rw [show (#[] ++ (args.toList.map a.eval).toArray) ++ x.toArray = (args.toList.map a.eval ++ x).toArray by apply Array.ext'; simp]
            exact run_callFunc hP hb _ w
          rw [hrun]
          simp only [Oper.upon]
          refine hcall.mono ?_
          rintro e w' ⟨c, ρ', rfl, hcv, hst⟩
          exact hn c w' ρ' hcv hst
      · cases ho
    | invoke r name =>
      simp only at ho
      split at ho
      case h_2 => cases ho
      rename_i t v0 l hr hl
      split at ho
      case h_2 => cases ho
      rename_i f hm
      cases hb : hasBody P f with
      | false => simp [hb] at ho
      | true =>
        simp only [hb, cond_true] at ho
        have hargs := evs_sound he _ _ hl
        obtain ⟨x, hx, hrv⟩ := conc_iface (he r _ hr)
        have e : args.map a.eval = (args.toList.map a.eval).toArray := by apply Array.ext'; simp
        have hcall := hc f _ h v h' ρ w _ ho hs (concs_cons_mk hx hargs)
        have hrun : (execOp a.eval { dst := dst, op := .call { callee := .invoke r name, args := args, argTypes := argTypes }, type := ty, pos := pos, after := after, guard := guard }).run P w = .ok (.enter f (x :: args.toList.map a.eval).toArray) w := by
          simp only [execOp, resolve, hrv, Sem.run_bind, Sem.run_pure, Result.andThen_ok, invoke, e]
          have e2 : (#[Value.iface t x] ++ (args.toList.map a.eval).toArray)[0]? = some (Value.iface t x) := by simp
          have e3 : (#[Value.iface t x] ++ (args.toList.map a.eval).toArray).extract 1 (#[Value.iface t x] ++ (args.toList.map a.eval).toArray).size = (args.toList.map a.eval).toArray := by
            apply Array.ext'
            simp only [Array.toList_extract, List.extract_eq_take_drop]
            simp
            exact List.take_of_length_le (by simp)
          simp only [e2, e3]
          rw [run_method hP hm, run_callFunc hP hb _ w]
          rw [show (#[x] ++ (args.toList.map a.eval).toArray) = (x :: args.toList.map a.eval).toArray by apply Array.ext'; simp]
        rw [hrun]
        simp only [Oper.upon]
        refine hcall.mono ?_
        rintro e w' ⟨c, ρ', rfl, hcv, hst⟩
        exact hn c w' ρ' hcv hst
  case makeMap t r =>
    cases r with
    | some r => simp at ho
    | none =>
      cases ho
      obtain ⟨c, w', ρ', hr, hcv, hst⟩ := amake_sound (P := P) t hs
      simp only [execOp, Option.map_none, Sem.run_bind, hr, Result.andThen_ok, Sem.run_pure, Oper.upon]
      exact hn c w' ρ' hcv hst
  case lookup t x k ok =>
    split at ho
    · rename_i x' k' hx hk
      split at ho
      · rename_i v' hv
        cases ho
        obtain ⟨c, hcv, hr⟩ := alookup_sound (P := P) hv (he x x' hx) (he k k' hk) hs
        simp only [execOp, Sem.run_bind, hr, Result.andThen_ok, Sem.run_pure, Oper.upon]
        exact hn c w ρ hcv (Step.refl hs)
      · cases ho
    · cases ho
  case mapUpdate t m k x =>
    split at ho
    · rename_i m' k' x' hm hk hx
      split at ho
      · rename_i h2 hv
        cases ho
        obtain ⟨w', hr, hst⟩ := aupdate_sound (P := P) hv (he m m' hm) (he k k' hk) (he x x' hx) hs
        simp only [execOp, Sem.run_bind, hr, Result.andThen_ok, Sem.run_pure, Oper.upon]
        exact hn _ w' ρ (by simp [conc, concs, undef]) hst
      · cases ho
    · cases ho
  case insert t m k x =>
    split at ho
    · rename_i m' k' x' hm hk hx
      split at ho
      · rename_i h2 hv
        cases ho
        obtain ⟨w', hr, hst⟩ := aupdate_sound (P := P) hv (he m m' hm) (he k k' hk) (he x x' hx) hs
        simp only [execOp, Sem.run_bind, hr, Result.andThen_ok, Sem.run_pure, Oper.upon]
        exact hn _ w' ρ (by simp [conc, concs, undef]) hst
      · cases ho
    · cases ho
  case range t x =>
    split at ho
    · rename_i x' hx
      obtain ⟨c, w', ρ', hr, hcv, hst⟩ := arange_sound (P := P) ho (he x x' hx) hs
      simp only [execOp, Sem.run_bind, hr, Result.andThen_ok, Sem.run_pure, Oper.upon]
      exact hn c w' ρ' hcv hst
    · cases ho
  case next x isS =>
    split at ho
    · rename_i x' hx
      obtain ⟨c, w', ρ', hr, hcv, hst⟩ := anext_sound (P := P) (t := ty) ho (he x x' hx) hs
      simp only [execOp, Sem.run_bind, hr, Result.andThen_ok, Sem.run_pure, Oper.upon]
      exact hn c w' ρ' hcv hst
    · cases ho
  case convert s d x =>
    split at ho
    · rename_i x' hx
      split at ho
      · rename_i r hr
        cases ho
        obtain ⟨c, w', ρ', hr, hcv, hst⟩ := aconv_sound (P := P) hr (he x x' hx) hs
        simp only [execOp, Sem.run_bind, hr, Result.andThen_ok, Sem.run_pure, Oper.upon]
        exact hn c w' ρ' hcv hst
      · split at ho
        · rename_i v' hv
          cases ho
          obtain ⟨c, hcv, hr⟩ := aptrconv_sound (P := P) hv (he x x' hx) hs
          simp only [execOp, Sem.run_bind, hr, Result.andThen_ok, Sem.run_pure, Oper.upon]
          exact hn c w ρ hcv (Step.refl hs)
        · cases ho
    · cases ho

theorem aop_sound {P : Program} (hP : POk P) {call : CallFn} (hc : CallOk P call) {h h' : AHeap} {o : Oper} {v : AV} {ρ : Rho} {a : Act} {w : World} {ev : Operand → Option AV} (ho : aop P call h ev o.op = some (v, h')) (he : EvRel ρ ev a.eval) (hs : Sim ρ h w)
    {next : Act → World → Prop} {Q : Exit → Act → World → Prop} (hn : ∀ c w' ρ', conc ρ' v = some c → Step ρ h w ρ' h' w' → next (a.put o.dst c) w') : o.wp P a w next Q := by
  unfold aop at ho
  split at ho
  · split at ho
    · rename_i u hu
      cases ho
      obtain ⟨c, h1, h2⟩ := ppure_sound hu he
      unfold Oper.wp
      rw [h2 w]
      exact hn c w ρ h1 (Step.refl hs)
    · cases ho
  · split at ho
    · rename_i u hu
      cases ho
      obtain ⟨c, h1, h2⟩ := pload_sound hu he hs
      unfold Oper.wp
      rw [h2]
      exact hn c w ρ h1 (Step.refl hs)
    · cases ho
  · split at ho
    · rename_i e cs m hm
      cases ho
      obtain ⟨c, w', ρ', h1, h2, h3⟩ := Step.newblk (P := P) hm he hs
      unfold Oper.wp
      rw [h1]
      exact hn c w' ρ' h2 h3
    · cases ho
  · exact peff_sound hP hc ho he hs hn

def astep (P : Program) (call : CallFn) (ops : Array Oper) (fr : AFrame) (h : AHeap) (o : Oper) : Option (AV × AHeap) :=
  match awanted ops fr o with
  | some true => aop P call h (aeval fr h.glob) o.op
  | some false => some (.tuple [], h)
  | none => none

/-! ### a region in the order of the text -/
def aops (P : Program) (call : CallFn) (ops : Array Oper) : List Oper → AFrame → AHeap → Option (AFrame × AHeap)
  | [], fr, h => some (fr, h)
  | o :: r, fr, h =>
    match astep P call ops fr h o with
    | some (v, h') => match fr.put o.dst v with
      | some fr' => aops P call ops r fr' h'
      | none => none
    | none => none

theorem aops_sound {P : Program} (hP : POk P) {call : CallFn} (hc : CallOk P call) {ops : Array Oper} {Q : Exit → Act → World → Prop} : ∀ (l : List Oper) (fr fr' : AFrame) (h h' : AHeap) (ρ : Rho) (a : Act) (w : World),
    aops P call ops l fr h = some (fr', h') → FrRel ρ fr a → Sim ρ h w → (∀ ρ' a' w', FrRel ρ' fr' a' → Step ρ h w ρ' h' w' → Q .normal a' w') → wpList P ops Q l a w
  | [], fr, fr', h, h', ρ, a, w, ho, hf, hs, hq => by
    simp only [aops, Option.some.injEq, Prod.mk.injEq] at ho
    obtain ⟨rfl, rfl⟩ := ho
    exact hq ρ a w hf (Step.refl hs)
  | o :: r, fr, fr', h, h', ρ, a, w, ho, hf, hs, hq => by
    simp only [aops] at ho
    split at ho
    · rename_i v h1 hst
      split at ho
      · rename_i fr1 hp
        have next : ∀ c w' ρ', conc ρ' v = some c → Step ρ h w ρ' h1 w' → wpList P ops Q r (a.put o.dst c) w' := fun c w' ρ' hcv hst' =>
          aops_sound hP hc r fr1 fr' h1 h' ρ' (a.put o.dst c) w' ho ((hf.mono hst'.ext).put hp hcv) hst'.sim (fun ρ2 a2 w2 hf2 hs2 => hq ρ2 a2 w2 hf2 (hst'.trans hs2))
        unfold astep at hst
        unfold wpList
        split at hst
        · rename_i hw
          rw [awanted_sound hw hf, if_pos rfl]
          exact .inl (aop_sound hP hc hst (aeval_sound hf hs) hs next)
        · rename_i hw
          cases hst
          rw [awanted_sound hw hf, if_neg (by simp)]
          exact next undef w ρ (by simp [conc, concs, undef]) (Step.refl hs)
        · cases hst
      · cases ho
    · cases ho

end Go.Eng
/- The engine, part 12: regions that draw their order (definitions); code; calls. -/
namespace Go.Eng

/-! ### equality of abstract values -/
mutual
def avEq : AV → AV → Bool
  | .bool a, .bool b => a == b
  | .int k a, .int l b => k == l && a == b
  | .str a, .str b => a == b
  | .nilptr, .nilptr => true
  | .ptr a b, .ptr c d => Nat.beq a c && Nat.beq b d
  | .nilsl, .nilsl => true
  | .sl b o z l (.at_ c), .sl b' o' z' l' (.at_ c') => Nat.beq b b' && Nat.beq o o' && Nat.beq z z' && Nat.beq l l' && Nat.beq c c'
  | .sl b o z l (.op c m), .sl b' o' z' l' (.op c' m') => Nat.beq b b' && Nat.beq o o' && Nat.beq z z' && Nat.beq l l' && Nat.beq c c' && Nat.beq m m'
  | .nilmap, .nilmap => true
  | .map a, .map b => Nat.beq a b
  | .func f c, .func g d => Nat.beq f g && avsEq c d
  | .nilFunc, .nilFunc => true
  | .iface t v, .iface u w => Nat.beq t u && avEq v w
  | .nilIface, .nilIface => true
  | .agg a, .agg b => avsEq a b
  | .tuple a, .tuple b => avsEq a b
  | _, _ => false
def avsEq : List AV → List AV → Bool
  | [], [] => true
  | a :: r, b :: s => avEq a b && avsEq r s
  | _, _ => false
end
mutual
theorem avEq_eq : ∀ a b : AV, avEq a b = true → a = b
  | .bool a, b, h => by cases b <;> simp_all [avEq]
  | .int k a, b, h => by cases b <;> simp_all [avEq]
  | .str a, b, h => by cases b <;> simp_all [avEq]
  | .nilptr, b, h => by cases b <;> simp_all [avEq]
  | .ptr a c, b, h => by cases b <;> simp_all [avEq]
  | .nilsl, b, h => by cases b <;> simp_all [avEq]
  | .sl b o z l cap, c, h => by
    cases c with
    | sl b' o' z' l' cap' => cases cap <;> cases cap' <;> simp_all [avEq]
    | _ => cases cap <;> simp [avEq] at h
  | .nilmap, b, h => by cases b <;> simp_all [avEq]
  | .map a, b, h => by cases b <;> simp_all [avEq]
  | .func f c, b, h => by
    cases b with
    | func g d => simp only [avEq, Bool.and_eq_true, beq_true] at h; rw [h.1, avsEq_eq c d h.2]
    | _ => simp [avEq] at h
  | .nilFunc, b, h => by cases b <;> simp_all [avEq]
  | .iface t v, b, h => by
    cases b with
    | iface u w => simp only [avEq, Bool.and_eq_true, beq_true] at h; rw [h.1, avEq_eq v w h.2]
    | _ => simp [avEq] at h
  | .nilIface, b, h => by cases b <;> simp_all [avEq]
  | .agg a, b, h => by
    cases b with
    | agg d => simp only [avEq] at h; rw [avsEq_eq a d h]
    | _ => simp [avEq] at h
  | .tuple a, b, h => by
    cases b with
    | tuple d => simp only [avEq] at h; rw [avsEq_eq a d h]
    | _ => simp [avEq] at h
theorem avsEq_eq : ∀ a b : List AV, avsEq a b = true → a = b
  | [], [], _ => rfl
  | [], _ :: _, h => by simp [avsEq] at h
  | _ :: _, [], h => by simp [avsEq] at h
  | a :: r, b :: s, h => by
    simp only [avsEq, Bool.and_eq_true] at h
    rw [avEq_eq a b h.1, avsEq_eq r s h.2]
end

/-! ### regions that draw: what must hold of the text -/
def isEff (o : Oper) : Bool := match kind o.op with | .eff => true | _ => false
def isAlloc (o : Oper) : Bool := match kind o.op with | .alloc => true | _ => false
def isLoad (o : Oper) : Bool := match kind o.op with | .load => true | _ => false
def binds (e : Edge) : Bool := Region.binds .any e
/-- Is j before i, by the masks? -/
def bit (M : List Nat) (i j : Nat) : Bool := (M.getD i 0).testBit j
def hasDst (d : Option Tmp) (l : List Tmp) : Bool := match d with | some t => l.contains t | none => false
def sameDst (a b : Option Tmp) : Bool := match a, b with | some x, some y => Nat.beq x y | _, _ => false

/-- Edges lead back; each bit is paid for by an edge. -/
def maskOk (M : List Nat) (i : Nat) (o : Oper) : Bool :=
  (o.after.toList.all fun e => !binds e || Nat.blt e.on i) &&
  (List.range i).all fun k => !bit M i k || o.after.toList.any fun e => binds e && (Nat.beq e.on k || (Nat.blt k e.on && bit M e.on k))
/-- The operations j < i do not meet, or j is before i. -/
def pairOk (ops : Array Oper) (M : List Nat) (oj : Oper) (j : Nat) (oi : Oper) (i : Nat) : Bool :=
  !sameDst oj.dst oi.dst &&
  (bit M i j || (!hasDst oj.dst (oi.looksAt ops) && !hasDst oi.dst (oj.looksAt ops) && !(isEff oi && (isEff oj || isAlloc oj))))
def rowOk (ops : Array Oper) (M : List Nat) (oi : Oper) (i : Nat) : List Oper → Nat → Bool
  | [], _ => true
  | oj :: r, j => if Nat.blt j i then pairOk ops M oj j oi i && rowOk ops M oi i r (j + 1) else true
def textOk (ops : Array Oper) (M : List Nat) : List Oper → Nat → Bool
  | [], _ => true
  | oi :: r, i => maskOk M i oi && rowOk ops M oi i ops.toList 0 && textOk ops M r (i + 1)
def masks (ops : Array Oper) : List Nat := (Region.before ops).toList
def drawOk (ops : Array Oper) : Bool := textOk ops (masks ops) ops.toList 0

/-! ### regions that draw: the run in the order of the text, with its records -/
structure Rec where
  fr : AFrame
  h : AHeap
  v : AV
def adops (P : Program) (call : CallFn) (ops : Array Oper) : List Oper → AFrame → AHeap → Option (List Rec × AFrame × AHeap)
  | [], fr, h => some ([], fr, h)
  | o :: r, fr, h =>
    match astep P call ops fr h o with
    | some (v, h') => match fr.put o.dst v with
      | some fr' =>
        if Nat.ble h.next h'.next && Nat.beq h.glob h'.glob then
          match adops P call ops r fr' h' with
          | some (tr, fr2, h2) => some (⟨fr, h, v⟩ :: tr, fr2, h2)
          | none => none
        else none
      | none => none
    | none => none

/-- The heaps behind the effects (and at the head): (number of operations done, heap). -/
def states : List Oper → List Rec → Nat → AHeap → List (Nat × AHeap)
  | o :: r, _ :: tr, i, hl =>
    let h' := match tr with | [] => hl | rec :: _ => rec.h
    if isEff o then (i + 1, h') :: states r tr (i + 1) hl else states r tr (i + 1) hl
  | _, _, _, _ => []
/-- May load number l come up in the state behind the first s operations' effects? -/
def window (M : List Nat) (l s : Nat) : List Oper → Nat → Bool
  | [], _ => true
  | o :: r, e => (!isEff o || ((!(Nat.blt e l && bit M l e) || Nat.blt e s) && (!(Nat.blt l e && bit M e l) || Nat.ble s e))) && window M l s r (e + 1)
def loadOk (P : Program) (ops : Array Oper) (M : List Nat) (sts : List (Nat × AHeap)) (l : Nat) (o : Oper) (rec : Rec) : Bool :=
  if isLoad o then
    match awanted ops rec.fr o with
    | some true => sts.all fun s => !window M l s.1 ops.toList 0 || (match pload P s.2 (aeval rec.fr rec.h.glob) o.op with | some v => avEq v rec.v | none => false)
    | _ => true
  else true
def loadsOk (P : Program) (ops : Array Oper) (M : List Nat) (sts : List (Nat × AHeap)) : List Oper → List Rec → Nat → Bool
  | o :: r, rec :: tr, i => loadOk P ops M sts i o rec && loadsOk P ops M sts r tr (i + 1)
  | _, _, _ => true
/-- No effect and no new block: every heap is the first. -/
def still : List Oper → Bool
  | [] => true
  | o :: r => !isEff o && !isAlloc o && still r

def adrawE (P : Program) (call : CallFn) (ops : Array Oper) (fr : AFrame) (h : AHeap) : Option (AFrame × AHeap) :=
  if drawOk ops then
    match adops P call ops ops.toList fr h with
    | some (tr, fr', h') =>
      if still ops.toList || loadsOk P ops (masks ops) ((0, h) :: states ops.toList tr 0 h') ops.toList tr 0 then some (fr', h') else none
    | none => none
  else none

/-! ### another order of the text -/
def rnE (π : Nat → Nat) (e : Edge) : Edge := { e with on := π e.on }
def rnO (π : Nat → Nat) (o : Oper) : Oper := { o with after := o.after.map (rnE π), guard := match o.guard with | some (j, b) => some (π j, b) | none => none }
def pos (σ : List Nat) (i : Nat) : Nat := match σ with
  | [] => 0
  | j :: r => bif Nat.beq j i then 0 else pos r i + 1
def nthO : List Oper → Nat → Option Oper
  | [], _ => none
  | o :: _, 0 => some o
  | _ :: r, i + 1 => nthO r i
def permL (l : List Oper) (π : Nat → Nat) : List Nat → List Oper
  | [] => []
  | i :: r => match nthO l i with
    | some o => rnO π o :: permL l π r
    | none => permL l π r
def permOps (ops : Array Oper) (σ : List Nat) : Array Oper := (permL ops.toList (pos σ) σ).toArray
def isPerm (σ : List Nat) (n : Nat) : Bool := Nat.beq σ.length n && (σ.all fun i => Nat.blt i n) && ((List.range n).all fun i => σ.contains i) && ((List.range n).all fun k => match σ[k]? with | some i => Nat.beq (pos σ i) k | none => false)
/-- New blocks as late as may be. -/
def greedy (ops : List Oper) : Nat → List Nat → List Nat
  | 0, acc => acc.reverse
  | f + 1, acc =>
    let rdy := (List.range ops.length).filter fun i => !acc.contains i && (match ops[i]? with | some o => o.after.toList.all fun e => !binds e || acc.contains e.on | none => false)
    match (rdy.find? fun i => match ops[i]? with | some o => !isAlloc o | none => false), rdy with
    | some i, _ => greedy ops f (i :: acc)
    | none, i :: _ => greedy ops f (i :: acc)
    | none, [] => acc.reverse
def reorder (ops : Array Oper) : List Nat := greedy ops.toList ops.size []
/-- The region's text, or the same in another order. -/
def effOps (ops : Array Oper) : Array Oper :=
  if drawOk ops then ops else
  if isPerm (reorder ops) ops.size then permOps ops (reorder ops) else ops
def adraw (P : Program) (call : CallFn) (ops : Array Oper) (fr : AFrame) (h : AHeap) : Option (AFrame × AHeap) := adrawE P call (effOps ops) fr h

/-! ### code -/
inductive AEx where
  | normal
  | exit (id : Nat)
  | ret
abbrev ASt := AEx × AFrame × AHeap

def aiter (body : AFrame → AHeap → Option ASt) : Nat → AFrame → AHeap → Option ASt
  | 0, _, _ => none
  | n + 1, fr, h =>
    match body fr h with
    | some (.normal, fr', h') => aiter body n fr' h'
    | some (.exit id, fr', h') => some (.exit id, fr', h')
    | some (.ret, fr', h') => some (.ret, fr', h')
    | none => none

def aexec (P : Program) (call : CallFn) (n : Nat) : Code → AFrame → AHeap → Option ASt
  | .skip, fr, h => some (.normal, fr, h)
  | .label _, fr, h => some (.normal, fr, h)
  | .region _ ops draw, fr, h =>
    match (if draw then adraw P call ops fr h else aops P call ops ops.toList fr h) with
    | some (fr', h') => some (.normal, fr', h')
    | none => none
  | .seq x y, fr, h =>
    match aexec P call n x fr h with
    | some (.normal, fr', h') => aexec P call n y fr' h'
    | some (.exit id, fr', h') => some (.exit id, fr', h')
    | some (.ret, fr', h') => some (.ret, fr', h')
    | none => none
  | .cond c x y, fr, h =>
    match aeval fr h.glob c with
    | some (.bool b) => match b with
      | true => aexec P call n x fr h
      | false => aexec P call n y fr h
    | _ => none
  | .block id c, fr, h =>
    match aexec P call n c fr h with
    | some (.normal, fr', h') => some (.normal, fr', h')
    | some (.exit id', fr', h') => if id' = id then some (.normal, fr', h') else some (.exit id', fr', h')
    | some (.ret, fr', h') => some (.ret, fr', h')
    | none => none
  | .loop c, fr, h => aiter (fun fr h => aexec P call n c fr h) n fr h
  | .exit id, fr, h => some (.exit id, fr, h)
  | .ret, fr, h => some (.ret, fr, h)
  | _, _, _ => none

def ares (P : Program) (fr : AFrame) (h : AHeap) : List ResultVar → Option (List AV)
  | [] => some []
  | .tmp t :: r => match fr.get t, ares P fr h r with
    | some v, some l => some (v :: l)
    | _, _ => none
  | .cell a t :: r => match fr.get a with
    | some p => match aload P h t p, ares P fr h r with
      | some v, some l => some (v :: l)
      | _, _ => none
    | none => none
def ares1 : List AV → AV
  | [v] => v
  | l => .tuple l
def args0 : List AV → Nat → T AV → T AV
  | [], _, t => t
  | v :: r, i, t => args0 r (i + 1) (T.set 6 t i v)

/-- Calls that are known from elsewhere. -/
class Orc where
  call : CallFn
  nx : ∀ f args h r h', call f args h = some (r, h') → h.next ≤ h'.next ∧ h'.glob = h.glob
/-- None. -/
@[reducible] def Orc.none : Orc := ⟨fun _ _ _ => Option.none, fun _ _ _ _ _ h => by cases h⟩
def abody (P : Program) (call : CallFn) (n : Nat) (f : FuncId) (args : List AV) (h : AHeap) : Option (AV × AHeap) :=
  match P.funcs[f]? with
  | some fn => match fn.body with
    | some c =>
      match aexec P call n c ⟨args.length + (fn.ntmps - args.length), args0 args 0 .nil, []⟩ h with
      | some (.normal, fr, h') => match ares P fr h' fn.results.toList with
        | some l => some (ares1 l, h')
        | none => none
      | some (.ret, fr, h') => match ares P fr h' fn.results.toList with
        | some l => some (ares1 l, h')
        | none => none
      | _ => none
    | none => none
  | none => none
def acall (P : Program) [Orc] : Nat → CallFn
  | 0 => Orc.call
  | n + 1 => fun f args h => match Orc.call f args h with
    | some r => some r
    | none => abody P (acall P n) n f args h

end Go.Eng
