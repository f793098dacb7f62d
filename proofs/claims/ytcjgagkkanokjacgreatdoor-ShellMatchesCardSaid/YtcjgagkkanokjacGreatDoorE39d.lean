/- The engine, part 39, definitions: a function that defers a call which does nothing. -/
import Derived.Test.YtcjgagkkanokjacGreatDoorE36
import Derived.DefersIn
import Derived.RecoverIn
import Derived.Test.YtcjgagkkanokjacGreatDoorE37
import Derived.Test.YtcjgagkkanokjacGreatDoorE23
namespace Go.Eng
def aexecD (P : Program) (call : CallFn) (n : Nat) : Code → Bool → AFrame → AHeap → Option (AEx × Bool × AFrame × AHeap)
  | .seq x y, b, fr, h =>
    match aexecD P call n x b fr h with
    | some (.normal, b', fr', h') => aexecD P call n y b' fr' h'
    | some (.exit id, s) => some (.exit id, s)
    | some (.ret, s) => some (.ret, s)
    | none => none
  | .cond c x y, b, fr, h =>
    match aeval fr h.glob c with
    | some (.bool t) => match t with
      | true => aexecD P call n x b fr h
      | false => aexecD P call n y b fr h
    | _ => none
  | .block id c, b, fr, h =>
    match aexecD P call n c b fr h with
    | some (.normal, s) => some (.normal, s)
    | some (.exit id', s) => if id' = id then some (.normal, s) else some (.exit id', s)
    | some (.ret, s) => some (.ret, s)
    | none => none
  | .region id ops draw, b, fr, h =>
    match b, draw, ops.toList with
    | false, false, [⟨none, .defer ⟨.value f, as, _⟩, _, _, _, none⟩] =>
      match aeval fr h.glob f, evs (aeval fr h.glob) as.toList with
      | some (.func g []), some _ => bif Nat.beq g 26 then some (.normal, true, fr, h) else none
      | _, _ => none
    | _, _, _ => if nodef (.region id ops draw) then (match aexec P call n (.region id ops draw) fr h with
      | some (e, fr', h') => some (e, b, fr', h')
      | none => none) else none
  | c, b, fr, h => if nodef c then (match aexec P call n c fr h with
    | some (e, fr', h') => some (e, b, fr', h')
    | none => none) else none

def dbody (P : Program) (call : CallFn) (n : Nat) (f : FuncId) (args : List AV) (h : AHeap) : Option (AV × AHeap) :=
  match P.funcs[f]? with
  | some fn => match fn.body with
    | some c =>
      match aexecD P call n c false ⟨args.length + (fn.ntmps - args.length), args0 args 0 .nil, []⟩ h with
      | some (.normal, _, fr, h') => match ares P fr h' fn.results.toList with
        | some l => some (ares1 l, h')
        | none => none
      | some (.ret, _, fr, h') => match ares P fr h' fn.results.toList with
        | some l => some (ares1 l, h')
        | none => none
      | _ => none
    | none => none
  | none => none
/-- The heap with the variables laid. -/
def strs (l : List String) : List AV := l.map fun s => .str s.toUTF8.data.toList
end Go.Eng
/- The engine, part 39: a function that defers a call which does nothing: sound. -/
namespace Go.Eng
/-- What function 26 does where nothing has panicked. -/
def CaughtOk (P : Program) : Prop := ∀ (args : Array Value) (w : World), hasBody P 26 = true ∧ CallsDIn Fence.wide 0 P 26 args .returning w fun e u' w' => u' = .returning ∧ (∃ v, e = .returned v) ∧ w' = w
def DefRel (b : Bool) (ds : List Deferred) : Prop :=
  match b with
  | false => ds = []
  | true => ∃ args, ds = [{ target := .fn (.func 26) #[], args := args }]
section
variable {P : Program} {m : Nat}
theorem aexecD_sound (hP : POk P) {call : CallFn} (hcall : CallOk P call) (n : Nat) :
    ∀ (c : Code) (b : Bool) (fr : AFrame) (h : AHeap) (e : AEx) (b' : Bool) (fr' : AFrame) (h' : AHeap) (ρ : Rho) (a : Act) (w : World) (Q : Exit → Act → World → Prop),
      aexecD P call n c b fr h = some (e, b', fr', h') → FrRel ρ (fr.wd a.defers) a → DefRel b a.defers → Sim ρ h w →
      (∀ ρ' a' w', FrRel ρ' (fr'.wd a'.defers) a' → DefRel b' a'.defers → Step ρ h w ρ' h' w' → Q e.to a' w') → c.wpIn Fence.wide m P Q a w := by
  have leaf : ∀ (c : Code) (b : Bool) (fr : AFrame) (h : AHeap) (e : AEx) (b' : Bool) (fr' : AFrame) (h' : AHeap) (ρ : Rho) (a : Act) (w : World) (Q : Exit → Act → World → Prop),
      (if nodef c then (match aexec P call n c fr h with
        | some (e, fr', h') => some (e, b, fr', h')
        | none => none) else none) = some (e, b', fr', h') → FrRel ρ (fr.wd a.defers) a → DefRel b a.defers → Sim ρ h w →
      (∀ ρ' a' w', FrRel ρ' (fr'.wd a'.defers) a' → DefRel b' a'.defers → Step ρ h w ρ' h' w' → Q e.to a' w') → c.wpIn Fence.wide m P Q a w := by
    intro c b fr h e b' fr' h' ρ a w Q ho hf hm hs hq
    split at ho
    case isFalse => cases ho
    rename_i hnd
    split at ho
    case h_2 => cases ho
    rename_i e1 fr1 h1 hx
    cases ho
    refine aexec_soundW m hP hcall n c _ h _ _ _ ρ a w Q hnd (aexec_wd a.defers c fr h _ _ _ hx) hf hs fun ρ' a' w' hf' hs' => ?_
    have hd : a'.defers = a.defers := hf'.defers
    exact hq ρ' a' w' (hf'.nds) (by rw [hd]; exact hm) hs'
  intro c
  induction c with
  | seq x y ihx ihy =>
    intro b fr h e b' fr' h' ρ a w Q ho hf hm hs hq
    simp only [aexecD] at ho
    split at ho
    · rename_i b1 fr1 h1 hx
      refine wpIn_seq (ihx b fr h .normal b1 fr1 h1 ρ a w _ hx hf hm hs fun ρ1 a1 w1 hf1 hm1 hs1 => ?_)
      exact ihy b1 fr1 h1 e b' fr' h' ρ1 a1 w1 Q ho hf1 hm1 hs1.sim fun ρ2 a2 w2 hf2 hm2 hs2 => hq ρ2 a2 w2 hf2 hm2 (hs1.trans hs2)
    · rename_i id s1 hx
      cases ho
      exact wpIn_seq (ihx b fr h (.exit id) _ _ _ ρ a w _ hx hf hm hs fun ρ1 a1 w1 hf1 hm1 hs1 => hq ρ1 a1 w1 hf1 hm1 hs1)
    · rename_i s1 hx
      cases ho
      exact wpIn_seq (ihx b fr h .ret _ _ _ ρ a w _ hx hf hm hs fun ρ1 a1 w1 hf1 hm1 hs1 => hq ρ1 a1 w1 hf1 hm1 hs1)
    · cases ho
  | cond c x y ihx ihy =>
    intro b fr h e b' fr' h' ρ a w Q ho hf hm hs hq
    simp only [aexecD] at ho
    split at ho
    · rename_i t hc
      have hb := conc_bool (aeval_sound hf hs c _ (by rw [aeval_wd]; exact hc))
      split at ho
      · exact wpIn_cond_true hb (ihx b fr h e b' fr' h' ρ a w Q ho hf hm hs hq)
      · exact wpIn_cond_false hb (ihy b fr h e b' fr' h' ρ a w Q ho hf hm hs hq)
    · cases ho
  | block id c ih =>
    intro b fr h e b' fr' h' ρ a w Q ho hf hm hs hq
    simp only [aexecD] at ho
    refine wpIn_block ?_
    split at ho
    · rename_i s1 hx
      cases ho
      exact ih b fr h .normal _ _ _ ρ a w _ hx hf hm hs fun ρ1 a1 w1 hf1 hm1 hs1 => hq ρ1 a1 w1 hf1 hm1 hs1
    · rename_i id' s1 hx
      obtain ⟨b1, fr1, h1⟩ := s1
      refine ih b fr h (.exit id') b1 fr1 h1 ρ a w _ hx hf hm hs fun ρ1 a1 w1 hf1 hm1 hs1 => ?_
      split at ho
      · rename_i hid
        cases ho
        show if id' = id then Q .normal a1 w1 else Q (.exit id') a1 w1
        rw [if_pos hid]
        exact hq ρ1 a1 w1 hf1 hm1 hs1
      · rename_i hid
        cases ho
        show if id' = id then Q .normal a1 w1 else Q (.exit id') a1 w1
        rw [if_neg hid]
        exact hq ρ1 a1 w1 hf1 hm1 hs1
    · rename_i s1 hx
      cases ho
      exact ih b fr h .ret _ _ _ ρ a w _ hx hf hm hs fun ρ1 a1 w1 hf1 hm1 hs1 => hq ρ1 a1 w1 hf1 hm1 hs1
    · cases ho
  | rangeFunc g ps as bo _ _ => exact leaf _
  | region id ops draw =>
    intro b fr h e b' fr' h' ρ a w Q ho hf hm hs hq
    simp only [aexecD] at ho
    split at ho
    · rename_i f as ts ty pos after hops
      split at ho
      · rename_i g l hgf hl
        cases hg : Nat.beq g 26 with
        | false => simp [hg] at ho
        | true =>
          simp only [hg, cond_true, Option.some.injEq, Prod.mk.injEq] at ho
          obtain ⟨rfl, rfl, rfl, rfl⟩ := ho
          obtain rfl := Nat.eq_of_beq_eq_true hg
          have hds : a.defers = [] := hm
          have hfv := conc_func (aeval_sound hf hs f _ (by rw [aeval_wd]; exact hgf))
          obtain ⟨x, hx, hfe⟩ := hfv
          obtain rfl : x = [] := by simpa [concs] using hx.symm
          refine wpIn_region_list ?_
          rw [hops]
          simp only [wpListIn, Region.wanted, if_true]
          refine ⟨fun _ _ => trivial, ?_⟩
          have hrun : (Oper.semAt (Fence.wide).round a.eval { dst := none, op := .defer { callee := .value f, args := as, argTypes := ts }, type := ty, pos := pos, after := after, guard := none }).run P w = .ok (.defer { target := .fn (.func 26) #[], args := as.map a.eval }) w := by
            rw [show (Fence.wide).round = none from rfl, Oper.semAt_none]
            simp only [execOp, resolve, hfe, Deferred.ofValue, Sem.run_bind, Sem.run_pure, Result.andThen_ok, Array.empty_append]
          rw [hrun, Oper.uponIn_defer]
          refine hq ρ _ w ⟨rfl, hf.size, hf.val⟩ ⟨as.map a.eval, ?_⟩ (Step.refl hs)
          show _ :: a.defers = _
          rw [hds]
      · cases ho
    · exact leaf _ _ _ _ _ _ _ _ _ _ _ _ ho hf hm hs hq
  | loop c ih => exact leaf _
  | skip => exact leaf _
  | label l => exact leaf _
  | exit l => exact leaf _
  | ret => exact leaf _
  | scope c _ => exact leaf _
  | goto l => exact leaf _
  | refuse s => exact leaf _
end
section
variable {P : Program} {m : Nat}
theorem dbody_sound (hP : POk P) (hcau : CaughtOk P) {call : CallFn} (hcall : CallOk P call) (n : Nat) : CallOk P (dbody P call n) := by
  intro f args h r h' ρ w cargs ho hs hargs
  simp only [dbody] at ho
  split at ho
  case h_2 => cases ho
  rename_i fn hfn
  split at ho
  case h_2 => cases ho
  rename_i c hbody
  have hlen := concs_length _ _ hargs
  have hfr : FrRel ρ ((⟨args.length + (fn.ntmps - args.length), args0 args 0 .nil, []⟩ : AFrame).wd []) { tmps := cargs.toArray ++ Array.replicate (fn.ntmps - cargs.toArray.size) undef, defers := [] } := by
    refine ⟨rfl, by simp [hlen, AFrame.wd], fun i v hv => ?_⟩
    simp only [AFrame.get, AFrame.wd] at hv
    rw [args0_get] at hv
    split at hv
    · rename_i hlt
      obtain ⟨c, h1, h2⟩ := concs_get _ _ _ _ hargs hv
      refine ⟨c, ?_, h2⟩
      rw [Array.getElem?_append]
      rw [if_pos (by simp; omega)]
      simpa using h1
    · rw [T.get_nil] at hv; cases hv
  have fin : ∀ (e : AEx) (b : Bool) (fr' : AFrame) (h1 : AHeap), (e = .normal ∨ e = .ret) → aexecD P call n c false ⟨args.length + (fn.ntmps - args.length), args0 args 0 .nil, []⟩ h = some (e, b, fr', h1) →
      (match ares P fr' h1 fn.results.toList with | some l => some (ares1 l, h1) | none => none) = some (r, h') →
      Calls P f cargs.toArray w fun e w' => ∃ c ρ', e = .returned c ∧ conc ρ' r = some c ∧ Step ρ h w ρ' h' w' := by
    intro e b fr' h1 he hx hr
    split at hr
    case h_2 => cases hr
    rename_i l hl
    simp only [Option.some.injEq, Prod.mk.injEq] at hr
    obtain ⟨rfl, rfl⟩ := hr
    refine (callsIn_wide (n := 0)).1 (callsIn_of_wp_defers hfn hbody trivial (aexecD_sound hP hcall n c false _ h e b fr' h1 ρ _ w _ hx hfr rfl hs fun ρ' a' w' hf' hm' hs' => ?_))
    have done : LeavesIn Fence.wide 0 P fn a'.tmps (fun e w' => ∃ c ρ', e = .returned c ∧ conc ρ' (ares1 l) = some c ∧ Step ρ h w ρ' h1 w') [] .returning w' := by
      obtain ⟨cv, h2, h3⟩ := results_sound (P := P) (fn := fn) hf' hs'.sim ((ares_wd P fr' a'.defers h1 _).trans hl)
      exact ⟨cv, h3, cv, ρ', rfl, h2, hs'⟩
    have out : LeavesIn Fence.wide 0 P fn a'.tmps (fun e w' => ∃ c ρ', e = .returned c ∧ conc ρ' (ares1 l) = some c ∧ Step ρ h w ρ' h1 w') a'.defers .returning w' := by
      cases b with
      | false =>
        have : a'.defers = [] := hm'
        rw [this]; exact done
      | true =>
        obtain ⟨args, hd⟩ := hm'
        rw [hd]
        obtain ⟨hb26, hc26⟩ := hcau args w'
        refine leavesIn_cons (by simp) (by intro hq; cases hq) (f := 26) (args := args) ?_ (fun g _ => trivial) (hc26.mono ?_)
        · simp only [invoke]
          rw [show args ++ #[] = args by simp]
          exact run_callFunc hP hb26 _ w'
        · rintro e u' w'' ⟨rfl, ⟨v, rfl⟩, rfl⟩
          exact done
    rcases he with rfl | rfl <;> exact out
  split at ho
  · rename_i b fr1 h1 hx; exact fin .normal b fr1 h1 (.inl rfl) hx ho
  · rename_i b fr1 h1 hx; exact fin .ret b fr1 h1 (.inr rfl) hx ho
  · cases ho
end
end Go.Eng
/- The engine, part 40: functions that defer only add blocks; a closed call, run on blocks that are only read, is known on every heap that holds them. -/
namespace Go.Eng
section
variable {P : Program} {call : CallFn}
theorem aexecD_nx (hc : CallNx call) {n : Nat} : ∀ (c : Code) b fr h e b' fr' h', aexecD P call n c b fr h = some (e, b', fr', h') → Nx h h' := by
  have leaf : ∀ (c : Code) (b : Bool) fr h e (b' : Bool) fr' h', (if nodef c then (match aexec P call n c fr h with
    | some (e, fr', h') => some (e, b, fr', h')
    | none => none) else none) = some (e, b', fr', h') → Nx h h' := by
    intro c b fr h e b' fr' h' ho
    split at ho
    case isFalse => cases ho
    split at ho
    · rename_i e1 fr1 h1 hx; cases ho; exact aexec_nx hc _ _ _ _ _ _ hx
    · cases ho
  intro c
  induction c with
  | seq x y ihx ihy =>
    intro b fr h e b' fr' h' ho
    simp only [aexecD] at ho
    split at ho
    · rename_i hx; exact (ihx _ _ _ _ _ _ _ hx).trans (ihy _ _ _ _ _ _ _ ho)
    · rename_i hx; cases ho; exact ihx _ _ _ _ _ _ _ hx
    · rename_i hx; cases ho; exact ihx _ _ _ _ _ _ _ hx
    · cases ho
  | cond c x y ihx ihy =>
    intro b fr h e b' fr' h' ho
    simp only [aexecD] at ho
    split at ho
    · split at ho
      · exact ihx _ _ _ _ _ _ _ ho
      · exact ihy _ _ _ _ _ _ _ ho
    · cases ho
  | block id c ih =>
    intro b fr h e b' fr' h' ho
    simp only [aexecD] at ho
    split at ho
    · rename_i hx; cases ho; exact ih _ _ _ _ _ _ _ hx
    · rename_i id' s hx
      split at ho <;> (cases ho; exact ih _ _ _ _ _ _ _ hx)
    · rename_i hx; cases ho; exact ih _ _ _ _ _ _ _ hx
    · cases ho
  | rangeFunc g ps as bo _ _ => exact leaf _
  | region id ops draw =>
    intro b fr h e b' fr' h' ho
    simp only [aexecD] at ho
    split at ho
    · split at ho
      · rename_i g l hgf hl
        cases hg : Nat.beq g 26 with
        | false => simp [hg] at ho
        | true =>
          simp only [hg, cond_true, Option.some.injEq, Prod.mk.injEq] at ho
          obtain ⟨_, _, _, rfl⟩ := ho
          exact Nx.refl _
      · cases ho
    · exact leaf _ _ _ _ _ _ _ _ ho
  | loop c ih => exact leaf _
  | skip => exact leaf _
  | label l => exact leaf _
  | exit l => exact leaf _
  | ret => exact leaf _
  | scope c _ => exact leaf _
  | goto l => exact leaf _
  | refuse s => exact leaf _
theorem dbody_nx (hc : CallNx call) {n : Nat} : CallNx (dbody P call n) := by
  intro f args h r h' ho
  rw [dbody] at ho
  split at ho
  · split at ho
    · split at ho
      · rename_i hx
        split at ho
        · cases ho; exact aexecD_nx hc _ _ _ _ _ _ _ _ hx
        · cases ho
      · rename_i hx
        split at ho
        · cases ho; exact aexecD_nx hc _ _ _ _ _ _ _ _ hx
        · cases ho
      · cases ho
    · cases ho
  · cases ho
end
theorem Step.idleR {ρ ρL ρ' : Rho} {h hL h' : AHeap} {w w' : World} (hs : Sim ρ h w) (hnw : ∀ b, (hL.get b).writes = false) (hst : Step ρL hL w ρ' h' w') : Step ρ h w ρ h w' := by
  have old : ∀ k, k < w.heap.size → w'.heap[k]? = w.heap[k]? := fun k hk => (hst.keep.old k hk (fun ⟨b, pl, hb, _, _⟩ => by rw [hnw b] at hb; cases hb)).1
  refine ⟨Ext.refl ρ, ⟨hs.rng, fun b hl => ?_, hs.sep, hs.glob, hs.gl⟩, ⟨hst.keep.size, hst.keep.os, hst.keep.tape, hst.keep.output, fun k hk hn => ⟨old k hk, hn⟩, fun _ _ hn => hn⟩, Nat.le_refl _, rfl⟩
  obtain ⟨pl, h1, h2⟩ := hs.obj b hl
  exact ⟨pl, h1, h2.mono (Ext.refl ρ) (old _ (h2.lt hl))⟩
end Go.Eng
