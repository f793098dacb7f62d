/- The engine, part 13: a region that draws its order: the run in the order of the text serves every order. -/
import Derived.Test.YtcjgagkkanokjacGreatDoorE11
namespace Go.Eng

/-! ### an operation looks at its operands alone -/
theorem evs_congr {ev ev' : Operand → Option AV} : ∀ l : List Operand, (∀ x ∈ l, ev x = ev' x) → evs ev l = evs ev' l
  | [], _ => rfl
  | x :: r, h => by simp only [evs, h x (by simp), evs_congr r fun y hy => h y (by simp [hy])]
theorem evps_congr {ev ev' : Operand → Option AV} : ∀ l : List (Nat × Operand), (∀ x ∈ l.map (·.2), ev x = ev' x) → evps ev l = evps ev' l
  | [], _ => rfl
  | (i, x) :: r, h => by simp only [evps, h x (by simp), evps_congr r fun y hy => h y (by simp at hy ⊢; exact .inr hy)]
theorem evo_congr {ev ev' : Operand → Option AV} {x : Option Operand} (h : ∀ y ∈ x.toArray, ev y = ev' y) : evo ev x = evo ev' x := by
  cases x with
  | none => rfl
  | some x => simp only [evo, h x (by simp)]
theorem ppure_congr {P : Program} {ev ev' : Operand → Option AV} {op : Op} (h : ∀ x ∈ op.operands, ev x = ev' x) : ppure P ev op = ppure P ev' op := by
  cases op <;> simp only [ppure]
  case move x => exact h x (by simp [Op.operands])
  case assign x => exact h x (by simp [Op.operands])
  case pick c a b => rw [h c (by simp [Op.operands]), h a (by simp [Op.operands]), h b (by simp [Op.operands])]
  case build t ps => rw [evps_congr ps.toList fun x hx => h x (by simpa [Op.operands] using hx)]
  case nilCheck x => rw [h x (by simp [Op.operands])]
  case binOp op t x y yt => rw [h x (by simp [Op.operands]), h y (by simp [Op.operands])]
  case unOp op t x => rw [h x (by simp [Op.operands])]
  case convert s d x => rw [h x (by simp [Op.operands])]
  case sliceToArrayPointer t x => rw [h x (by simp [Op.operands])]
  case makeInterface t x => rw [h x (by simp [Op.operands])]
  case makeFunc fn first cap => cases fn <;> first | rfl | (simp only [evs_congr cap.toList fun x hx => h x (by simp at hx; simp [Op.operands, hx])])
  case slice t x lo hi mx =>
    rw [h x (by simp [Op.operands]), evo_congr (x := lo) fun y hy => h y (by simp at hy; simp [Op.operands, hy]), evo_congr (x := hi) fun y hy => h y (by simp at hy; simp [Op.operands, hy]), evo_congr (x := mx) fun y hy => h y (by simp at hy; simp [Op.operands, hy])]
  case fieldAddr s x f => rw [h x (by simp [Op.operands])]
  case field s x f => rw [h x (by simp [Op.operands])]
  case indexAddr t x i => rw [h x (by simp [Op.operands]), h i (by simp [Op.operands])]
  case index t x i => rw [h x (by simp [Op.operands]), h i (by simp [Op.operands])]
  case extract x i => rw [h x (by simp [Op.operands])]
  case typeAssert x xt t ok => rw [h x (by simp [Op.operands])]
  case call c =>
    rw [evs_congr c.args.toList fun x hx => h x (by simp at hx; simp [Op.operands, Call.operands, hx])]
theorem pload_congr {P : Program} {h : AHeap} {ev ev' : Operand → Option AV} {op : Op} (he : ∀ x ∈ op.operands, ev x = ev' x) : pload P h ev op = pload P h ev' op := by
  cases op <;> simp only [pload]
  case load t a => rw [he a (by simp [Op.operands])]
theorem palloc_congr {P : Program} {ev ev' : Operand → Option AV} {op : Op} (h : ∀ x ∈ op.operands, ev x = ev' x) : palloc P ev op = palloc P ev' op := by
  cases op <;> simp only [palloc]
  case box e x => rw [h x (by simp [Op.operands])]
  case buildSlice t len ps => rw [evps_congr ps.toList fun x hx => h x (by simpa [Op.operands] using hx)]
  case makeSlice t l c => rw [h l (by simp [Op.operands]), h c (by simp [Op.operands])]
theorem peff_congr {P : Program} {call : CallFn} {hp : AHeap} {ev ev' : Operand → Option AV} {op : Op} (h : ∀ x ∈ op.operands, ev x = ev' x) : peff P call hp ev op = peff P call hp ev' op := by
  cases op <;> simp only [peff]
  case store t a x => rw [h a (by simp [Op.operands]), h x (by simp [Op.operands])]
  case call c =>
    have ha := evs_congr c.args.toList fun x hx => h x (by simp at hx; simp [Op.operands, Call.operands, hx])
    cases hc : c.callee with
    | builtin b => simp only [ha]
    | value f => simp only [ha, h f (by simp [Op.operands, Call.operands, hc])]
    | invoke r m => simp only [ha, h r (by simp [Op.operands, Call.operands, hc])]
  case makeMap t r => cases r <;> rfl
  case lookup t x k ok => rw [h x (by simp [Op.operands]), h k (by simp [Op.operands])]
  case mapUpdate t m k x => rw [h m (by simp [Op.operands]), h k (by simp [Op.operands]), h x (by simp [Op.operands])]
  case insert t m k x => rw [h m (by simp [Op.operands]), h k (by simp [Op.operands]), h x (by simp [Op.operands])]
  case range t x => rw [h x (by simp [Op.operands])]
  case next x isS => rw [h x (by simp [Op.operands])]
  case convert s d x => rw [h x (by simp [Op.operands])]
theorem aop_congr {P : Program} {call : CallFn} {hp : AHeap} {ev ev' : Operand → Option AV} {op : Op} (h : ∀ x ∈ op.operands, ev x = ev' x) : aop P call hp ev op = aop P call hp ev' op := by
  unfold aop
  rw [ppure_congr h, pload_congr h, palloc_congr h, peff_congr h]

/-! ### restricted placements -/
def res (ρ : Rho) (N : Nat) : Rho := fun b => if b < N then ρ b else none
theorem res_ext {ρ : Rho} {N N' : Nat} (h : N ≤ N') : Ext (res ρ N) (res ρ N') := fun b pl hb => by
  unfold res at *
  split at hb
  · rw [if_pos (by omega)]; exact hb
  · cases hb
theorem res_mono {ρ ρ' : Rho} (h : Ext ρ ρ') (N : Nat) : Ext (res ρ N) (res ρ' N) := fun b pl hb => by
  unfold res at *
  split at hb
  · rename_i hlt; rw [if_pos hlt]; exact h b pl hb
  · cases hb
theorem res_some {ρ : Rho} {N b : Nat} {pl : Place} (h : res ρ N b = some pl) : b < N ∧ ρ b = some pl := by
  unfold res at h
  split at h
  · exact ⟨‹_›, h⟩
  · cases h
theorem res_of {ρ : Rho} {N b : Nat} {pl : Place} (h : b < N) (k : ρ b = some pl) : res ρ N b = some pl := by unfold res; rw [if_pos h]; exact k
theorem Sim.res_eq {ρ : Rho} {h : AHeap} {w : World} (hs : Sim ρ h w) : res ρ h.next = ρ := by
  funext b
  unfold res
  split
  · rfl
  · rename_i hb
    cases e : ρ b with
    | none => rfl
    | some pl => exact absurd (hs.rng b pl e) hb

/-- A load by an address that another placement, in agreement, gives. -/
theorem pload_sound2 {P : Program} {ρ ρ2 : Rho} {h : AHeap} {w : World} {ev : Operand → Option AV} {ec : Operand → Value} {o : Oper} {v : AV} (hv : pload P h ev o.op = some v) (he : EvRel ρ2 ev ec) (hs : Sim ρ h w)
    (hag : ∀ b pl pl', ρ b = some pl → ρ2 b = some pl' → pl = pl') : ∃ c, conc ρ v = some c ∧ (execOp ec o).run P w = .ok (.value c) w := by
  obtain ⟨dst, op, ty, pos, after, guard⟩ := o
  simp only at hv
  cases op <;> simp only [pload] at hv <;> try (cases hv; done)
  case load t a =>
    cases ha : ev a with
    | none => simp [ha] at hv
    | some p =>
      simp only [ha] at hv
      have hp2 := he a p ha
      cases p with
      | ptr b o =>
        obtain ⟨pl2, hb2, hcp⟩ := conc_ptr hp2
        have hlive : (h.get b).live = true := by
          simp only [aload] at hv
          cases hg : h.get b with
          | cells ty cs wr => rfl
          | dead => simp [hg] at hv
          | map es cl wr => rfl
          | siter s pos => rfl
        obtain ⟨pl, hb, _⟩ := hs.obj b hlive
        have := hag b pl pl2 hb hb2
        subst this
        obtain ⟨c, hc, hr⟩ := aload_sound (cp := a |> ec) hv (by rw [hcp]; exact conc_ptr_mk hb (by rw [hcp] at hp2; exact conc_ptr_sp hp2 hb2)) hs
        exact ⟨c, hc, by simp [execOp, hr]⟩
      | _ => simp [aload] at hv

/-- One more block in the world: nothing turns. -/
theorem Step.push {ρ0 ρ : Rho} {h0 h : AHeap} {w0 w : World} (hs : Step ρ0 h0 w0 ρ h w) (O : Obj) : Step ρ0 h0 w0 ρ h { w with heap := w.heap.push O } := by
  refine hs.trans ⟨Ext.refl ρ, ⟨hs.sim.rng, fun b hl => ?_, hs.sim.sep, hs.sim.glob, hs.sim.gl⟩, ⟨by simp, rfl, rfl, rfl, fun k hk hno => ⟨heap_push O k hk, hno⟩, fun _ _ hn => hn⟩, Nat.le_refl _, rfl⟩
  obtain ⟨p, h1, h2⟩ := hs.sim.obj b hl
  exact ⟨p, h1, h2.mono (Ext.refl ρ) (heap_push O _ (h2.lt hl))⟩

/-! ### the text -/
theorem blt_true {a b : Nat} : Nat.blt a b = true ↔ a < b := by
  unfold Nat.blt
  rw [Nat.ble_eq]
  exact Iff.rfl
theorem sameDst_true {a b : Option Tmp} : sameDst a b = true ↔ ∃ t, a = some t ∧ b = some t := by
  cases a <;> cases b <;> simp [sameDst]
  constructor
  · intro h; exact h.symm
  · intro h; exact h.symm

structure TextOk (ops : Array Oper) (M : List Nat) : Prop where
  lex : ∀ (i : Nat) (o : Oper), ops[i]? = some o → ∀ e ∈ o.after, binds e = true → e.on < i
  just : ∀ (i : Nat) (o : Oper), ops[i]? = some o → ∀ k, k < i → bit M i k = true → ∃ e ∈ o.after, binds e = true ∧ (e.on = k ∨ (k < e.on ∧ bit M e.on k = true))
  pair : ∀ (i j : Nat) (oi oj : Oper), ops[i]? = some oi → ops[j]? = some oj → j < i → pairOk ops M oj j oi i = true

theorem rowOk_spec {ops : Array Oper} {M : List Nat} {oi : Oper} {i : Nat} : ∀ (l : List Oper) (j0 : Nat), rowOk ops M oi i l j0 = true → ∀ (j : Nat) (oj : Oper), l[j]? = some oj → j0 + j < i → pairOk ops M oj (j0 + j) oi i = true
  | [], _, _, j, oj, hj, _ => by simp at hj
  | o :: r, j0, h, j, oj, hj, hlt => by
    simp only [rowOk] at h
    have hb : Nat.blt j0 i = true := blt_true.2 (by omega)
    rw [if_pos hb] at h
    simp only [Bool.and_eq_true] at h
    cases j with
    | zero => simp at hj; subst hj; exact h.1
    | succ j =>
      have := rowOk_spec r (j0 + 1) h.2 j oj (by simpa using hj) (by omega)
      rwa [show j0 + (j + 1) = j0 + 1 + j by omega]
theorem textOk_spec {ops : Array Oper} {M : List Nat} : ∀ (l : List Oper) (i0 : Nat), textOk ops M l i0 = true → ∀ (i : Nat) (oi : Oper), l[i]? = some oi → maskOk M (i0 + i) oi = true ∧ rowOk ops M oi (i0 + i) ops.toList 0 = true
  | [], _, _, i, oi, hi => by simp at hi
  | o :: r, i0, h, i, oi, hi => by
    simp only [textOk, Bool.and_eq_true] at h
    cases i with
    | zero => simp at hi; subst hi; exact h.1
    | succ i =>
      have := textOk_spec r (i0 + 1) h.2 i oi (by simpa using hi)
      rwa [show i0 + (i + 1) = i0 + 1 + i by omega]
theorem TextOk.of {ops : Array Oper} {M : List Nat} (h : textOk ops M ops.toList 0 = true) : TextOk ops M := by
  have key := fun (i : Nat) (oi : Oper) (hi : ops[i]? = some oi) => textOk_spec ops.toList 0 h i oi (by simpa using hi)
  refine ⟨fun i o hi e he hb => ?_, fun i o hi k hk hbit => ?_, fun i j oi oj hi hj hlt => ?_⟩
  · have := (key i o hi).1
    simp only [maskOk, Nat.zero_add, Bool.and_eq_true, List.all_eq_true] at this
    have h1 := this.1 e (by simpa using he)
    simp [hb] at h1
    first | exact h1 | exact blt_true.1 h1
  · have := (key i o hi).1
    simp only [maskOk, Nat.zero_add, Bool.and_eq_true, List.all_eq_true] at this
    have h1 := this.2 k (by simpa using hk)
    simp only [hbit, Bool.not_true, Bool.false_or, List.any_eq_true, Bool.and_eq_true, Bool.or_eq_true, beq_true] at h1
    obtain ⟨e, he, h2, h3⟩ := h1
    refine ⟨e, by simpa using he, h2, h3.imp id fun h4 => ⟨?_, h4.2⟩⟩
    first | exact h4.1 | exact blt_true.1 h4.1
  · have := rowOk_spec ops.toList 0 (key i oi hi).2 j oj (by simpa using hj) (by simpa using hlt)
    simpa using this

/-- What is done is closed under what must come before. -/
def Closed (ops : Array Oper) (listed : Nat → Prop) : Prop := ∀ (i : Nat) (o : Oper), ops[i]? = some o → listed i → ∀ e ∈ o.after, binds e = true → listed e.on
theorem Closed.bits {ops : Array Oper} {M : List Nat} (ht : TextOk ops M) {D : Nat → Prop} (hc : Closed ops D) (hD : ∀ i, D i → i < ops.size) : ∀ (i : Nat) (o : Oper), ops[i]? = some o → (∀ e ∈ o.after, binds e = true → D e.on) → ∀ k, k < i → bit M i k = true → D k := by
  intro i
  induction i using Nat.strongRecOn with
  | _ i ih =>
    intro o ho hpre k hk hb
    obtain ⟨e, he, hbe, h1⟩ := ht.just i o ho k hk hb
    have hDe := hpre e he hbe
    rcases h1 with h1 | h1
    · rw [← h1]; exact hDe
    · have hlt := ht.lex i o ho e he hbe
      have hsz := hD _ hDe
      exact ih e.on hlt ops[e.on] (by simp [hsz]) (fun e' he' hb' => hc e.on ops[e.on] (by simp [hsz]) hDe e' he' hb') k h1.1 h1.2

/-! ### the records -/
def stF (tr : List Rec) (fr' : AFrame) (i : Nat) : AFrame := match tr[i]? with | some r => r.fr | none => fr'
def stH (tr : List Rec) (h' : AHeap) (i : Nat) : AHeap := match tr[i]? with | some r => r.h | none => h'
def stV (tr : List Rec) (i : Nat) : AV := match tr[i]? with | some r => r.v | none => .nilptr

structure LexAt (P : Program) (call : CallFn) (ops : Array Oper) (F : Nat → AFrame) (H : Nat → AHeap) (V : Nat → AV) (i : Nat) (o : Oper) : Prop where
  step : astep P call ops (F i) (H i) o = some (V i, H (i + 1))
  put : (F i).put o.dst (V i) = some (F (i + 1))
  nx : (H i).next ≤ (H (i + 1)).next
  gb : (H i).glob = (H (i + 1)).glob

theorem adops_trace {P : Program} {call : CallFn} {ops : Array Oper} : ∀ (l : List Oper) (fr fr' : AFrame) (h h' : AHeap) (tr : List Rec), adops P call ops l fr h = some (tr, fr', h') →
    tr.length = l.length ∧ stF tr fr' 0 = fr ∧ stH tr h' 0 = h ∧ ∀ i o, l[i]? = some o → LexAt P call ops (stF tr fr') (stH tr h') (stV tr) i o
  | [], fr, fr', h, h', tr, ho => by
    simp only [adops, Option.some.injEq, Prod.mk.injEq] at ho
    obtain ⟨rfl, rfl, rfl⟩ := ho
    exact ⟨rfl, rfl, rfl, fun i o hi => by simp at hi⟩
  | o :: r, fr, fr', h, h', tr, ho => by
    simp only [adops] at ho
    split at ho
    · rename_i v h1 hst
      split at ho
      · rename_i fr1 hp
        split at ho
        · rename_i hn
          simp only [Bool.and_eq_true, Nat.ble_eq, beq_true] at hn
          split at ho
          · rename_i tr1 fr2 h2 hr
            simp only [Option.some.injEq, Prod.mk.injEq] at ho
            obtain ⟨rfl, rfl, rfl⟩ := ho
            obtain ⟨k1, k2, k3, k4⟩ := adops_trace r fr1 fr2 h1 h2 tr1 hr
            have eF : ∀ i, stF (⟨fr, h, v⟩ :: tr1) fr2 (i + 1) = stF tr1 fr2 i := fun i => by simp [stF]
            have eH : ∀ i, stH (⟨fr, h, v⟩ :: tr1) h2 (i + 1) = stH tr1 h2 i := fun i => by simp [stH]
            have eV : ∀ i, stV (⟨fr, h, v⟩ :: tr1) (i + 1) = stV tr1 i := fun i => by simp [stV]
            refine ⟨by simp [k1], by simp [stF], by simp [stH], fun i o' hi => ?_⟩
            cases i with
            | zero =>
              simp at hi; subst hi
              refine ⟨?_, ?_, ?_, ?_⟩
              · rw [eH, k3]; simpa [stF, stH, stV] using hst
              · rw [eF, k2]; simpa [stF, stV] using hp
              · rw [eH, k3]; simpa [stH] using hn.1
              · rw [eH, k3]; simpa [stH] using hn.2
            | succ i =>
              obtain ⟨a1, a2, a3, a4⟩ := k4 i o' (by simpa using hi)
              refine ⟨?_, ?_, ?_, ?_⟩
              · rw [eF, eH, eH, eV]; exact a1
              · rw [eF, eF, eV]; exact a2
              · rw [eH, eH]; exact a3
              · rw [eH, eH]; exact a4
          · cases ho
        · cases ho
      · cases ho
    · cases ho

/-- The whole run, and what it lets us say of its loads. -/
structure Lex (P : Program) (call : CallFn) (ops : Array Oper) (M : List Nat) (F : Nat → AFrame) (H : Nat → AHeap) (V : Nat → AV) : Prop where
  text : TextOk ops M
  at_ : ∀ (i : Nat) (o : Oper), ops[i]? = some o → LexAt P call ops F H V i o
  load : ∀ (l : Nat) (o : Oper), ops[l]? = some o → isLoad o = true → awanted ops (F l) o = some true → ∀ s, (s = 0 ∨ ∃ e oe, s = e + 1 ∧ ops[e]? = some oe ∧ isEff oe = true) →
    (∀ e oe, ops[e]? = some oe → isEff oe = true → (e < l → bit M l e = true → e < s) ∧ (l < e → bit M e l = true → s ≤ e)) → pload P (H s) (aeval (F l) (H l).glob) o.op = some (V l)

section
variable {P : Program} {call : CallFn} {ops : Array Oper} {M : List Nat} {F : Nat → AFrame} {H : Nat → AHeap} {V : Nat → AV}

theorem ops_at {i : Nat} (h : i < ops.size) : ops[i]? = some ops[i] := by simp [h]

theorem Lex.nx (hl : Lex P call ops M F H V) : ∀ i j, i ≤ j → j ≤ ops.size → (H i).next ≤ (H j).next := by
  intro i j hij hj
  induction j with
  | zero => have : i = 0 := by omega
            subst this; exact Nat.le_refl _
  | succ j ih =>
    by_cases e : i = j + 1
    · subst e; exact Nat.le_refl _
    · exact Nat.le_trans (ih (by omega) (by omega)) (hl.at_ j _ (ops_at (by omega))).nx
theorem Lex.gb (hl : Lex P call ops M F H V) : ∀ i, i ≤ ops.size → (H i).glob = (H 0).glob := by
  intro i hi
  induction i with
  | zero => rfl
  | succ i ih => rw [← (hl.at_ i _ (ops_at (by omega))).gb]; exact ih (by omega)
theorem Lex.fn (hl : Lex P call ops M F H V) : ∀ i, i ≤ ops.size → (F i).n = (F 0).n := by
  intro i hi
  induction i with
  | zero => rfl
  | succ i ih =>
    have hp := (hl.at_ i _ (ops_at (by omega))).put
    rw [← ih (by omega)]
    cases hd : (ops[i]'(by omega)).dst with
    | none => rw [hd] at hp; simp only [AFrame.put, Option.some.injEq] at hp; rw [hp]
    | some d => rw [hd] at hp; exact (AFrame.put_lt hp).2
theorem Lex.fd (hl : Lex P call ops M F H V) : ∀ i, i ≤ ops.size → (F i).ds = (F 0).ds := by
  intro i hi
  induction i with
  | zero => rfl
  | succ i ih =>
    have hp := (hl.at_ i _ (ops_at (by omega))).put
    rw [← ih (by omega)]
    exact AFrame.put_ds hp
theorem Lex.fget (hl : Lex P call ops M F H V) : ∀ i, i ≤ ops.size → ∀ t, (∃ j o, j < i ∧ ops[j]? = some o ∧ o.dst = some t ∧ (F i).get t = some (V j)) ∨ ((∀ j o, j < i → ops[j]? = some o → o.dst ≠ some t) ∧ (F i).get t = (F 0).get t) := by
  intro i hi t
  induction i with
  | zero => exact .inr ⟨fun j o hj => by omega, rfl⟩
  | succ i ih =>
    have ho := ops_at (ops := ops) (i := i) (by omega)
    have hp := (hl.at_ i _ ho).put
    cases hd : (ops[i]'(by omega)).dst with
    | none =>
      rw [hd] at hp
      simp only [AFrame.put, Option.some.injEq] at hp
      rw [← hp]
      rcases ih (by omega) with ⟨j, o, h1, h2, h3, h4⟩ | ⟨h1, h2⟩
      · exact .inl ⟨j, o, by omega, h2, h3, h4⟩
      · refine .inr ⟨fun j o hj hoj => ?_, h2⟩
        by_cases e : j = i
        · subst e; rw [ho] at hoj; cases hoj; rw [hd]; simp
        · exact h1 j o (by omega) hoj
    | some d =>
      rw [hd] at hp
      rw [AFrame.get_put hp]
      by_cases e : d = t
      · subst e
        exact .inl ⟨i, _, by omega, ho, hd, by simp⟩
      · rw [if_neg e]
        rcases ih (by omega) with ⟨j, o, h1, h2, h3, h4⟩ | ⟨h1, h2⟩
        · exact .inl ⟨j, o, by omega, h2, h3, h4⟩
        · refine .inr ⟨fun j o hj hoj => ?_, h2⟩
          by_cases e' : j = i
          · subst e'; rw [ho] at hoj; cases hoj; rw [hd]; simp [e]
          · exact h1 j o (by omega) hoj

theorem kind_eff {o : Oper} : isEff o = true ↔ kind o.op = .eff := by unfold isEff; cases kind o.op <;> simp
theorem kind_alloc {o : Oper} : isAlloc o = true ↔ kind o.op = .alloc := by unfold isAlloc; cases kind o.op <;> simp
theorem kind_load {o : Oper} : isLoad o = true ↔ kind o.op = .load := by unfold isLoad; cases kind o.op <;> simp

/-- What the run in the order of the text did at an operation. -/
inductive Did (P : Program) (call : CallFn) (ops : Array Oper) (F : Nat → AFrame) (H : Nat → AHeap) (V : Nat → AV) (i : Nat) (o : Oper) : Prop where
  | skip (hw : awanted ops (F i) o = some false) (hv : V i = .tuple []) (hh : H (i + 1) = H i)
  | pure (hw : awanted ops (F i) o = some true) (hk : kind o.op = .pure) (hv : ppure P (aeval (F i) (H i).glob) o.op = some (V i)) (hh : H (i + 1) = H i)
  | load (hw : awanted ops (F i) o = some true) (hk : kind o.op = .load) (hh : H (i + 1) = H i)
  | alloc (hw : awanted ops (F i) o = some true) (hk : kind o.op = .alloc) (ty : TypeId) (cs : List AV) (m : Mk) (hm : palloc P (aeval (F i) (H i).glob) o.op = some (ty, cs, m)) (hv : V i = m.abs (H i).next) (hh : H (i + 1) = (H i).new (.cells ty cs (some 0)))
  | eff (hw : awanted ops (F i) o = some true) (hk : kind o.op = .eff) (hv : aop P call (H i) (aeval (F i) (H i).glob) o.op = some (V i, H (i + 1)))
theorem Lex.did (hl : Lex P call ops M F H V) {i : Nat} {o : Oper} (ho : ops[i]? = some o) : Did P call ops F H V i o := by
  have hs := (hl.at_ i o ho).step
  unfold astep at hs
  split at hs
  · rename_i hw
    have hs0 := hs
    unfold aop at hs
    split at hs
    · rename_i hk
      split at hs
      · rename_i v hv
        simp only [Option.some.injEq, Prod.mk.injEq] at hs
        exact .pure hw hk (by rw [hv, hs.1]) hs.2.symm
      · cases hs
    · rename_i hk
      split at hs
      · simp only [Option.some.injEq, Prod.mk.injEq] at hs
        exact .load hw hk hs.2.symm
      · cases hs
    · rename_i hk
      split at hs
      · rename_i e cs m hm
        simp only [Option.some.injEq, Prod.mk.injEq] at hs
        exact .alloc hw hk e cs m hm hs.1.symm hs.2.symm
      · cases hs
    · rename_i hk
      exact .eff hw hk hs0
  · rename_i hw
    simp only [Option.some.injEq, Prod.mk.injEq] at hs
    exact .skip hw hs.1.symm hs.2.symm
  · cases hs

end

end Go.Eng
/- The engine, part 14: whatever order is drawn. -/
namespace Go.Eng

def Li (listed : Array Bool) (i : Nat) : Prop := listed[i]? = some true

/-- An allocation that is done, behind the last effect that is done. -/
def Pend (ops : Array Oper) (F : Nat → AFrame) (listed : Array Bool) (e p : Nat) : Prop :=
  e ≤ p ∧ Li listed p ∧ ∃ o, ops[p]? = some o ∧ isAlloc o = true ∧ awanted ops (F p) o = some true

structure Inv (P : Program) (ops : Array Oper) (F : Nat → AFrame) (H : Nat → AHeap) (V : Nat → AV) (ρ0 : Rho) (w0 : World) (listed : Array Bool) (a : Act) (w : World) (ρ : Rho) (e : Nat) : Prop where
  lsz : listed.size = ops.size
  closed : Closed ops (Li listed)
  front : ∀ i o, ops[i]? = some o → isEff o = true → (Li listed i ↔ i < e)
  fr0 : e = 0 ∨ ∃ i o, e = i + 1 ∧ ops[i]? = some o ∧ isEff o = true
  ale : ∀ i o, ops[i]? = some o → isAlloc o = true → i < e → Li listed i
  step : Step ρ0 (H 0) w0 (res ρ (H e).next) (H e) w
  dom : ∀ b pl, ρ b = some pl → b < (H e).next ∨ ∃ p, Pend ops F listed e p ∧ b = (H p).next
  pend : ∀ p, Pend ops F listed e p → ∃ k ty cs m xs o, ops[p]? = some o ∧ palloc P (aeval (F p) (H p).glob) o.op = some (ty, cs, m) ∧ ρ (H p).next = some ⟨k, 0, xs.length, none⟩ ∧ concs (res ρ (H p).next) cs = some xs ∧ cs.all AV.one = true ∧
    w.heap[k]? = some (.cells xs.toArray ty (0, 0)) ∧ ¬ Use (res ρ (H e).next) (H e) k ∧ w0.heap.size ≤ k
  apart : ∀ p q, Pend ops F listed e p → Pend ops F listed e q → p ≠ q → ∀ pl pl', ρ (H p).next = some pl → ρ (H q).next = some pl' → pl.blk ≠ pl'.blk
  defers : a.defers = (F 0).ds
  asz : a.tmps.size = (F 0).n
  slot : ∀ t, (∃ j o c, Li listed j ∧ ops[j]? = some o ∧ o.dst = some t ∧ a.tmps[t]? = some c ∧ conc (res ρ (max (H (j + 1)).next (H e).next)) (V j) = some c) ∨
    ((∀ j o, Li listed j → ops[j]? = some o → o.dst ≠ some t) ∧ ∀ v, (F 0).get t = some v → ∃ c, a.tmps[t]? = some c ∧ conc (res ρ (H e).next) v = some c)

section
variable {P : Program} {call : CallFn} {ops : Array Oper} {M : List Nat} {F : Nat → AFrame} {H : Nat → AHeap} {V : Nat → AV} {ρ0 : Rho} {w0 : World}

theorem Inv.lt {listed : Array Bool} {a : Act} {w : World} {ρ : Rho} {e : Nat} (I : Inv P ops F H V ρ0 w0 listed a w ρ e) {i : Nat} (h : Li listed i) : i < ops.size := by
  rw [← I.lsz]; exact (Array.getElem?_eq_some_iff.1 h).1
theorem Inv.ele {listed : Array Bool} {a : Act} {w : World} {ρ : Rho} {e : Nat} (I : Inv P ops F H V ρ0 w0 listed a w ρ e) : e ≤ ops.size := by
  rcases I.fr0 with h | ⟨i, o, h, ho, _⟩
  · omega
  · have := (Array.getElem?_eq_some_iff.1 ho).1; omega

/-- Two operations that meet are in order. -/
theorem meets {ht : TextOk ops M} {i j : Nat} {oi oj : Oper} (hi : ops[i]? = some oi) (hj : ops[j]? = some oj) (hlt : j < i) :
    (∀ t, oj.dst = some t → oi.dst = some t → False) ∧ ((∀ t, oj.dst = some t → t ∈ oi.looksAt ops → bit M i j = true) ∧ (∀ t, oi.dst = some t → t ∈ oj.looksAt ops → bit M i j = true) ∧
      (isEff oi = true → isEff oj = true → bit M i j = true) ∧ (isEff oi = true → isAlloc oj = true → bit M i j = true)) := by
  have h := ht.pair i j oi oj hi hj hlt
  simp only [pairOk, Bool.and_eq_true, Bool.not_eq_true', Bool.or_eq_true] at h
  obtain ⟨h1, h2⟩ := h
  refine ⟨(fun t ha hb => by rw [sameDst_true.2 ⟨t, ha, hb⟩] at h1; cases h1), ?_⟩
  rcases h2 with h2 | ⟨⟨h2, h3⟩, h4⟩
  · exact ⟨fun _ _ _ => h2, fun _ _ _ => h2, fun _ _ => h2, fun _ _ => h2⟩
  · refine ⟨fun t ha hb => ?_, fun t ha hb => ?_, fun ha hb => ?_, fun ha hb => ?_⟩
    · rw [ha] at h2; simp [hasDst, hb] at h2
    · rw [ha] at h3; simp [hasDst, hb] at h3
    · simp [ha, hb] at h4
    · simp [ha, hb] at h4

/-- What a slot that the next operation looks at holds. -/
theorem Inv.operand {listed : Array Bool} {a : Act} {w : World} {ρ : Rho} {e : Nat} (I : Inv P ops F H V ρ0 w0 listed a w ρ e) (hl : Lex P call ops M F H V) {i : Nat} {o : Oper} (ho : ops[i]? = some o) (hn : ¬ Li listed i)
    (hpre : ∀ ed ∈ o.after, binds ed = true → Li listed ed.on) {t : Tmp} (ht : t ∈ o.looksAt ops) {v : AV} (hv : (F i).get t = some v) : ∃ c, a.tmps[t]? = some c ∧ conc (res ρ (max (H i).next (H e).next)) v = some c := by
  have hi := (Array.getElem?_eq_some_iff.1 ho).1
  have hb := fun k hk hbit => Closed.bits hl.text I.closed (fun _ h => I.lt h) i o ho hpre k hk hbit
  rcases hl.fget i (by omega) t with ⟨j, oj, hj, hoj, hd, hg⟩ | ⟨hnone, hg⟩
  · have hjl : Li listed j := hb j hj ((meets (ht := hl.text) ho hoj hj).2.1 t hd ht)
    rw [hg] at hv
    simp only [Option.some.injEq] at hv
    subst hv
    rcases I.slot t with ⟨j', o', c, h1, h2, h3, h4, h5⟩ | ⟨h1, _⟩
    · have : j' = j := by
        rcases Nat.lt_trichotomy j' j with h | h | h
        · exact ((meets (ht := hl.text) hoj h2 h).1 t h3 hd).elim
        · exact h
        · exact ((meets (ht := hl.text) h2 hoj h).1 t hd h3).elim
      subst this
      refine ⟨c, h4, conc_mono (res_ext ?_) _ _ h5⟩
      have := hl.nx (j' + 1) i (by omega) (by omega)
      omega
    · exact absurd hd (h1 j oj hjl hoj)
  · rcases I.slot t with ⟨j', o', c, h1, h2, h3, h4, h5⟩ | ⟨_, h2⟩
    · exfalso
      have hji : j' ≠ i := fun h => hn (h ▸ h1)
      rcases Nat.lt_or_ge j' i with h | h
      · exact hnone j' o' h h2 h3
      · have hlt : i < j' := by omega
        have hbit := (meets (ht := hl.text) h2 ho hlt).2.2.1 t h3 ht
        exact hn (Closed.bits hl.text I.closed (fun _ h => I.lt h) j' o' h2 (fun ed he hbe => I.closed j' o' h2 h1 ed he hbe) i hlt hbit)
    · rw [hg] at hv
      obtain ⟨c, h3, h4⟩ := h2 v hv
      exact ⟨c, h3, conc_mono (res_ext (by omega)) _ _ h4⟩

/-- The operands that an operation looks at, and no others. -/
def evAt (ops : Array Oper) (fr : AFrame) (g : Nat) (o : Oper) (x : Operand) : Option AV :=
  match x with
  | .tmp t => if t ∈ o.looksAt ops then fr.get t else none
  | x => aeval fr g x
theorem evAt_eq {fr : AFrame} {g : Nat} {o : Oper} : ∀ x ∈ o.op.operands, aeval fr g x = evAt ops fr g o x := by
  intro x hx
  cases x with
  | tmp t =>
    have : t ∈ o.looksAt ops := by
      unfold Oper.looksAt
      exact List.mem_append_left _ (List.mem_filterMap.2 ⟨.tmp t, by simpa using hx, rfl⟩)
    simp [evAt, aeval, this]
  | _ => rfl
theorem Inv.evRel {listed : Array Bool} {a : Act} {w : World} {ρ : Rho} {e : Nat} (I : Inv P ops F H V ρ0 w0 listed a w ρ e) (hl : Lex P call ops M F H V) {i : Nat} {o : Oper} (ho : ops[i]? = some o) (hn : ¬ Li listed i)
    (hpre : ∀ ed ∈ o.after, binds ed = true → Li listed ed.on) : EvRel (res ρ (max (H i).next (H e).next)) (evAt ops (F i) (H i).glob o) a.eval := by
  have hi := (Array.getElem?_eq_some_iff.1 ho).1
  intro x v hv
  cases x with
  | tmp t =>
    simp only [evAt] at hv
    split at hv
    · rename_i ht
      obtain ⟨c, h1, h2⟩ := I.operand hl ho hn hpre ht hv
      rw [h2]; simp [Act.eval, h1]
    · cases hv
  | const u => exact conc_ofValue hv
  | global g =>
    simp only [evAt, aeval] at hv
    cases hb : Nat.blt g (H i).glob with
    | false => simp [hb] at hv
    | true =>
      simp [hb] at hv
      subst hv
      have hlt := blt_true.1 hb
      rw [hl.gb i (by omega), ← hl.gb e I.ele] at hlt
      obtain ⟨en, he⟩ := I.step.sim.glob g hlt
      have he2 := res_ext (ρ := ρ) (show (H e).next ≤ max (H i).next (H e).next by omega) _ _ he
      simp [conc, he2, Act.eval]
  | func f => simp only [evAt, aeval, Option.some.injEq] at hv; subst hv; simp [conc, concs, Act.eval]
theorem Inv.wanted {listed : Array Bool} {a : Act} {w : World} {ρ : Rho} {e : Nat} (I : Inv P ops F H V ρ0 w0 listed a w ρ e) (hl : Lex P call ops M F H V) {i : Nat} {o : Oper} (ho : ops[i]? = some o) (hn : ¬ Li listed i)
    (hpre : ∀ ed ∈ o.after, binds ed = true → Li listed ed.on) {b : Bool} (hb : awanted ops (F i) o = some b) : Region.wanted o (yielded ops a.tmps) = b := by
  unfold awanted at hb
  unfold Region.wanted
  cases hg : o.guard with
  | none => simp [hg] at hb; simp [hb]
  | some jw =>
    obtain ⟨j, want⟩ := jw
    simp only [hg] at hb
    cases hd : (ops[j]?).bind (·.dst) with
    | none => simp [hd] at hb
    | some d =>
      simp only [hd] at hb
      cases hv : (F i).get d with
      | none => simp [hv] at hb
      | some v =>
        have hlook : d ∈ o.looksAt ops := by
          unfold Oper.looksAt
          refine List.mem_append_right _ ?_
          simp [hg, hd]
        obtain ⟨c, h1, h2⟩ := I.operand hl ho hn hpre hlook hv
        cases v <;> simp [hv] at hb
        · subst hb
          rw [conc_bool h2] at h1
          simp [yielded, hd, h1]
        · subst hb
          obtain ⟨x, _, rfl⟩ := conc_tuple h2
          simp [yielded, hd, h1]

/-- The slots behind an operation. -/
theorem slots_put {listed : Array Bool} {a : Act} {w : World} {ρ ρ' : Rho} {e e' : Nat} (I : Inv P ops F H V ρ0 w0 listed a w ρ e) (hl : Lex P call ops M F H V) {i : Nat} {o : Oper} (ho : ops[i]? = some o) {c : Value}
    (hext : Ext ρ ρ') (hee : (H e).next ≤ (H e').next) (hc : conc (res ρ' (max (H (i + 1)).next (H e').next)) (V i) = some c) :
    ∀ t, (∃ j o c', Li (listed.setIfInBounds i true) j ∧ ops[j]? = some o ∧ o.dst = some t ∧ (a.put (ops[i]?.bind (·.dst)) c).tmps[t]? = some c' ∧ conc (res ρ' (max (H (j + 1)).next (H e').next)) (V j) = some c') ∨
      ((∀ j o, Li (listed.setIfInBounds i true) j → ops[j]? = some o → o.dst ≠ some t) ∧ ∀ v, (F 0).get t = some v → ∃ c', (a.put (ops[i]?.bind (·.dst)) c).tmps[t]? = some c' ∧ conc (res ρ' (H e').next) v = some c') := by
  have hi := (Array.getElem?_eq_some_iff.1 ho).1
  have hset : ∀ j, Li listed j → Li (listed.setIfInBounds i true) j := fun j hj => by
    unfold Li at *
    by_cases h : i = j
    · subst h; rw [Array.getElem?_setIfInBounds_self_of_lt (by rw [I.lsz]; exact hi)]
    · rw [Array.getElem?_setIfInBounds_ne h]; exact hj
  have hseti : Li (listed.setIfInBounds i true) i := by unfold Li; rw [Array.getElem?_setIfInBounds_self_of_lt (by rw [I.lsz]; exact hi)]
  have hback : ∀ j, Li (listed.setIfInBounds i true) j → j = i ∨ Li listed j := fun j hj => by
    by_cases h : i = j
    · exact .inl h.symm
    · unfold Li at hj; rw [Array.getElem?_setIfInBounds_ne h] at hj; exact .inr hj
  intro t
  simp only [ho, Option.bind_some]
  by_cases hd : o.dst = some t
  · refine .inl ⟨i, o, c, hseti, ho, hd, ?_, hc⟩
    rw [hd]
    simp only [Act.put]
    have hp := (hl.at_ i o ho).put
    rw [hd] at hp
    rw [Array.getElem?_setIfInBounds_self_of_lt]
    rw [I.asz, ← hl.fn i (by omega)]
    exact (AFrame.put_lt hp).1
  · have hsame : (a.put o.dst c).tmps[t]? = a.tmps[t]? := by
      cases hdd : o.dst with
      | none => rfl
      | some d => simp only [Act.put]; exact Array.getElem?_setIfInBounds_ne (fun h => hd (by rw [hdd, h]))
    rw [hsame]
    rcases I.slot t with ⟨j, oj, c', h1, h2, h3, h4, h5⟩ | ⟨h1, h2⟩
    · exact .inl ⟨j, oj, c', hset j h1, h2, h3, h4, conc_mono ((res_mono hext _).trans (res_ext (by omega))) _ _ h5⟩
    · refine .inr ⟨fun j oj hj hoj hdj => ?_, fun v hv => ?_⟩
      · rcases hback j hj with rfl | hj
        · rw [ho] at hoj; cases hoj; exact hd hdj
        · exact h1 j oj hj hoj hdj
      · obtain ⟨c', h3, h4⟩ := h2 v hv
        exact ⟨c', h3, conc_mono ((res_mono hext _).trans (res_ext hee)) _ _ h4⟩

end

end Go.Eng
