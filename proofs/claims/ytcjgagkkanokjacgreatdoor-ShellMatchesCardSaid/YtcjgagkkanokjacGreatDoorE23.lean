/- The engine, part 23: what code does not write stays; loops with what stays; paths into code. -/
import Derived.Test.YtcjgagkkanokjacGreatDoorE21
namespace Go.Eng
attribute [local semireducible] AW OW SW EW CW Ca kop optP
def dsts : List Oper → List Nat
  | [] => []
  | o :: r => match o.dst with | some d => d :: dsts r | none => dsts r
def wrs : Code → List Nat
  | .region _ ops _ => dsts ops.toList
  | .seq a b => wrs a ++ wrs b
  | .cond _ a b => wrs a ++ wrs b
  | .block _ c => wrs c
  | .loop c => wrs c
  | _ => []
/-- What is not written stays. -/
def Fr (W : List Nat) (fr fr' : AFrame) : Prop := fr'.n = fr.n ∧ ∀ i, W.contains i = false → fr'.get i = fr.get i
theorem Fr.refl (W : List Nat) (fr : AFrame) : Fr W fr fr := ⟨rfl, fun _ _ => rfl⟩
theorem Fr.trans {W : List Nat} {a b c : AFrame} (x : Fr W a b) (y : Fr W b c) : Fr W a c := ⟨y.1.trans x.1, fun i hi => (y.2 i hi).trans (x.2 i hi)⟩
theorem Fr.mono {W V : List Nat} {a b : AFrame} (x : Fr W a b) (h : ∀ i, V.contains i = false → W.contains i = false) : Fr V a b := ⟨x.1, fun i hi => x.2 i (h i hi)⟩
theorem Fr.left {W V : List Nat} {a b : AFrame} (x : Fr W a b) : Fr (W ++ V) a b := x.mono fun i hi => by
  simp only [List.contains_eq_mem, List.mem_append, decide_eq_false_iff_not] at *; exact fun h => hi (.inl h)
theorem Fr.right {W V : List Nat} {a b : AFrame} (x : Fr V a b) : Fr (W ++ V) a b := x.mono fun i hi => by
  simp only [List.contains_eq_mem, List.mem_append, decide_eq_false_iff_not] at *; exact fun h => hi (.inr h)
theorem Fr.put {fr fr' : AFrame} {o : Oper} {r : List Oper} {v : AV} (h : fr.put o.dst v = some fr') : Fr (dsts (o :: r)) fr fr' := by
  simp only [dsts]
  cases hd : o.dst with
  | none => rw [hd] at h; simp only [AFrame.put, Option.some.injEq] at h; subst h; exact Fr.refl _ _
  | some d =>
    rw [hd] at h
    refine ⟨(AFrame.put_lt h).2, fun i hi => ?_⟩
    rw [AFrame.get_put h, if_neg]
    intro e
    subst e
    simp at hi
theorem Fr.tail {fr fr' : AFrame} {o : Oper} {r : List Oper} (h : Fr (dsts r) fr fr') : Fr (dsts (o :: r)) fr fr' := h.mono fun i hi => by
  simp only [dsts] at hi
  split at hi
  · simp only [List.contains_cons, Bool.or_eq_false_iff] at hi; exact hi.2
  · exact hi

section
variable {P : Program} [Orc] {call : CallFn}
omit [Orc] in
theorem aops_fr {ops : Array Oper} : ∀ (l : List Oper) (fr fr' : AFrame) (h h' : AHeap), aops P call ops l fr h = some (fr', h') → Fr (dsts l) fr fr'
  | [], fr, fr', h, h', ho => by simp only [aops, Option.some.injEq, Prod.mk.injEq] at ho; rw [← ho.1]; exact Fr.refl _ _
  | o :: l, fr, fr', h, h', ho => by
    simp only [aops] at ho
    split at ho
    · split at ho
      · rename_i fr1 hp
        exact (Fr.put hp).trans (aops_fr l _ fr' _ h' ho).tail
      · cases ho
    · cases ho
omit [Orc] in
theorem adops_fr {ops : Array Oper} : ∀ (l : List Oper) (fr fr' : AFrame) (h h' : AHeap) (tr : List Rec), adops P call ops l fr h = some (tr, fr', h') → Fr (dsts l) fr fr'
  | [], fr, fr', h, h', tr, ho => by simp only [adops, Option.some.injEq, Prod.mk.injEq] at ho; rw [← ho.2.1]; exact Fr.refl _ _
  | o :: l, fr, fr', h, h', tr, ho => by
    simp only [adops] at ho
    split at ho
    · split at ho
      · rename_i fr1 hp
        split at ho
        · split at ho
          · rename_i hr
            cases ho
            exact (Fr.put hp).trans (adops_fr l _ _ _ _ _ hr).tail
          · cases ho
        · cases ho
      · cases ho
    · cases ho
omit [Orc] in
theorem dsts_mem : ∀ (l : List Oper) (i : Nat), i ∈ dsts l ↔ ∃ o ∈ l, o.dst = some i
  | [], i => by simp [dsts]
  | o :: r, i => by
    simp only [dsts]
    split
    · rename_i d hd; simp only [List.mem_cons, dsts_mem r i]
      constructor
      · rintro (h | ⟨o', h1, h2⟩)
        · exact ⟨o, .inl rfl, by rw [hd, h]⟩
        · exact ⟨o', .inr h1, h2⟩
      · rintro ⟨o', rfl | h1, h2⟩
        · rw [hd] at h2; exact .inl (Option.some.inj h2).symm
        · exact .inr ⟨o', h1, h2⟩
    · rename_i hd; simp only [List.mem_cons, dsts_mem r i]
      constructor
      · rintro ⟨o', h1, h2⟩; exact ⟨o', .inr h1, h2⟩
      · rintro ⟨o', rfl | h1, h2⟩
        · rw [hd] at h2; cases h2
        · exact ⟨o', h1, h2⟩
omit [Orc] in
theorem permL_mem (l : List Oper) (π : Nat → Nat) : ∀ (σ : List Nat), ∀ o ∈ permL l π σ, ∃ o' ∈ l, o.dst = o'.dst
  | [], o, h => by simp [permL] at h
  | i :: r, o, h => by
    simp only [permL] at h
    split at h
    · rename_i o' ho
      rcases List.mem_cons.1 h with h | h
      · rw [nthO_eq] at ho
        exact ⟨o', List.mem_of_getElem? ho, by rw [h]; rfl⟩
      · exact permL_mem l π r o h
    · exact permL_mem l π r o h
omit [Orc] in
theorem adraw_fr {ops : Array Oper} {fr fr' : AFrame} {h h' : AHeap} (hr : adraw P call ops fr h = some (fr', h')) : Fr (dsts ops.toList) fr fr' := by
  have hE : Fr (dsts (effOps ops).toList) fr fr' := by
    simp only [adraw, adrawE] at hr
    split at hr
    · split at hr
      · rename_i ha
        split at hr
        · cases hr; exact adops_fr _ _ _ _ _ _ ha
        · cases hr
      · cases hr
    · cases hr
  refine hE.mono fun i hi => ?_
  simp only [List.contains_eq_mem, decide_eq_false_iff_not] at hi ⊢
  intro hm
  apply hi
  unfold effOps at hm
  split at hm
  · exact hm
  · split at hm
    · obtain ⟨o, h1, h2⟩ := (dsts_mem _ i).1 hm
      obtain ⟨o', h3, h4⟩ := permL_mem ops.toList _ _ o (by simpa [permOps] using h1)
      exact (dsts_mem _ i).2 ⟨o', h3, by rw [← h4]; exact h2⟩
    · exact hm
omit [Orc] in
theorem aiter_fr {W : List Nat} {b : AFrame → AHeap → Option ASt} (hb : ∀ fr h e fr' h', b fr h = some (e, fr', h') → Fr W fr fr') : ∀ (n : Nat) fr h e fr' h', aiter b n fr h = some (e, fr', h') → Fr W fr fr'
  | 0, _, _, _, _, _, ho => by simp [aiter] at ho
  | n + 1, fr, h, e, fr', h', ho => by
    simp only [aiter] at ho
    split at ho
    · rename_i fr1 h1 hx; exact (hb _ _ _ _ _ hx).trans (aiter_fr hb n fr1 h1 e fr' h' ho)
    · rename_i id fr1 h1 hx; cases ho; exact hb _ _ _ _ _ hx
    · rename_i fr1 h1 hx; cases ho; exact hb _ _ _ _ _ hx
    · cases ho
omit [Orc] in
theorem aexec_fr {n : Nat} : ∀ (c : Code) fr h e fr' h', aexec P call n c fr h = some (e, fr', h') → Fr (wrs c) fr fr' := by
  intro c
  induction c with
  | region id ops draw =>
    intro fr h e fr' h' ho
    simp only [aexec] at ho
    split at ho
    · rename_i fr1 h1 hr
      cases ho
      cases draw with
      | true =>
        rw [if_pos rfl] at hr
        exact adraw_fr hr
      | false => simp only [Bool.false_eq_true, if_false] at hr; exact aops_fr _ _ _ _ _ hr
    · cases ho
  | seq x y ihx ihy =>
    intro fr h e fr' h' ho
    simp only [aexec] at ho
    split at ho
    · rename_i fr1 h1 hx; exact (ihx _ _ _ _ _ hx).left.trans (ihy _ _ _ _ _ ho).right
    · rename_i id fr1 h1 hx; cases ho; exact (ihx _ _ _ _ _ hx).left
    · rename_i fr1 h1 hx; cases ho; exact (ihx _ _ _ _ _ hx).left
    · cases ho
  | cond c x y ihx ihy =>
    intro fr h e fr' h' ho
    simp only [aexec] at ho
    split at ho
    · split at ho
      · exact (ihx _ _ _ _ _ ho).left
      · exact (ihy _ _ _ _ _ ho).right
    · cases ho
  | block id c ih =>
    intro fr h e fr' h' ho
    simp only [aexec] at ho
    split at ho
    · rename_i fr1 h1 hx; cases ho; exact ih _ _ _ _ _ hx
    · rename_i id' fr1 h1 hx
      split at ho <;> (cases ho; exact ih _ _ _ _ _ hx)
    · rename_i fr1 h1 hx; cases ho; exact ih _ _ _ _ _ hx
    · cases ho
  | loop c ih =>
    intro fr h e fr' h' ho
    simp only [aexec] at ho
    exact aiter_fr (fun fr h e fr' h' => ih fr h e fr' h') n fr h e fr' h' ho
  | skip => intro fr h e fr' h' ho; simp only [aexec, Option.some.injEq, Prod.mk.injEq] at ho; rw [← ho.2.1]; exact Fr.refl _ _
  | label l => intro fr h e fr' h' ho; simp only [aexec, Option.some.injEq, Prod.mk.injEq] at ho; rw [← ho.2.1]; exact Fr.refl _ _
  | exit l => intro fr h e fr' h' ho; simp only [aexec, Option.some.injEq, Prod.mk.injEq] at ho; rw [← ho.2.1]; exact Fr.refl _ _
  | ret => intro fr h e fr' h' ho; simp only [aexec, Option.some.injEq, Prod.mk.injEq] at ho; rw [← ho.2.1]; exact Fr.refl _ _
  | _ => intro fr h e fr' h' ho; simp [aexec] at ho
theorem EW_and {fr : AFrame} {h : AHeap} {op : Op} {K : AV → AHeap → Prop} (hw : EW P fr h op K) : EW P fr h op K := hw
theorem OW_fr {ops : Array Oper} : ∀ (l : List Oper) (fr : AFrame) (h : AHeap) (K : AFrame → AHeap → Prop), OW P ops l fr h K → OW P ops l fr h fun fr' h' => K fr' h' ∧ Fr (dsts l) fr fr'
  | [], fr, h, K, hw => ⟨hw, Fr.refl _ _⟩
  | o :: l, fr, h, K, hw => by
    rw [OW_cons] at hw ⊢
    have next : ∀ v h', kop P ops l fr o.dst K v h' → kop P ops l fr o.dst (fun fr' h' => K fr' h' ∧ Fr (dsts (o :: l)) fr fr') v h' := by
      intro v h' hx
      unfold kop at *
      split at hx
      · exact OW_mono l _ _ _ _ (OW_fr l _ _ _ hx) fun fr' h' hh => ⟨hh.1, hh.2.tail⟩
      · rename_i d hd
        exact ⟨hx.1, OW_mono l _ _ _ _ (OW_fr l _ _ _ hx.2) fun fr' h' hh => ⟨hh.1, (Fr.put (o := o) (v := v) (by rw [hd]; exact AFrame.put_upd v hx.1)).trans hh.2.tail⟩⟩
    unfold SW at *
    split at hw
    · exact EW_mono hw next
    · exact next _ _ hw
    · exact hw
theorem AW_fr : ∀ (c : Code) (fr : AFrame) (h : AHeap) (Q : AEx → AFrame → AHeap → Prop), AW P c fr h Q → AW P c fr h fun e fr' h' => Q e fr' h' ∧ Fr (wrs c) fr fr' := by
  intro c
  induction c with
  | skip => intro fr h Q hw; exact ⟨hw, Fr.refl _ _⟩
  | label l => intro fr h Q hw; exact ⟨hw, Fr.refl _ _⟩
  | exit l => intro fr h Q hw; exact ⟨hw, Fr.refl _ _⟩
  | ret => intro fr h Q hw; exact ⟨hw, Fr.refl _ _⟩
  | region id ops draw =>
    intro fr h Q hw
    cases draw with
    | false => exact OW_fr _ _ _ _ hw
    | true =>
      obtain ⟨n, fr', h', h1, h2⟩ := hw
      exact ⟨n, fr', h', h1, h2, adraw_fr h1⟩
  | seq x y ihx ihy =>
    intro fr h Q hw
    rw [AW_seq] at hw ⊢
    refine AW_mono _ _ _ _ _ (ihx _ _ _ hw) fun e fr1 h1 hk => ?_
    obtain ⟨hk, hf⟩ := hk
    cases e with
    | normal =>
      rw [kseq_normal] at hk ⊢
      exact AW_mono _ _ _ _ _ (ihy _ _ _ hk) fun e fr2 h2 hk2 => ⟨hk2.1, hf.left.trans hk2.2.right⟩
    | exit id => rw [kseq_exit] at hk ⊢; exact ⟨hk, hf.left⟩
    | ret => rw [kseq_ret] at hk ⊢; exact ⟨hk, hf.left⟩
  | cond c x y ihx ihy =>
    intro fr h Q hw
    unfold AW at hw ⊢
    split at hw
    · split at hw
      · exact AW_mono _ _ _ _ _ (ihx _ _ _ hw) fun e fr1 h1 hk => ⟨hk.1, hk.2.left⟩
      · exact AW_mono _ _ _ _ _ (ihy _ _ _ hw) fun e fr1 h1 hk => ⟨hk.1, hk.2.right⟩
    · exact hw
  | block id c ih =>
    intro fr h Q hw
    rw [AW_block] at hw ⊢
    refine AW_mono _ _ _ _ _ (ih _ _ _ hw) fun e fr1 h1 hk => ?_
    obtain ⟨hk, hf⟩ := hk
    cases e with
    | normal => rw [kblock_normal] at hk ⊢; exact ⟨hk, hf⟩
    | ret => rw [kblock_ret] at hk ⊢; exact ⟨hk, hf⟩
    | exit id' =>
      rw [kblock_exit] at hk ⊢
      split at hk
      · rw [if_pos ‹id' = id›]; exact ⟨hk, hf⟩
      · rw [if_neg ‹¬ id' = id›]; exact ⟨hk, hf⟩
  | loop c ih =>
    intro fr h Q hw
    obtain ⟨n, e, fr', h', h1, h2⟩ := hw
    exact ⟨n, e, fr', h', h1, h2, aexec_fr _ _ _ _ _ _ h1⟩
  | _ => intro fr h Q hw; simp only [AW] at hw
/-- A loop with an invariant of what it writes. -/
theorem AW_loop_fr {c : Code} {fr : AFrame} {h : AHeap} {Q : AEx → AFrame → AHeap → Prop} (I : Nat → AFrame → AHeap → Prop) (k : Nat) (hi : I k fr h)
    (hb : ∀ J : Nat → AFrame → AHeap → Prop, (∀ k fr h, I k fr h → J k fr h) → ∀ k fr' h', I k fr' h' → Fr (wrs c) fr fr' → AW P c fr' h' (kloop J k Q)) : AW P (.loop c) fr h Q := by
  have hb := hb I fun _ _ _ h => h
  refine AW_loop (fun k fr' h' => I k fr' h' ∧ Fr (wrs c) fr fr') k ⟨hi, Fr.refl _ _⟩ fun k fr1 h1 hI => ?_
  refine AW_mono _ _ _ _ _ (AW_fr _ _ _ _ (hb k fr1 h1 hI.1 hI.2)) fun e fr2 h2 hk => ?_
  obtain ⟨hk, hf⟩ := hk
  cases e with
  | normal =>
    rw [kloop_normal] at hk ⊢
    obtain ⟨j, h3, h4⟩ := hk
    exact ⟨j, h3, h4, hI.2.trans hf⟩
  | exit id => rw [kloop_exit] at hk ⊢; exact hk
  | ret => rw [kloop_ret] at hk ⊢; exact hk
theorem AW_cut_x {c : Code} {fr : AFrame} {h : AHeap} {Q : AEx → AFrame → AHeap → Prop} (id : Nat) (R : AFrame → AHeap → Prop) (h1 : AW P c fr h fun e fr h => e = .exit id ∧ R fr h) (h2 : ∀ fr' h', R fr' h' → Fr (wrs c) fr fr' → Q (.exit id) fr' h') : AW P c fr h Q :=
  AW_mono _ _ _ _ _ (AW_fr _ _ _ _ h1) fun e fr h ⟨⟨he, hr⟩, hf⟩ => by subst he; exact h2 fr h hr hf
end

theorem flatten_single {α : Type} : ∀ l : List α, (l.map fun v => [v]).flatten = l
  | [] => rfl
  | a :: l => by simp only [List.map_cons, List.flatten_cons, flatten_single l, List.cons_append, List.nil_append]
theorem Sl.whole {h : AHeap} {b z : Nat} {c : Cap} {ty : TypeId} {cs : List AV} {wr : Option Nat} {n : Nat} (hb : h.get b = .cells ty cs wr) (hl : b < h.next) (hn : cs.length = n) (hk : Cok 1 n c) : Sl h 1 (.sl b 0 z n c) (cs.map fun v => [v]) := by
  refine ⟨by simp, .inr (.inl ⟨b, 0, z, c, ty, cs, wr, by simp [hn], hl, hb, by simp, ?_, by simpa [hn] using hk⟩)⟩
  rw [flatten_single]
  simp
theorem set_same {α : Type} {l : List α} {i : Nat} {v : α} (h : l[i]? = some v) : l.set i v = l := by
  apply List.ext_getElem?
  intro j
  rw [List.getElem?_set]
  by_cases e : i = j
  · subst e
    obtain ⟨hl, _⟩ := List.getElem?_eq_some_iff.1 h
    rw [if_pos rfl, if_pos hl, h]
  · rw [if_neg e]
/-! ### paths into code -/
def cat : Code → List Nat → Code
  | c, [] => c
  | .seq a _, 0 :: p => cat a p
  | .seq _ b, _ :: p => cat b p
  | .cond _ a _, 0 :: p => cat a p
  | .cond _ _ b, _ :: p => cat b p
  | .block _ c, _ :: p => cat c p
  | .loop c, _ :: p => cat c p
  | c, _ => c
def bodyAt (f : Func) (p : List Nat) : Code := match f.body with | some c => cat c p | none => .skip
end Go.Eng
/- The engine, part 24: a closed call, run on nothing, is known on every heap. -/
namespace Go.Eng
def hp0 : AHeap := ⟨0, 0, .nil⟩
theorem hp0_get (b : Nat) : hp0.get b = .dead := by simp [hp0, AHeap.get, T.get_nil]
theorem Sim.empty (w : World) : Sim (fun _ => none) hp0 w :=
  ⟨fun b pl h => (by cases h), fun b hl => (by rw [hp0_get] at hl; cases hl), fun b b' pl pl' hw => (by rw [hp0_get] at hw; cases hw), fun g hg => (by cases hg), Nat.le_refl _⟩
theorem Step.idle {ρ ρ' : Rho} {h h' : AHeap} {w w' : World} (hs : Sim ρ h w) (hst : Step (fun _ => none) hp0 w ρ' h' w') : Step ρ h w ρ h w' := by
  have old : ∀ k, k < w.heap.size → w'.heap[k]? = w.heap[k]? := fun k hk => (hst.keep.old k hk (fun ⟨b, pl, _, h2, _⟩ => by cases h2)).1
  refine ⟨Ext.refl ρ, ⟨hs.rng, fun b hl => ?_, hs.sep, hs.glob, hs.gl⟩, ⟨hst.keep.size, hst.keep.os, hst.keep.tape, hst.keep.output, fun k hk hn => ⟨old k hk, hn⟩, fun _ _ hn => hn⟩, Nat.le_refl _, rfl⟩
  obtain ⟨pl, h1, h2⟩ := hs.obj b hl
  exact ⟨pl, h1, h2.mono (Ext.refl ρ) (old _ (h2.lt hl))⟩
theorem CallOk.none (P : Program) : CallOk P (@Orc.call Orc.none) := fun _ _ _ _ _ _ _ _ h => by cases h
/-- A call of a function without arguments that answers with one value free of places. -/
theorem calls_closed {P : Program} (hP : POk P) {f : FuncId} {n : Nat} {r : AV} {h1 : AHeap} (hrun : @acall P Orc.none n f [] hp0 = some (r, h1)) (hc : ∀ ρ ρ' : Rho, conc ρ r = conc ρ' r) {ρ : Rho} {h : AHeap} {w : World} (hs : Sim ρ h w) :
    Calls P f #[] w fun e w' => ∃ c ρ', e = .returned c ∧ conc ρ' r = some c ∧ Step ρ h w ρ' h w' := by
  have := @acall_sound P Orc.none hP (CallOk.none P) n f [] hp0 r h1 (fun _ => Option.none) w [] hrun (Sim.empty w) rfl
  refine this.mono ?_
  rintro e w' ⟨c, ρ', rfl, hcv, hst⟩
  exact ⟨c, ρ, rfl, by rw [hc ρ ρ']; exact hcv, Step.idle hs hst⟩
end Go.Eng
