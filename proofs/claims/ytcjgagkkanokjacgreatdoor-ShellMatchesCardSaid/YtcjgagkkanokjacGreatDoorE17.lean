/- The engine, part 17: more rounds give the same; blocks are only added; regions that draw and whose loads lie in order. -/
import Derived.Test.YtcjgagkkanokjacGreatDoorE15
namespace Go.Eng

/-! ### more rounds -/
def CallLe (c c' : CallFn) : Prop := ∀ f args h r, c f args h = some r → c' f args h = some r
theorem CallLe.refl (c : CallFn) : CallLe c c := fun _ _ _ _ h => h

section
variable {P : Program} {call call' : CallFn}
theorem peff_mono (hc : CallLe call call') {h : AHeap} {ev : Operand → Option AV} {op : Op} {r : AV × AHeap} (ho : peff P call h ev op = some r) : peff P call' h ev op = some r := by
  cases op <;> simp only [peff] at ho ⊢ <;> try exact ho
  case call c =>
    cases hcl : c.callee with
    | builtin b => simp only [hcl] at ho ⊢; exact ho
    | invoke a b =>
      simp only [hcl] at ho ⊢
      split at ho
      · split at ho
        · rename_i f hm
          cases hb : hasBody P f with
          | false => simp [hb] at ho
          | true => simp only [hb, cond_true] at ho ⊢; exact hc _ _ _ _ ho
        · cases ho
      · cases ho
    | value f =>
      simp only [hcl] at ho ⊢
      split at ho
      · rename_i g cap l hf hl
        cases hb : hasBody P g with
        | false => simp only [hb, cond_false] at ho ⊢; exact ho
        | true => simp only [hb, cond_true] at ho ⊢; exact hc _ _ _ _ ho
      · cases ho
  case makeMap t r => cases r <;> exact ho
theorem aop_mono (hc : CallLe call call') {h : AHeap} {ev : Operand → Option AV} {op : Op} {r : AV × AHeap} (ho : aop P call h ev op = some r) : aop P call' h ev op = some r := by
  unfold aop at *
  split at ho
  · exact ho
  · exact ho
  · exact ho
  · exact peff_mono hc ho
theorem astep_mono (hc : CallLe call call') {ops : Array Oper} {fr : AFrame} {h : AHeap} {o : Oper} {r : AV × AHeap} (ho : astep P call ops fr h o = some r) : astep P call' ops fr h o = some r := by
  unfold astep at *
  split at ho
  · exact aop_mono hc ho
  · exact ho
  · cases ho
theorem aops_mono (hc : CallLe call call') {ops : Array Oper} : ∀ (l : List Oper) (fr : AFrame) (h : AHeap) (r : AFrame × AHeap), aops P call ops l fr h = some r → aops P call' ops l fr h = some r
  | [], _, _, _, ho => ho
  | o :: l, fr, h, r, ho => by
    simp only [aops] at ho ⊢
    split at ho
    · rename_i v h1 hs
      rw [astep_mono hc hs]
      simp only
      split at ho
      · rename_i fr1 hp
        exact aops_mono hc l fr1 h1 r ho
      · cases ho
    · cases ho
theorem adops_mono (hc : CallLe call call') {ops : Array Oper} : ∀ (l : List Oper) (fr : AFrame) (h : AHeap) (r : List Rec × AFrame × AHeap), adops P call ops l fr h = some r → adops P call' ops l fr h = some r
  | [], _, _, _, ho => ho
  | o :: l, fr, h, r, ho => by
    simp only [adops] at ho ⊢
    split at ho
    · rename_i v h1 hs
      rw [astep_mono hc hs]
      simp only
      split at ho
      · rename_i fr1 hp
        split at ho
        · rename_i hn
          split at ho
          · rename_i tr fr2 h2 hr
            rw [if_pos hn, adops_mono hc l fr1 h1 _ hr]
            exact ho
          · cases ho
        · cases ho
      · cases ho
    · cases ho
theorem adrawE_mono (hc : CallLe call call') {ops : Array Oper} {fr : AFrame} {h : AHeap} {r : AFrame × AHeap} (ho : adrawE P call ops fr h = some r) : adrawE P call' ops fr h = some r := by
  unfold adrawE at *
  split at ho
  · rename_i hd
    rw [if_pos hd]
    split at ho
    · rename_i tr fr1 h1 hr
      rw [adops_mono hc _ _ _ _ hr]
      exact ho
    · cases ho
  · cases ho
theorem adraw_mono (hc : CallLe call call') {ops : Array Oper} {fr : AFrame} {h : AHeap} {r : AFrame × AHeap} (ho : adraw P call ops fr h = some r) : adraw P call' ops fr h = some r := adrawE_mono hc ho
theorem aiter_mono {b b' : AFrame → AHeap → Option ASt} (hb : ∀ fr h r, b fr h = some r → b' fr h = some r) : ∀ (n m : Nat), n ≤ m → ∀ fr h r, aiter b n fr h = some r → aiter b' m fr h = some r
  | 0, _, _, _, _, _, ho => by simp [aiter] at ho
  | n + 1, 0, hm, _, _, _, _ => by omega
  | n + 1, m + 1, hm, fr, h, r, ho => by
    simp only [aiter] at ho ⊢
    cases hx : b fr h with
    | none => simp [hx] at ho
    | some x =>
      rw [hb _ _ _ hx]
      obtain ⟨e, fr1, h1⟩ := x
      cases e with
      | normal => simp only [hx] at ho ⊢; exact aiter_mono hb n m (by omega) fr1 h1 r ho
      | exit id => simp only [hx] at ho ⊢; exact ho
      | ret => simp only [hx] at ho ⊢; exact ho
theorem aexec_mono (hc : CallLe call call') {n m : Nat} (hm : n ≤ m) : ∀ (c : Code) (fr : AFrame) (h : AHeap) (r : ASt), aexec P call n c fr h = some r → aexec P call' m c fr h = some r := by
  intro c
  induction c with
  | region id ops draw =>
    intro fr h r ho
    simp only [aexec] at ho ⊢
    cases draw with
    | true =>
      simp only [if_true] at ho ⊢
      split at ho
      · rename_i fr1 h1 hr
        rw [adraw_mono hc hr]; exact ho
      · cases ho
    | false =>
      simp only [Bool.false_eq_true, if_false] at ho ⊢
      split at ho
      · rename_i fr1 h1 hr
        rw [aops_mono hc _ _ _ _ hr]; exact ho
      · cases ho
  | seq x y ihx ihy =>
    intro fr h r ho
    simp only [aexec] at ho ⊢
    cases hx : aexec P call n x fr h with
    | none => simp [hx] at ho
    | some s =>
      rw [ihx _ _ _ hx]
      obtain ⟨e, fr1, h1⟩ := s
      cases e with
      | normal => simp only [hx] at ho ⊢; exact ihy _ _ _ ho
      | exit id => simp only [hx] at ho ⊢; exact ho
      | ret => simp only [hx] at ho ⊢; exact ho
  | cond c x y ihx ihy =>
    intro fr h r ho
    simp only [aexec] at ho ⊢
    split at ho
    · rename_i b hcb
      split at ho
      · exact ihx _ _ _ ho
      · exact ihy _ _ _ ho
    · cases ho
  | block id c ih =>
    intro fr h r ho
    simp only [aexec] at ho ⊢
    cases hx : aexec P call n c fr h with
    | none => simp [hx] at ho
    | some s =>
      rw [ih _ _ _ hx]
      obtain ⟨e, fr1, h1⟩ := s
      cases e with
      | normal => simp only [hx] at ho ⊢; exact ho
      | exit id => simp only [hx] at ho ⊢; exact ho
      | ret => simp only [hx] at ho ⊢; exact ho
  | loop c ih =>
    intro fr h r ho
    simp only [aexec] at ho ⊢
    exact aiter_mono (fun fr h r => ih fr h r) n m hm fr h r ho
  | _ => intro fr h r ho; simp only [aexec] at ho ⊢; first | exact ho | cases ho
theorem abody_mono (hc : CallLe call call') {n m : Nat} (hm : n ≤ m) {f : FuncId} {args : List AV} {h : AHeap} {r : AV × AHeap} (ho : abody P call n f args h = some r) : abody P call' m f args h = some r := by
  rw [abody] at ho ⊢
  split at ho
  · split at ho
    · split at ho
      · rename_i fr h1 hx
        rw [aexec_mono hc hm _ _ _ _ hx]; exact ho
      · rename_i fr h1 hx
        rw [aexec_mono hc hm _ _ _ _ hx]; exact ho
      · cases ho
    · cases ho
  · cases ho
theorem acall_succ [Orc] (n : Nat) : CallLe (acall P n) (acall P (n + 1)) := by
  induction n with
  | zero =>
    intro f args h r ho
    simp only [acall] at ho ⊢
    rw [ho]
  | succ n ih =>
    intro f args h r ho
    rw [acall] at ho ⊢
    cases hor : Orc.call f args h with
    | some x => simp only [hor] at ho ⊢; exact ho
    | none =>
      simp only [hor] at ho ⊢
      exact abody_mono ih (Nat.le_succ n) ho
theorem acall_mono [Orc] {n m : Nat} (hm : n ≤ m) : CallLe (acall P n) (acall P m) := by
  induction m with
  | zero => have : n = 0 := by omega
            subst this; exact CallLe.refl _
  | succ m ih =>
    by_cases e : n = m + 1
    · subst e; exact CallLe.refl _
    · exact fun f args h r ho => acall_succ m f args h r (ih (by omega) f args h r ho)
end

/-! ### blocks are only added -/
def Nx (h h' : AHeap) : Prop := h.next ≤ h'.next ∧ h'.glob = h.glob
theorem Nx.refl (h : AHeap) : Nx h h := ⟨Nat.le_refl _, rfl⟩
theorem Nx.trans {a b c : AHeap} (h : Nx a b) (k : Nx b c) : Nx a c := ⟨Nat.le_trans h.1 k.1, k.2.trans h.2⟩
theorem Nx.set (h : AHeap) (b : Nat) (o : AObj) : Nx h (h.set b o) := ⟨Nat.le_refl _, rfl⟩
theorem Nx.new (h : AHeap) (o : AObj) : Nx h (h.new o) := ⟨by simp, rfl⟩
def CallNx (call : CallFn) : Prop := ∀ f args h r h', call f args h = some (r, h') → Nx h h'

section
variable {P : Program} {call : CallFn}
theorem agrow_nx {h h' : AHeap} {e size bytes zl g : Nat} {all : List AV} {need : Nat} {v : AV} (ho : agrow h e size bytes zl g all need = some (v, h')) : Nx h h' := by
  unfold agrow at ho
  split at ho
  · cases ho; exact Nx.new _ _
  · cases ho
theorem aappend_nx {h h' : AHeap} {ts : List TypeId} {args : List AV} {v : AV} (ho : aappend P h ts args = some (v, h')) : Nx h h' := by
  unfold aappend at ho
  repeat' split at ho
  all_goals first
    | (cases ho; done)
    | exact agrow_nx ho
    | (cases ho; first | exact Nx.refl _ | exact Nx.set _ _ _ | exact (Nx.set _ _ _).trans (Nx.new _ _))
theorem acopy_nx {h h' : AHeap} {ts : List TypeId} {args : List AV} {v : AV} (ho : acopy P h ts args = some (v, h')) : Nx h h' := by
  unfold acopy at ho
  repeat' split at ho
  all_goals first
    | (cases ho; done)
    | (cases ho; first | exact Nx.refl _ | exact Nx.set _ _ _)
theorem aclear_nx {h h' : AHeap} {ts : List TypeId} {args : List AV} {v : AV} (ho : aclear P h ts args = some (v, h')) : Nx h h' := by
  unfold aclear at ho
  repeat' split at ho
  all_goals first
    | (cases ho; done)
    | (cases ho; first | exact Nx.refl _ | exact Nx.set _ _ _)
theorem astore_nx {h h' : AHeap} {t : TypeId} {p v : AV} (ho : astore P h t p v = some h') : Nx h h' := by
  unfold astore at ho
  repeat' split at ho
  all_goals first
    | (cases ho; done)
    | (cases ho; exact Nx.set _ _ _)
theorem aupdate_nx {h h' : AHeap} {t : TypeId} {x k v : AV} (ho : aupdate P h t x k v = some h') : Nx h h' := by
  unfold aupdate at ho
  repeat' split at ho
  all_goals first
    | (cases ho; done)
    | (cases ho; exact Nx.set _ _ _)
theorem arange_nx {h h' : AHeap} {t : TypeId} {x v : AV} (ho : arange P h t x = some (v, h')) : Nx h h' := by
  unfold arange at ho
  split at ho
  · cases ho; exact Nx.new _ _
  · cases ho
theorem anext_nx {h h' : AHeap} {x v : AV} {b : Bool} (ho : anext h x b = some (v, h')) : Nx h h' := by
  unfold anext at ho
  repeat' split at ho
  all_goals first
    | (cases ho; done)
    | (cases ho; first | exact Nx.refl _ | exact Nx.set _ _ _)
theorem aconv_nx {h h' : AHeap} {s d : TypeId} {x v : AV} (ho : aconv P h s d x = some (v, h')) : Nx h h' := by
  unfold aconv at ho
  repeat' split at ho
  all_goals first
    | (cases ho; done)
    | (cases ho; first | exact Nx.refl _ | exact Nx.new _ _)
theorem austring_nx {h h' : AHeap} {ts : List TypeId} {p n v : AV} (ho : austring P h ts p n = some (v, h')) : Nx h h' := by
  unfold austring at ho
  repeat' split at ho
  all_goals first
    | (cases ho; done)
    | (cases ho; first | exact Nx.refl _ | exact Nx.set _ _ _)
theorem aext_nx {f : FuncId} {args : List AV} {h h' : AHeap} {v : AV} (ho : aext f args h = some (v, h')) : Nx h h' := by
  unfold aext at ho
  split at ho
  · cases h1 : Nat.beq f 47 with
    | true => simp [h1] at ho; rw [ho.2]; exact Nx.refl _
    | false =>
      cases h2 : Nat.beq f 16 with
      | true => simp [h1, h2] at ho; rw [ho.2]; exact Nx.refl _
      | false => simp [h1, h2] at ho
  · cases h1 : Nat.beq f 214 with
    | true =>
      simp only [h1, cond_true] at ho
      split at ho
      · cases ho; exact Nx.new _ _
      · cases ho
    | false => simp [h1] at ho
  · cases h1 : Nat.beq f 145 with
    | true => simp [h1] at ho; rw [ho.2]; exact Nx.refl _
    | false => simp [h1] at ho
  · cases ho
theorem aappZ_nx {P : Program} {h h' : AHeap} {ts : List TypeId} {l : List AV} {v : AV} (ho : aappZ P h ts l = some (v, h')) : Nx h h' := by
  unfold aappZ at ho
  split at ho
  · split at ho
    · split at ho
      · split at ho
        · exact agrow_nx ho
        · cases ho
      · cases ho
    · cases ho
  · cases ho
theorem peff_nx (hc : CallNx call) {h h' : AHeap} {ev : Operand → Option AV} {op : Op} {v : AV} (ho : peff P call h ev op = some (v, h')) : Nx h h' := by
  cases op <;> simp only [peff] at ho <;> try (cases ho; done)
  case store t a x =>
    split at ho
    · split at ho
      · rename_i h2 hs; cases ho; exact astore_nx hs
      · cases ho
    · cases ho
  case call c =>
    split at ho
    · split at ho
      · split at ho
        · rename_i l _
          cases hx : xapp c.argTypes.toList with
          | true => rw [hx] at ho; exact aappZ_nx ho
          | false => rw [hx] at ho; exact aappend_nx ho
        · split at ho
          · cases ho; exact Nx.refl _
          · cases ho
        · exact acopy_nx ho
        · exact aclear_nx ho
        · split at ho
          · split at ho
            · cases ho; exact Nx.refl _
            · cases ho
          · cases ho
        · split at ho
          · exact austring_nx ho
          · cases ho
        · cases ho
      · cases ho
    · split at ho
      · rename_i g cap l hf hl
        cases hb : hasBody P g with
        | false => simp only [hb, cond_false] at ho; exact aext_nx ho
        | true => simp [hb] at ho; exact hc _ _ _ _ _ ho
      · cases ho
    · split at ho
      · split at ho
        · rename_i f hm
          cases hb : hasBody P f with
          | false => simp [hb] at ho
          | true => simp [hb] at ho; exact hc _ _ _ _ _ ho
        · cases ho
      · cases ho
  case makeMap t r =>
    cases r with
    | none => cases ho; exact Nx.new _ _
    | some r => cases ho
  case lookup t x k ok =>
    split at ho
    · split at ho
      · cases ho; exact Nx.refl _
      · cases ho
    · cases ho
  case mapUpdate t m k x =>
    split at ho
    · split at ho
      · rename_i h2 hs; cases ho; exact aupdate_nx hs
      · cases ho
    · cases ho
  case insert t m k x =>
    split at ho
    · split at ho
      · rename_i h2 hs; cases ho; exact aupdate_nx hs
      · cases ho
    · cases ho
  case range t x =>
    split at ho
    · exact arange_nx ho
    · cases ho
  case next x isS =>
    split at ho
    · exact anext_nx ho
    · cases ho
  case convert s d x =>
    split at ho
    · split at ho
      · rename_i r hr; cases ho; exact aconv_nx hr
      · split at ho
        · cases ho; exact Nx.refl _
        · cases ho
    · cases ho
theorem astep_nx (hc : CallNx call) {ops : Array Oper} {fr : AFrame} {h h' : AHeap} {o : Oper} {v : AV} (ho : astep P call ops fr h o = some (v, h')) : Nx h h' := by
  unfold astep at ho
  split at ho
  · unfold aop at ho
    split at ho
    · split at ho
      · cases ho; exact Nx.refl _
      · cases ho
    · split at ho
      · cases ho; exact Nx.refl _
      · cases ho
    · split at ho
      · cases ho; exact Nx.new _ _
      · cases ho
    · exact peff_nx hc ho
  · cases ho; exact Nx.refl _
  · cases ho
theorem aops_nx (hc : CallNx call) {ops : Array Oper} : ∀ (l : List Oper) (fr fr' : AFrame) (h h' : AHeap), aops P call ops l fr h = some (fr', h') → Nx h h'
  | [], _, _, _, _, ho => by simp only [aops, Option.some.injEq, Prod.mk.injEq] at ho; rw [ho.2]; exact Nx.refl _
  | o :: l, fr, fr', h, h', ho => by
    simp only [aops] at ho
    split at ho
    · rename_i v h1 hs
      split at ho
      · exact (astep_nx hc hs).trans (aops_nx hc l _ fr' h1 h' ho)
      · cases ho
    · cases ho
theorem adops_nx (hc : CallNx call) {ops : Array Oper} : ∀ (l : List Oper) (fr fr' : AFrame) (h h' : AHeap) (tr : List Rec), adops P call ops l fr h = some (tr, fr', h') → Nx h h'
  | [], _, _, _, _, _, ho => by simp only [adops, Option.some.injEq, Prod.mk.injEq] at ho; rw [ho.2.2]; exact Nx.refl _
  | o :: l, fr, fr', h, h', tr, ho => by
    simp only [adops] at ho
    split at ho
    · rename_i v h1 hs
      split at ho
      · split at ho
        · split at ho
          · rename_i tr1 fr2 h2 hr
            cases ho
            exact (astep_nx hc hs).trans (adops_nx hc l _ _ h1 _ _ hr)
          · cases ho
        · cases ho
      · cases ho
    · cases ho
theorem adrawE_nx (hc : CallNx call) {ops : Array Oper} {fr fr' : AFrame} {h h' : AHeap} (ho : adrawE P call ops fr h = some (fr', h')) : Nx h h' := by
  unfold adrawE at ho
  split at ho
  · split at ho
    · rename_i hr
      split at ho
      · cases ho; exact adops_nx hc _ _ _ _ _ _ hr
      · cases ho
    · cases ho
  · cases ho
theorem adraw_nx (hc : CallNx call) {ops : Array Oper} {fr fr' : AFrame} {h h' : AHeap} (ho : adraw P call ops fr h = some (fr', h')) : Nx h h' := adrawE_nx hc ho
theorem aiter_nx {b : AFrame → AHeap → Option ASt} (hb : ∀ fr h e fr' h', b fr h = some (e, fr', h') → Nx h h') : ∀ (n : Nat) fr h e fr' h', aiter b n fr h = some (e, fr', h') → Nx h h'
  | 0, _, _, _, _, _, ho => by simp [aiter] at ho
  | n + 1, fr, h, e, fr', h', ho => by
    simp only [aiter] at ho
    split at ho
    · rename_i fr1 h1 hx; exact (hb _ _ _ _ _ hx).trans (aiter_nx hb n fr1 h1 e fr' h' ho)
    · rename_i id fr1 h1 hx; cases ho; exact hb _ _ _ _ _ hx
    · rename_i fr1 h1 hx; cases ho; exact hb _ _ _ _ _ hx
    · cases ho
theorem aexec_nx (hc : CallNx call) {n : Nat} : ∀ (c : Code) fr h e fr' h', aexec P call n c fr h = some (e, fr', h') → Nx h h' := by
  intro c
  induction c with
  | region id ops draw =>
    intro fr h e fr' h' ho
    simp only [aexec] at ho
    split at ho
    · rename_i fr1 h1 hr
      cases ho
      cases draw with
      | true => simp only [if_true] at hr; exact adraw_nx hc hr
      | false => simp only [Bool.false_eq_true, if_false] at hr; exact aops_nx hc _ _ _ _ _ hr
    · cases ho
  | seq x y ihx ihy =>
    intro fr h e fr' h' ho
    simp only [aexec] at ho
    split at ho
    · rename_i fr1 h1 hx; exact (ihx _ _ _ _ _ hx).trans (ihy _ _ _ _ _ ho)
    · rename_i id fr1 h1 hx; cases ho; exact ihx _ _ _ _ _ hx
    · rename_i fr1 h1 hx; cases ho; exact ihx _ _ _ _ _ hx
    · cases ho
  | cond c x y ihx ihy =>
    intro fr h e fr' h' ho
    simp only [aexec] at ho
    split at ho
    · split at ho
      · exact ihx _ _ _ _ _ ho
      · exact ihy _ _ _ _ _ ho
    · cases ho
  | block id c ih =>
    intro fr h e fr' h' ho
    simp only [aexec] at ho
    split at ho
    · rename_i fr1 h1 hx; cases ho; exact ih _ _ _ _ _ hx
    · rename_i id' fr1 h1 hx
      split at ho <;> (cases ho; exact ih _ _ _ _ _ hx)
    · rename_i fr1 h1 hx; cases ho; exact ih _ _ _ _ _ hx
    · cases ho
  | loop c ih =>
    intro fr h e fr' h' ho
    simp only [aexec] at ho
    exact aiter_nx (fun fr h e fr' h' => ih fr h e fr' h') n fr h e fr' h' ho
  | skip => intro fr h e fr' h' ho; simp only [aexec, Option.some.injEq, Prod.mk.injEq] at ho; rw [ho.2.2]; exact Nx.refl _
  | label l => intro fr h e fr' h' ho; simp only [aexec, Option.some.injEq, Prod.mk.injEq] at ho; rw [ho.2.2]; exact Nx.refl _
  | exit l => intro fr h e fr' h' ho; simp only [aexec, Option.some.injEq, Prod.mk.injEq] at ho; rw [ho.2.2]; exact Nx.refl _
  | ret => intro fr h e fr' h' ho; simp only [aexec, Option.some.injEq, Prod.mk.injEq] at ho; rw [ho.2.2]; exact Nx.refl _
  | _ => intro fr h e fr' h' ho; simp [aexec] at ho
theorem abody_nx (hc : CallNx call) {n : Nat} {f : FuncId} {args : List AV} {h h' : AHeap} {r : AV} (ho : abody P call n f args h = some (r, h')) : Nx h h' := by
  rw [abody] at ho
  split at ho
  · split at ho
    · split at ho
      · rename_i fr h1 hx
        split at ho
        · cases ho; exact aexec_nx hc _ _ _ _ _ _ hx
        · cases ho
      · rename_i fr h1 hx
        split at ho
        · cases ho; exact aexec_nx hc _ _ _ _ _ _ hx
        · cases ho
      · cases ho
    · cases ho
  · cases ho
theorem acall_nx [Orc] : ∀ n, CallNx (acall P n)
  | 0, f, args, h, r, h', ho => Orc.nx f args h r h' ho
  | n + 1, f, args, h, r, h', ho => by
    rw [acall] at ho
    cases hor : Orc.call f args h with
    | some x => simp only [hor] at ho; cases ho; exact Orc.nx f args h r h' hor
    | none =>
      simp only [hor] at ho
      exact abody_nx (acall_nx n) ho
end

end Go.Eng
/- The engine, part 18: regions that draw and are calm; a calculus of weakest preconditions over the engine. -/
namespace Go.Eng

/-! ### calm regions: every load lies in order with every effect, and no block is made -/
def calmRow (M : List Nat) (l : Nat) : List Oper → Nat → Bool
  | [], _ => true
  | o :: r, e => (!isEff o || (Nat.blt e l && bit M l e) || (Nat.blt l e && bit M e l)) && calmRow M l r (e + 1)
def calmRows (M : List Nat) (ops : List Oper) : List Oper → Nat → Bool
  | [], _ => true
  | o :: r, l => !isAlloc o && (!isLoad o || calmRow M l ops 0) && calmRows M ops r (l + 1)
def calm (ops : Array Oper) : Bool := still ops.toList || calmRows (masks ops) ops.toList ops.toList 0

theorem calmRow_at {M : List Nat} {l : Nat} : ∀ (r : List Oper) (k : Nat), calmRow M l r k = true → ∀ i o, r[i]? = some o → isEff o = true → (k + i < l ∧ bit M l (k + i) = true) ∨ (l < k + i ∧ bit M (k + i) l = true)
  | [], k, _, i, o, hi, _ => by simp at hi
  | x :: r, k, h, 0, o, hi, he => by
    simp only [List.getElem?_cons_zero, Option.some.injEq] at hi
    subst hi
    simp only [calmRow, Bool.and_eq_true, Bool.or_eq_true, he, Bool.not_true, Bool.false_eq_true, false_or] at h
    have blt : ∀ a b : Nat, Nat.blt a b = true → a < b := fun a b hb => (by simpa [Nat.blt, Nat.ble_eq] using hb : a + 1 ≤ b)
    rcases h.1 with h | h
    · exact .inl ⟨by simpa using blt _ _ h.1, by simpa using h.2⟩
    · exact .inr ⟨by simpa using blt _ _ h.1, by simpa using h.2⟩
  | x :: r, k, h, i + 1, o, hi, he => by
    simp only [calmRow, Bool.and_eq_true] at h
    have := calmRow_at r (k + 1) h.2 i o (by simpa using hi) he
    rw [show k + (i + 1) = k + 1 + i by omega]
    exact this
theorem window_at {M : List Nat} {l s : Nat} : ∀ (r : List Oper) (k : Nat), window M l s r k = true → ∀ i o, r[i]? = some o → isEff o = true →
    (k + i < l → bit M l (k + i) = true → k + i < s) ∧ (l < k + i → bit M (k + i) l = true → s ≤ k + i)
  | [], k, _, i, o, hi, _ => by simp at hi
  | x :: r, k, h, 0, o, hi, he => by
    simp only [List.getElem?_cons_zero, Option.some.injEq] at hi
    subst hi
    simp only [window, Bool.and_eq_true, Bool.or_eq_true, he, Bool.not_true, Bool.false_eq_true, false_or, Bool.not_eq_true', Bool.and_eq_false_iff] at h
    have e1 : ∀ a b : Nat, Nat.blt a b = true ↔ a < b := fun a b => by simp only [Nat.blt, Nat.ble_eq]; omega
    have e2 : ∀ a b : Nat, Nat.blt a b = false ↔ ¬ a < b := fun a b => by rw [← e1, Bool.not_eq_true]
    obtain ⟨⟨h1, h2⟩, _⟩ := h
    refine ⟨fun a b => ?_, fun a b => ?_⟩
    · rcases h1 with (h1 | h1) | h1
      · exact absurd a ((e2 _ _).1 h1)
      · rw [show k + 0 = k by omega] at b; rw [b] at h1; cases h1
      · exact (e1 _ _).1 h1
    · rcases h2 with (h2 | h2) | h2
      · exact absurd a ((e2 _ _).1 h2)
      · rw [show k + 0 = k by omega] at b; rw [b] at h2; cases h2
      · simpa [Nat.ble_eq] using h2
  | x :: r, k, h, i + 1, o, hi, he => by
    simp only [window, Bool.and_eq_true] at h
    have := window_at r (k + 1) h.2 i o (by simpa using hi) he
    rw [show k + (i + 1) = k + 1 + i by omega]
    exact this
theorem calmRows_at {M : List Nat} {ops : List Oper} : ∀ (r : List Oper) (k : Nat), calmRows M ops r k = true → ∀ i o, r[i]? = some o → isAlloc o = false ∧ (isLoad o = true → calmRow M (k + i) ops 0 = true)
  | [], k, _, i, o, hi => by simp at hi
  | x :: r, k, h, 0, o, hi => by
    simp only [List.getElem?_cons_zero, Option.some.injEq] at hi
    subst hi
    simp only [calmRows, Bool.and_eq_true, Bool.or_eq_true, Bool.not_eq_true'] at h
    refine ⟨h.1.1, fun hl => ?_⟩
    rcases h.1.2 with h | h
    · rw [hl] at h; cases h
    · exact h
  | x :: r, k, h, i + 1, o, hi => by
    simp only [calmRows, Bool.and_eq_true] at h
    rw [show k + (i + 1) = k + 1 + i by omega]
    exact calmRows_at r (k + 1) h.2 i o (by simpa using hi)

/-- The heap before operation number k. -/
def hpAt (tr : List Rec) (hl : AHeap) (k : Nat) : AHeap := match tr[k]? with | some r => r.h | none => hl
theorem hpAt_cons (x : Rec) (tr : List Rec) (hl : AHeap) (k : Nat) : hpAt (x :: tr) hl (k + 1) = hpAt tr hl k := by simp [hpAt]
theorem states_at : ∀ (r : List Oper) (tr : List Rec) (i : Nat) (hl : AHeap) (s : Nat) (hs : AHeap), r.length = tr.length → (s, hs) ∈ states r tr i hl → ∃ j o, r[j]? = some o ∧ isEff o = true ∧ s = i + j + 1 ∧ hs = hpAt tr hl (j + 1)
  | [], [], _, _, _, _, _, h => by simp [states] at h
  | [], _ :: _, _, _, _, _, hlen, _ => by simp at hlen
  | _ :: _, [], _, _, _, _, hlen, _ => by simp at hlen
  | o :: r, x :: tr, i, hl, s, hs, hlen, h => by
    simp only [states] at h
    have tail : (s, hs) ∈ states r tr (i + 1) hl → ∃ j o', (o :: r)[j]? = some o' ∧ isEff o' = true ∧ s = i + j + 1 ∧ hs = hpAt (x :: tr) hl (j + 1) := fun h => by
      obtain ⟨j, o', h1, h2, h3, h4⟩ := states_at r tr (i + 1) hl s hs (by simpa using hlen) h
      exact ⟨j + 1, o', by simpa using h1, h2, by omega, by rw [hpAt_cons]; exact h4⟩
    split at h
    · rename_i he
      rcases List.mem_cons.1 h with h | h
      · cases h
        exact ⟨0, o, rfl, he, by omega, by rw [hpAt_cons]; cases tr <;> rfl⟩
      · exact tail h
    · exact tail h

section
variable {P : Program} {call : CallFn} {ops : Array Oper}
theorem astep_keep {fr : AFrame} {h h' : AHeap} {o : Oper} {v : AV} (ho : astep P call ops fr h o = some (v, h')) (h1 : isEff o = false) (h2 : isAlloc o = false) : h' = h := by
  unfold astep at ho
  split at ho
  · unfold aop at ho
    split at ho
    · split at ho <;> cases ho; rfl
    · split at ho <;> cases ho; rfl
    · rename_i hk; simp [isAlloc, hk] at h2
    · rename_i hk; simp [isEff, hk] at h1
  · cases ho; rfl
  · cases ho
theorem astep_load {fr : AFrame} {h h' : AHeap} {o : Oper} {v : AV} (ho : astep P call ops fr h o = some (v, h')) (h1 : isLoad o = true) (hw : awanted ops fr o = some true) : pload P h (aeval fr h.glob) o.op = some v := by
  unfold astep at ho
  rw [hw] at ho
  simp only at ho
  unfold aop at ho
  split at ho
  · rename_i hk; simp [isLoad, hk] at h1
  · split at ho
    · rename_i hv; cases ho; exact hv
    · cases ho
  · rename_i hk; simp [isLoad, hk] at h1
  · rename_i hk; simp [isLoad, hk] at h1
/-- From a run in the order of the text, its records. -/
theorem adops_of (hc : CallNx call) : ∀ (l : List Oper) (fr fr' : AFrame) (h h' : AHeap), aops P call ops l fr h = some (fr', h') →
    ∃ tr, adops P call ops l fr h = some (tr, fr', h') ∧ l.length = tr.length ∧ hpAt tr h' 0 = h ∧
      ∀ i o, l[i]? = some o → ∃ rec, tr[i]? = some rec ∧ ((isEff o = false ∧ isAlloc o = false) → hpAt tr h' (i + 1) = hpAt tr h' i) ∧
        (isLoad o = true → awanted ops rec.fr o = some true → pload P rec.h (aeval rec.fr rec.h.glob) o.op = some rec.v)
  | [], fr, fr', h, h', ho => by
    simp only [aops, Option.some.injEq, Prod.mk.injEq] at ho
    obtain ⟨rfl, rfl⟩ := ho
    exact ⟨[], rfl, rfl, rfl, fun i o hi => by simp at hi⟩
  | o :: l, fr, fr', h, h', ho => by
    simp only [aops] at ho
    split at ho
    · rename_i v h1 hs
      split at ho
      · rename_i fr1 hp
        obtain ⟨tr, h2, h3, h4, h5⟩ := adops_of hc l fr1 fr' h1 h' ho
        have hn := astep_nx hc hs
        refine ⟨⟨fr, h, v⟩ :: tr, ?_, by simp [h3], rfl, ?_⟩
        · simp only [adops, hs, hp, h2]
          rw [if_pos (by simp [Nat.ble_eq, hn.1, hn.2])]
        · intro i o' hi
          cases i with
          | zero =>
            simp only [List.getElem?_cons_zero, Option.some.injEq] at hi
            subst hi
            refine ⟨⟨fr, h, v⟩, rfl, fun hk => ?_, fun hl hw => ?_⟩
            · rw [hpAt_cons, h4]; exact astep_keep hs hk.1 hk.2
            · exact astep_load hs hl hw
          | succ i =>
            obtain ⟨rec, k1, k2, k3⟩ := h5 i o' (by simpa using hi)
            exact ⟨rec, by simpa using k1, fun hk => by rw [hpAt_cons, hpAt_cons]; exact k2 hk, k3⟩
      · cases ho
    · cases ho
theorem avEq_refl : (∀ v : AV, avEq v v = true) := by
  intro v
  exact AV.rec (motive_1 := fun v => avEq v v = true) (motive_2 := fun l => avsEq l l = true)
    (by intro b; simp [avEq]) (by intro k n; simp [avEq]) (by intro s; simp [avEq]) (by simp [avEq]) (by intro a b; simp [avEq]) (by simp [avEq])
    (by intro b o z l c; cases c <;> simp [avEq]) (by simp [avEq]) (by intro b; simp [avEq]) (by intro f c h; simp [avEq, h]) (by simp [avEq])
    (by intro t v h; simp [avEq, h]) (by simp [avEq]) (by intro l h; simp [avEq, h]) (by intro l h; simp [avEq, h])
    (by simp [avsEq]) (by intro a r h1 h2; simp [avsEq, h1, h2]) v
theorem loadsOk_of {P : Program} {ops : Array Oper} {M : List Nat} {sts : List (Nat × AHeap)} : ∀ (l : List Oper) (tr : List Rec) (k : Nat), (∀ i o rec, l[i]? = some o → tr[i]? = some rec → loadOk P ops M sts (k + i) o rec = true) → loadsOk P ops M sts l tr k = true
  | [], tr, _, _ => by cases tr <;> rfl
  | _ :: _, [], _, _ => rfl
  | o :: l, rec :: tr, k, h => by
    simp only [loadsOk, Bool.and_eq_true]
    refine ⟨h 0 o rec rfl rfl, loadsOk_of l tr (k + 1) fun i o' rec' h1 h2 => ?_⟩
    rw [show k + 1 + i = k + (i + 1) by omega]
    exact h (i + 1) o' rec' (by simpa using h1) (by simpa using h2)
/-- A calm region that draws is as one in the order of the text. -/
theorem adrawE_calm (hc : CallNx call) {fr fr' : AFrame} {h h' : AHeap} (hd : drawOk ops = true) (hk : calm ops = true) (ho : aops P call ops ops.toList fr h = some (fr', h')) : adrawE P call ops fr h = some (fr', h') := by
  obtain ⟨tr, h1, h2, h3, h4⟩ := adops_of hc _ _ _ _ _ ho
  unfold adrawE
  rw [if_pos hd, h1]
  simp only
  rw [if_pos]
  unfold calm at hk
  cases hst : still ops.toList with
  | true => rfl
  | false =>
    rw [hst, Bool.false_or] at hk
    rw [Bool.false_or]
    refine loadsOk_of _ _ _ fun i o rec hi hr => ?_
    rw [Nat.zero_add]
    unfold loadOk
    split
    · rename_i hload
      split
      · rename_i hw
        obtain ⟨_, hcl⟩ := calmRows_at _ _ hk i o hi
        rw [Nat.zero_add] at hcl
        have hcl := hcl hload
        have hrec : hpAt tr h' i = rec.h := by simp [hpAt, hr]
        have keep : ∀ a b, a ≤ b → b ≤ ops.toList.length → (∀ j o, a ≤ j → j < b → ops.toList[j]? = some o → isEff o = false) → hpAt tr h' a = hpAt tr h' b := by
          intro a b hab hbl hne
          induction b with
          | zero => rw [show a = 0 by omega]
          | succ b ih =>
            by_cases e : a = b + 1
            · rw [e]
            · rw [ih (by omega) (by omega) fun j o' h5 h6 => hne j o' h5 (by omega)]
              have hb : ops.toList[b]? = some (ops.toList[b]'(by omega)) := List.getElem?_eq_getElem (by omega)
              obtain ⟨rb, _, k2, _⟩ := h4 b _ hb
              exact (k2 ⟨hne b _ (by omega) (by omega) hb, (calmRows_at _ _ hk b _ hb).1⟩).symm
        have hil : i < ops.toList.length := by rw [List.getElem?_eq_some_iff] at hi; exact hi.1
        have good : ∀ s hs, (s, hs) ∈ (0, h) :: states ops.toList tr 0 h' → window (masks ops) i s ops.toList 0 = true → hs = rec.h := by
          intro s hs hmem hwin
          have first : hs = hpAt tr h' s ∧ (s = 0 ∨ ∃ j oj, s = j + 1 ∧ ops.toList[j]? = some oj ∧ isEff oj = true) := by
            rcases List.mem_cons.1 hmem with e | e
            · cases e; exact ⟨h3.symm, .inl rfl⟩
            · obtain ⟨j, oj, e1, e2, e3, e4⟩ := states_at _ _ _ _ _ _ h2 e
              rw [Nat.zero_add] at e3
              exact ⟨by rw [e3]; exact e4, .inr ⟨j, oj, e3, e1, e2⟩⟩
          obtain ⟨e1, e2⟩ := first
          rw [e1, ← hrec]
          have hsi : s ≤ i := by
            rcases e2 with e2 | ⟨j, oj, e2, e3, e4⟩
            · omega
            · have hne : j ≠ i := by
                intro e; subst e
                rw [e3] at hi; cases hi
                revert hload e4
                unfold isLoad isEff
                cases kind o.op <;> simp
              have := calmRow_at _ _ hcl j oj e3 e4
              have w := window_at _ _ hwin j oj e3 e4
              simp only [Nat.zero_add] at this w
              rcases this with ⟨h5, _⟩ | ⟨h5, h6⟩
              · omega
              · have := w.2 h5 h6; omega
          refine keep s i hsi (by omega) fun j oj h5 h6 h7 => ?_
          cases he : isEff oj with
          | false => rfl
          | true =>
            exfalso
            have := calmRow_at _ _ hcl j oj h7 he
            have w := window_at _ _ hwin j oj h7 he
            simp only [Nat.zero_add] at this w
            rcases this with ⟨h8, h9⟩ | ⟨h8, _⟩
            · have := w.1 h8 h9; omega
            · omega
        rw [List.all_eq_true]
        intro s hs
        cases hwin : window (masks ops) i s.1 ops.toList 0 with
        | false => rfl
        | true =>
          have := good s.1 s.2 hs hwin
          rw [this]
          obtain ⟨rec', k1, _, k3⟩ := h4 i o hi
          rw [hr] at k1; cases k1
          rw [k3 hload hw]
          simp only [avEq_refl, Bool.or_true]
      · rfl
    · rfl
theorem adraw_eq {ops : Array Oper} {fr : AFrame} {h : AHeap} (hd : drawOk ops = true) : adraw P call ops fr h = adrawE P call ops fr h := by
  unfold adraw effOps; rw [if_pos hd]
theorem adraw_calm (hc : CallNx call) {fr fr' : AFrame} {h h' : AHeap} (hd : drawOk ops = true) (hk : calm ops = true) (ho : aops P call ops ops.toList fr h = some (fr', h')) : adraw P call ops fr h = some (fr', h') := by
  rw [adraw_eq hd]; exact adrawE_calm hc hd hk ho
end

end Go.Eng
