/- The engine, part 17: more rounds give the same; blocks are only added; regions that draw and whose loads lie in order. -/
import Derived.Test.YtcjgagkkanokjaaE16
namespace Go.Eng

/-! ### more rounds -/
def CallLe (c c' : CallFn) : Prop := ∀ f args h r, c f args h = some r → c' f args h = some r
theorem CallLe.refl (c : CallFn) : CallLe c c := fun _ _ _ _ h => h

section
variable {P : Program} {call call' : CallFn}
theorem peff_mono (hc : CallLe call call') {h : AHeap} {ev : Operand → Option AV} {op : Op} {r : AV × AHeap} (ho : peff P call h ev op = some r) : peff P call' h ev op = some r := by
  cases op <;> simp only [peff] at ho ⊢ <;> try exact ho
  case call c =>
    cases hcl : c.callee with
    | builtin b => simp only [hcl] at ho ⊢; exact ho
    | invoke a b => simp only [hcl] at ho; cases ho
    | value f =>
      simp only [hcl] at ho ⊢
      split at ho
      · rename_i g cap l hf hl
        cases hb : hasBody P g with
        | false => simp [hb] at ho
        | true => simp only [hb, cond_true] at ho ⊢; exact hc _ _ _ _ ho
      · cases ho
theorem aop_mono (hc : CallLe call call') {h : AHeap} {ev : Operand → Option AV} {op : Op} {r : AV × AHeap} (ho : aop P call h ev op = some r) : aop P call' h ev op = some r := by
  unfold aop at *
  split at ho
  · exact ho
  · exact ho
  · exact ho
  · exact peff_mono hc ho
theorem astep_mono (hc : CallLe call call') {ops : Array Oper} {fr : AFrame} {h : AHeap} {o : Oper} {r : AV × AHeap} (ho : astep P call ops fr h o = some r) : astep P call' ops fr h o = some r := by
  unfold astep at *
  split at ho
  · exact aop_mono hc ho
  · exact ho
  · cases ho
theorem aops_mono (hc : CallLe call call') {ops : Array Oper} : ∀ (l : List Oper) (fr : AFrame) (h : AHeap) (r : AFrame × AHeap), aops P call ops l fr h = some r → aops P call' ops l fr h = some r
  | [], _, _, _, ho => ho
  | o :: l, fr, h, r, ho => by
    simp only [aops] at ho ⊢
    split at ho
    · rename_i v h1 hs
      rw [astep_mono hc hs]
      simp only
      split at ho
      · rename_i fr1 hp
        exact aops_mono hc l fr1 h1 r ho
      · cases ho
    · cases ho
theorem adops_mono (hc : CallLe call call') {ops : Array Oper} : ∀ (l : List Oper) (fr : AFrame) (h : AHeap) (r : List Rec × AFrame × AHeap), adops P call ops l fr h = some r → adops P call' ops l fr h = some r
  | [], _, _, _, ho => ho
  | o :: l, fr, h, r, ho => by
    simp only [adops] at ho ⊢
    split at ho
    · rename_i v h1 hs
      rw [astep_mono hc hs]
      simp only
      split at ho
      · rename_i fr1 hp
        split at ho
        · rename_i hn
          split at ho
          · rename_i tr fr2 h2 hr
            rw [if_pos hn, adops_mono hc l fr1 h1 _ hr]
            exact ho
          · cases ho
        · cases ho
      · cases ho
    · cases ho
theorem adraw_mono (hc : CallLe call call') {ops : Array Oper} {fr : AFrame} {h : AHeap} {r : AFrame × AHeap} (ho : adraw P call ops fr h = some r) : adraw P call' ops fr h = some r := by
  unfold adraw at *
  split at ho
  · rename_i hd
    rw [if_pos hd]
    split at ho
    · rename_i tr fr1 h1 hr
      rw [adops_mono hc _ _ _ _ hr]
      exact ho
    · cases ho
  · cases ho
theorem aiter_mono {b b' : AFrame → AHeap → Option ASt} (hb : ∀ fr h r, b fr h = some r → b' fr h = some r) : ∀ (n m : Nat), n ≤ m → ∀ fr h r, aiter b n fr h = some r → aiter b' m fr h = some r
  | 0, _, _, _, _, _, ho => by simp [aiter] at ho
  | n + 1, 0, hm, _, _, _, _ => by omega
  | n + 1, m + 1, hm, fr, h, r, ho => by
    simp only [aiter] at ho ⊢
    cases hx : b fr h with
    | none => simp [hx] at ho
    | some x =>
      rw [hb _ _ _ hx]
      obtain ⟨e, fr1, h1⟩ := x
      cases e with
      | normal => simp only [hx] at ho ⊢; exact aiter_mono hb n m (by omega) fr1 h1 r ho
      | exit id => simp only [hx] at ho ⊢; exact ho
      | ret => simp only [hx] at ho ⊢; exact ho
theorem aexec_mono (hc : CallLe call call') {n m : Nat} (hm : n ≤ m) : ∀ (c : Code) (fr : AFrame) (h : AHeap) (r : ASt), aexec P call n c fr h = some r → aexec P call' m c fr h = some r := by
  intro c
  induction c with
  | region id ops draw =>
    intro fr h r ho
    simp only [aexec] at ho ⊢
    cases draw with
    | true =>
      simp only [if_true] at ho ⊢
      split at ho
      · rename_i fr1 h1 hr
        rw [adraw_mono hc hr]; exact ho
      · cases ho
    | false =>
      simp only [Bool.false_eq_true, if_false] at ho ⊢
      split at ho
      · rename_i fr1 h1 hr
        rw [aops_mono hc _ _ _ _ hr]; exact ho
      · cases ho
  | seq x y ihx ihy =>
    intro fr h r ho
    simp only [aexec] at ho ⊢
    cases hx : aexec P call n x fr h with
    | none => simp [hx] at ho
    | some s =>
      rw [ihx _ _ _ hx]
      obtain ⟨e, fr1, h1⟩ := s
      cases e with
      | normal => simp only [hx] at ho ⊢; exact ihy _ _ _ ho
      | exit id => simp only [hx] at ho ⊢; exact ho
      | ret => simp only [hx] at ho ⊢; exact ho
  | cond c x y ihx ihy =>
    intro fr h r ho
    simp only [aexec] at ho ⊢
    split at ho
    · rename_i b hcb
      split at ho
      · exact ihx _ _ _ ho
      · exact ihy _ _ _ ho
    · cases ho
  | block id c ih =>
    intro fr h r ho
    simp only [aexec] at ho ⊢
    cases hx : aexec P call n c fr h with
    | none => simp [hx] at ho
    | some s =>
      rw [ih _ _ _ hx]
      obtain ⟨e, fr1, h1⟩ := s
      cases e with
      | normal => simp only [hx] at ho ⊢; exact ho
      | exit id => simp only [hx] at ho ⊢; exact ho
      | ret => simp only [hx] at ho ⊢; exact ho
  | loop c ih =>
    intro fr h r ho
    simp only [aexec] at ho ⊢
    exact aiter_mono (fun fr h r => ih fr h r) n m hm fr h r ho
  | _ => intro fr h r ho; simp only [aexec] at ho ⊢; first | exact ho | cases ho
theorem abody_mono (hc : CallLe call call') {n m : Nat} (hm : n ≤ m) {f : FuncId} {args : List AV} {h : AHeap} {r : AV × AHeap} (ho : abody P call n f args h = some r) : abody P call' m f args h = some r := by
  rw [abody] at ho ⊢
  split at ho
  · split at ho
    · split at ho
      · rename_i fr h1 hx
        rw [aexec_mono hc hm _ _ _ _ hx]; exact ho
      · rename_i fr h1 hx
        rw [aexec_mono hc hm _ _ _ _ hx]; exact ho
      · cases ho
    · cases ho
  · cases ho
theorem acall_succ [Orc] (n : Nat) : CallLe (acall P n) (acall P (n + 1)) := by
  induction n with
  | zero =>
    intro f args h r ho
    simp only [acall] at ho ⊢
    rw [ho]
  | succ n ih =>
    intro f args h r ho
    rw [acall] at ho ⊢
    cases hor : Orc.call f args h with
    | some x => simp only [hor] at ho ⊢; exact ho
    | none =>
      simp only [hor] at ho ⊢
      exact abody_mono ih (Nat.le_succ n) ho
theorem acall_mono [Orc] {n m : Nat} (hm : n ≤ m) : CallLe (acall P n) (acall P m) := by
  induction m with
  | zero => have : n = 0 := by omega
            subst this; exact CallLe.refl _
  | succ m ih =>
    by_cases e : n = m + 1
    · subst e; exact CallLe.refl _
    · exact fun f args h r ho => acall_succ m f args h r (ih (by omega) f args h r ho)
end

/-! ### blocks are only added -/
def Nx (h h' : AHeap) : Prop := h.next ≤ h'.next ∧ h'.glob = h.glob
theorem Nx.refl (h : AHeap) : Nx h h := ⟨Nat.le_refl _, rfl⟩
theorem Nx.trans {a b c : AHeap} (h : Nx a b) (k : Nx b c) : Nx a c := ⟨Nat.le_trans h.1 k.1, k.2.trans h.2⟩
theorem Nx.set (h : AHeap) (b : Nat) (o : AObj) : Nx h (h.set b o) := ⟨Nat.le_refl _, rfl⟩
theorem Nx.new (h : AHeap) (o : AObj) : Nx h (h.new o) := ⟨by simp, rfl⟩
def CallNx (call : CallFn) : Prop := ∀ f args h r h', call f args h = some (r, h') → Nx h h'

section
variable {P : Program} {call : CallFn}
theorem agrow_nx {h h' : AHeap} {e size bytes zl g : Nat} {all : List AV} {need : Nat} {v : AV} (ho : agrow h e size bytes zl g all need = some (v, h')) : Nx h h' := by
  unfold agrow at ho
  split at ho
  · cases ho; exact Nx.new _ _
  · cases ho
theorem aappend_nx {h h' : AHeap} {ts : List TypeId} {args : List AV} {v : AV} (ho : aappend P h ts args = some (v, h')) : Nx h h' := by
  unfold aappend at ho
  repeat' split at ho
  all_goals first
    | (cases ho; done)
    | exact agrow_nx ho
    | (cases ho; first | exact Nx.refl _ | exact Nx.set _ _ _ | exact (Nx.set _ _ _).trans (Nx.new _ _))
theorem acopy_nx {h h' : AHeap} {ts : List TypeId} {args : List AV} {v : AV} (ho : acopy P h ts args = some (v, h')) : Nx h h' := by
  unfold acopy at ho
  repeat' split at ho
  all_goals first
    | (cases ho; done)
    | (cases ho; first | exact Nx.refl _ | exact Nx.set _ _ _)
theorem aclear_nx {h h' : AHeap} {ts : List TypeId} {args : List AV} {v : AV} (ho : aclear P h ts args = some (v, h')) : Nx h h' := by
  unfold aclear at ho
  repeat' split at ho
  all_goals first
    | (cases ho; done)
    | (cases ho; first | exact Nx.refl _ | exact Nx.set _ _ _)
theorem astore_nx {h h' : AHeap} {t : TypeId} {p v : AV} (ho : astore P h t p v = some h') : Nx h h' := by
  unfold astore at ho
  repeat' split at ho
  all_goals first
    | (cases ho; done)
    | (cases ho; exact Nx.set _ _ _)
theorem peff_nx (hc : CallNx call) {h h' : AHeap} {ev : Operand → Option AV} {op : Op} {v : AV} (ho : peff P call h ev op = some (v, h')) : Nx h h' := by
  cases op <;> simp only [peff] at ho <;> try (cases ho; done)
  case store t a x =>
    split at ho
    · split at ho
      · rename_i h2 hs; cases ho; exact astore_nx hs
      · cases ho
    · cases ho
  case call c =>
    split at ho
    · split at ho
      · split at ho
        · exact aappend_nx ho
        · exact acopy_nx ho
        · exact aclear_nx ho
        · cases ho
      · cases ho
    · split at ho
      · rename_i g cap l hf hl
        cases hb : hasBody P g with
        | false => simp [hb] at ho
        | true => simp [hb] at ho; exact hc _ _ _ _ _ ho
      · cases ho
    · cases ho
theorem astep_nx (hc : CallNx call) {ops : Array Oper} {fr : AFrame} {h h' : AHeap} {o : Oper} {v : AV} (ho : astep P call ops fr h o = some (v, h')) : Nx h h' := by
  unfold astep at ho
  split at ho
  · unfold aop at ho
    split at ho
    · split at ho
      · cases ho; exact Nx.refl _
      · cases ho
    · split at ho
      · cases ho; exact Nx.refl _
      · cases ho
    · split at ho
      · cases ho; exact Nx.new _ _
      · cases ho
    · exact peff_nx hc ho
  · cases ho; exact Nx.refl _
  · cases ho
theorem aops_nx (hc : CallNx call) {ops : Array Oper} : ∀ (l : List Oper) (fr fr' : AFrame) (h h' : AHeap), aops P call ops l fr h = some (fr', h') → Nx h h'
  | [], _, _, _, _, ho => by simp only [aops, Option.some.injEq, Prod.mk.injEq] at ho; rw [ho.2]; exact Nx.refl _
  | o :: l, fr, fr', h, h', ho => by
    simp only [aops] at ho
    split at ho
    · rename_i v h1 hs
      split at ho
      · exact (astep_nx hc hs).trans (aops_nx hc l _ fr' h1 h' ho)
      · cases ho
    · cases ho
theorem adops_nx (hc : CallNx call) {ops : Array Oper} : ∀ (l : List Oper) (fr fr' : AFrame) (h h' : AHeap) (tr : List Rec), adops P call ops l fr h = some (tr, fr', h') → Nx h h'
  | [], _, _, _, _, _, ho => by simp only [adops, Option.some.injEq, Prod.mk.injEq] at ho; rw [ho.2.2]; exact Nx.refl _
  | o :: l, fr, fr', h, h', tr, ho => by
    simp only [adops] at ho
    split at ho
    · rename_i v h1 hs
      split at ho
      · split at ho
        · split at ho
          · rename_i tr1 fr2 h2 hr
            cases ho
            exact (astep_nx hc hs).trans (adops_nx hc l _ _ h1 _ _ hr)
          · cases ho
        · cases ho
      · cases ho
    · cases ho
theorem adraw_nx (hc : CallNx call) {ops : Array Oper} {fr fr' : AFrame} {h h' : AHeap} (ho : adraw P call ops fr h = some (fr', h')) : Nx h h' := by
  unfold adraw at ho
  split at ho
  · split at ho
    · rename_i hr
      split at ho
      · cases ho; exact adops_nx hc _ _ _ _ _ _ hr
      · cases ho
    · cases ho
  · cases ho
theorem aiter_nx {b : AFrame → AHeap → Option ASt} (hb : ∀ fr h e fr' h', b fr h = some (e, fr', h') → Nx h h') : ∀ (n : Nat) fr h e fr' h', aiter b n fr h = some (e, fr', h') → Nx h h'
  | 0, _, _, _, _, _, ho => by simp [aiter] at ho
  | n + 1, fr, h, e, fr', h', ho => by
    simp only [aiter] at ho
    split at ho
    · rename_i fr1 h1 hx; exact (hb _ _ _ _ _ hx).trans (aiter_nx hb n fr1 h1 e fr' h' ho)
    · rename_i id fr1 h1 hx; cases ho; exact hb _ _ _ _ _ hx
    · rename_i fr1 h1 hx; cases ho; exact hb _ _ _ _ _ hx
    · cases ho
theorem aexec_nx (hc : CallNx call) {n : Nat} : ∀ (c : Code) fr h e fr' h', aexec P call n c fr h = some (e, fr', h') → Nx h h' := by
  intro c
  induction c with
  | region id ops draw =>
    intro fr h e fr' h' ho
    simp only [aexec] at ho
    split at ho
    · rename_i fr1 h1 hr
      cases ho
      cases draw with
      | true => simp only [if_true] at hr; exact adraw_nx hc hr
      | false => simp only [Bool.false_eq_true, if_false] at hr; exact aops_nx hc _ _ _ _ _ hr
    · cases ho
  | seq x y ihx ihy =>
    intro fr h e fr' h' ho
    simp only [aexec] at ho
    split at ho
    · rename_i fr1 h1 hx; exact (ihx _ _ _ _ _ hx).trans (ihy _ _ _ _ _ ho)
    · rename_i id fr1 h1 hx; cases ho; exact ihx _ _ _ _ _ hx
    · rename_i fr1 h1 hx; cases ho; exact ihx _ _ _ _ _ hx
    · cases ho
  | cond c x y ihx ihy =>
    intro fr h e fr' h' ho
    simp only [aexec] at ho
    split at ho
    · split at ho
      · exact ihx _ _ _ _ _ ho
      · exact ihy _ _ _ _ _ ho
    · cases ho
  | block id c ih =>
    intro fr h e fr' h' ho
    simp only [aexec] at ho
    split at ho
    · rename_i fr1 h1 hx; cases ho; exact ih _ _ _ _ _ hx
    · rename_i id' fr1 h1 hx
      split at ho <;> (cases ho; exact ih _ _ _ _ _ hx)
    · rename_i fr1 h1 hx; cases ho; exact ih _ _ _ _ _ hx
    · cases ho
  | loop c ih =>
    intro fr h e fr' h' ho
    simp only [aexec] at ho
    exact aiter_nx (fun fr h e fr' h' => ih fr h e fr' h') n fr h e fr' h' ho
  | skip => intro fr h e fr' h' ho; simp only [aexec, Option.some.injEq, Prod.mk.injEq] at ho; rw [ho.2.2]; exact Nx.refl _
  | label l => intro fr h e fr' h' ho; simp only [aexec, Option.some.injEq, Prod.mk.injEq] at ho; rw [ho.2.2]; exact Nx.refl _
  | exit l => intro fr h e fr' h' ho; simp only [aexec, Option.some.injEq, Prod.mk.injEq] at ho; rw [ho.2.2]; exact Nx.refl _
  | ret => intro fr h e fr' h' ho; simp only [aexec, Option.some.injEq, Prod.mk.injEq] at ho; rw [ho.2.2]; exact Nx.refl _
  | _ => intro fr h e fr' h' ho; simp [aexec] at ho
theorem abody_nx (hc : CallNx call) {n : Nat} {f : FuncId} {args : List AV} {h h' : AHeap} {r : AV} (ho : abody P call n f args h = some (r, h')) : Nx h h' := by
  rw [abody] at ho
  split at ho
  · split at ho
    · split at ho
      · rename_i fr h1 hx
        split at ho
        · cases ho; exact aexec_nx hc _ _ _ _ _ _ hx
        · cases ho
      · rename_i fr h1 hx
        split at ho
        · cases ho; exact aexec_nx hc _ _ _ _ _ _ hx
        · cases ho
      · cases ho
    · cases ho
  · cases ho
theorem acall_nx [Orc] : ∀ n, CallNx (acall P n)
  | 0, f, args, h, r, h', ho => Orc.nx f args h r h' ho
  | n + 1, f, args, h, r, h', ho => by
    rw [acall] at ho
    cases hor : Orc.call f args h with
    | some x => simp only [hor] at ho; cases ho; exact Orc.nx f args h r h' hor
    | none =>
      simp only [hor] at ho
      exact abody_nx (acall_nx n) ho
end

end Go.Eng
