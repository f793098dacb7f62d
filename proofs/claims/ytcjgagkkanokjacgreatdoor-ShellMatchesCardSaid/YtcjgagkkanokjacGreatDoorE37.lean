/- The engine, part 37: a range over a function: more rounds, blocks only added, and its calculus. -/
import Derived.Test.YtcjgagkkanokjacGreatDoorE36
namespace Go.Eng
section
variable {P : Program} {call call' : CallFn}
theorem plainY_mono (hc : CallLe call call') {ops : Array Oper} {fr : AFrame} {Y : List Nat} {h : AHeap} {o : Oper} {s : YSt} (ho : plainY P call ops fr Y h o = some s) : plainY P call' ops fr Y h o = some s := by
  unfold plainY at *
  split at ho
  · rename_i v h1 hst; rw [astep_mono hc hst]; exact ho
  · cases ho
def RdLe (rd rd' : List AV → AHeap → Option (AV × AHeap)) : Prop := ∀ l h r, rd l h = some r → rd' l h = some r
theorem ystep_mono (hc : CallLe call call') {rd rd' : List AV → AHeap → Option (AV × AHeap)} (hr : RdLe rd rd') {ops : Array Oper} {fr : AFrame} {Y : List Nat} {h : AHeap} {o : Oper} {s : YSt} (ho : ystep P call rd ops fr Y h o = some s) : ystep P call' rd' ops fr Y h o = some s := by
  unfold ystep at *
  split at ho
  · split at ho
    · rename_i hc2; rw [if_pos hc2]; exact ho
    · rename_i hc2; rw [if_neg hc2]; exact plainY_mono hc ho
  · split at ho
    · rename_i hc2
      rw [if_pos hc2]
      split at ho
      · rename_i l hl
        split at ho
        · rename_i v h1 hrd; rw [hr _ _ _ hrd]; exact ho
        · cases ho
      · cases ho
    · rename_i hc2; rw [if_neg hc2]; exact plainY_mono hc ho
  · exact plainY_mono hc ho
theorem aopsY_mono (hc : CallLe call call') {rd rd' : List AV → AHeap → Option (AV × AHeap)} (hr : RdLe rd rd') {ops : Array Oper} : ∀ (l : List Oper) (fr : AFrame) (Y : List Nat) (h : AHeap) (s : YSt), aopsY P call rd ops l fr Y h = some s → aopsY P call' rd' ops l fr Y h = some s
  | [], _, _, _, _, ho => ho
  | o :: r, fr, Y, h, s, ho => by
    simp only [aopsY] at ho ⊢
    split at ho
    · rename_i fr1 Y1 h1 hst
      rw [ystep_mono hc hr hst]
      exact aopsY_mono hc hr r fr1 Y1 h1 s ho
    · cases ho
theorem aiterY_mono {b b' : YSt → Option (AEx × YSt)} (hb : ∀ s r, b s = some r → b' s = some r) : ∀ (n m : Nat), n ≤ m → ∀ s r, aiterY b n s = some r → aiterY b' m s = some r
  | 0, _, _, _, _, ho => by simp [aiterY] at ho
  | n + 1, 0, hm, _, _, _ => by omega
  | n + 1, m + 1, hm, s, r, ho => by
    simp only [aiterY] at ho ⊢
    cases hx : b s with
    | none => simp [hx] at ho
    | some x =>
      rw [hb _ _ hx]
      obtain ⟨e, s1⟩ := x
      cases e with
      | normal => simp only [hx] at ho ⊢; exact aiterY_mono hb n m (by omega) s1 r ho
      | exit id => simp only [hx] at ho ⊢; exact ho
      | ret => simp only [hx] at ho ⊢; exact ho
theorem aexecY_mono (hc : CallLe call call') {rd rd' : List AV → AHeap → Option (AV × AHeap)} (hr : RdLe rd rd') {n m : Nat} (hm : n ≤ m) : ∀ (c : Code) (s : YSt) (r : AEx × YSt), aexecY P call rd n c s = some r → aexecY P call' rd' m c s = some r := by
  intro c
  induction c with
  | region id ops draw =>
    intro s r ho
    simp only [aexecY] at ho ⊢
    cases draw with
    | true => simp at ho
    | false =>
      simp only [Bool.false_eq_true, if_false] at ho ⊢
      split at ho
      · rename_i s1 hs; rw [aopsY_mono hc hr _ _ _ _ _ hs]; exact ho
      · cases ho
  | seq x y ihx ihy =>
    intro s r ho
    simp only [aexecY] at ho ⊢
    cases hx : aexecY P call rd n x s with
    | none => simp [hx] at ho
    | some t =>
      rw [ihx _ _ hx]
      obtain ⟨e, s1⟩ := t
      cases e with
      | normal => simp only [hx] at ho ⊢; exact ihy _ _ ho
      | exit id => simp only [hx] at ho ⊢; exact ho
      | ret => simp only [hx] at ho ⊢; exact ho
  | cond c x y ihx ihy =>
    intro s r ho
    simp only [aexecY] at ho ⊢
    split at ho
    · split at ho
      · exact ihx _ _ ho
      · exact ihy _ _ ho
    · cases ho
  | block id c ih =>
    intro s r ho
    simp only [aexecY] at ho ⊢
    cases hx : aexecY P call rd n c s with
    | none => simp [hx] at ho
    | some t =>
      rw [ih _ _ hx]
      obtain ⟨e, s1⟩ := t
      cases e with
      | normal => simp only [hx] at ho ⊢; exact ho
      | exit id => simp only [hx] at ho ⊢; exact ho
      | ret => simp only [hx] at ho ⊢; exact ho
  | loop c ih =>
    intro s r ho
    simp only [aexecY] at ho ⊢
    exact aiterY_mono (fun s r => ih s r) n m hm s r ho
  | _ => intro s r ho; simp only [aexecY] at ho ⊢; first | exact ho | cases ho
theorem rdOf_mono (hc : CallLe call call') {n m : Nat} (hm : n ≤ m) {ps : Array Tmp} {as bo : Code} {frL : AFrame} : RdLe (rdOf P call n ps as bo frL) (rdOf P call' m ps as bo frL) := by
  intro l h r ho
  unfold rdOf at *
  split at ho
  case h_2 => cases ho
  split at ho
  case h_2 => cases ho
  rename_i hx
  rw [aexec_mono hc hm _ _ _ _ hx]
  simp only at ho ⊢
  split at ho
  case h_2 => cases ho
  rename_i hy
  rw [aexec_mono hc hm _ _ _ _ hy]
  exact ho
theorem aexecR_mono (hc : CallLe call call') {n m : Nat} (hm : n ≤ m) : ∀ (c : Code) (b : Bool) (fr : AFrame) (h : AHeap) r, aexecR P call n c b fr h = some r → aexecR P call' m c b fr h = some r := by
  have leaf : ∀ (c : Code) (b : Bool) (fr : AFrame) (h : AHeap) r, (if nodef c then (match aexec P call n c fr h with
    | some (e, fr', h') => some (e, b, fr', h')
    | none => none) else none) = some r → (if nodef c then (match aexec P call' m c fr h with
    | some (e, fr', h') => some (e, b, fr', h')
    | none => none) else none) = some r := by
    intro c b fr h r ho
    split at ho
    case isFalse => cases ho
    rename_i hnd
    rw [if_pos hnd]
    split at ho
    · rename_i e fr1 h1 hx; rw [aexec_mono hc hm _ _ _ _ hx]; exact ho
    · cases ho
  intro c
  induction c with
  | seq x y ihx ihy =>
    intro b fr h r ho
    simp only [aexecR] at ho ⊢
    cases hx : aexecR P call n x b fr h with
    | none => simp [hx] at ho
    | some t =>
      rw [ihx _ _ _ _ hx]
      obtain ⟨e, b1, fr1, h1⟩ := t
      cases e with
      | normal => simp only [hx] at ho ⊢; exact ihy _ _ _ _ ho
      | exit id => simp only [hx] at ho ⊢; exact ho
      | ret => simp only [hx] at ho ⊢; exact ho
  | cond c x y ihx ihy =>
    intro b fr h r ho
    simp only [aexecR] at ho ⊢
    split at ho
    · split at ho
      · exact ihx _ _ _ _ ho
      · exact ihy _ _ _ _ ho
    · cases ho
  | block id c ih =>
    intro b fr h r ho
    simp only [aexecR] at ho ⊢
    cases hx : aexecR P call n c b fr h with
    | none => simp [hx] at ho
    | some t =>
      rw [ih _ _ _ _ hx]
      obtain ⟨e, b1, fr1, h1⟩ := t
      cases e with
      | normal => simp only [hx] at ho ⊢; exact ho
      | exit id => simp only [hx] at ho ⊢; exact ho
      | ret => simp only [hx] at ho ⊢; exact ho
  | rangeFunc g ps as bo _ _ =>
    intro b fr h r ho
    simp only [aexecR] at ho ⊢
    split at ho
    case h_2 => cases ho
    split at ho
    case h_2 => cases ho
    split at ho
    case h_2 => cases ho
    split at ho
    · rename_i s' hx; rw [aexecY_mono hc (rdOf_mono hc hm) hm _ _ _ hx]; exact ho
    · rename_i s' hx; rw [aexecY_mono hc (rdOf_mono hc hm) hm _ _ _ hx]; exact ho
    · cases ho
  | region id ops draw => exact leaf _
  | loop c ih => exact leaf _
  | skip => exact leaf _
  | label l => exact leaf _
  | exit l => exact leaf _
  | ret => exact leaf _
  | scope c _ => exact leaf _
  | goto l => exact leaf _
  | refuse s => exact leaf _
theorem rbody_mono (hc : CallLe call call') {n m : Nat} (hm : n ≤ m) : CallLe (rbody P call n) (rbody P call' m) := by
  intro f args h r ho
  rw [rbody] at ho ⊢
  split at ho
  · split at ho
    · split at ho
      · rename_i b fr h1 hx
        rw [aexecR_mono hc hm _ _ _ _ _ hx]; exact ho
      · rename_i b fr h1 hx
        rw [aexecR_mono hc hm _ _ _ _ _ hx]; exact ho
      · cases ho
    · cases ho
  · cases ho
/-! ### blocks are only added -/
theorem rdOf_nx (hc : CallNx call) {n : Nat} {ps : Array Tmp} {as bo : Code} {frL : AFrame} {l : List AV} {h h' : AHeap} {v : AV} (ho : rdOf P call n ps as bo frL l h = some (v, h')) : Nx h h' := by
  unfold rdOf at ho
  split at ho
  case h_2 => cases ho
  split at ho
  case h_2 => cases ho
  rename_i hx
  split at ho
  case h_2 => cases ho
  rename_i hy
  cases ho
  exact (aexec_nx hc _ _ _ _ _ _ hx).trans (aexec_nx hc _ _ _ _ _ _ hy)
section
variable {rd : List AV → AHeap → Option (AV × AHeap)}
theorem plainY_nx (hc : CallNx call) {ops : Array Oper} {fr : AFrame} {Y : List Nat} {h : AHeap} {o : Oper} {s : YSt} (ho : plainY P call ops fr Y h o = some s) : Nx h s.2.2 := by
  unfold plainY at ho
  split at ho
  · rename_i v h1 hst
    split at ho
    · cases ho; exact astep_nx hc hst
    · cases ho
  · cases ho
theorem ystep_nx (hc : CallNx call) (hr : ∀ l h v h', rd l h = some (v, h') → Nx h h') {ops : Array Oper} {fr : AFrame} {Y : List Nat} {h : AHeap} {o : Oper} {s : YSt} (ho : ystep P call rd ops fr Y h o = some s) : Nx h s.2.2 := by
  unfold ystep at ho
  split at ho
  · split at ho
    · split at ho
      · split at ho
        · split at ho
          · cases ho; exact Nx.refl _
          · cases ho
        · cases ho
      · cases ho
    · exact plainY_nx hc ho
  · split at ho
    · split at ho
      · split at ho
        · rename_i hrd
          split at ho
          · cases ho; exact hr _ _ _ _ hrd
          · cases ho
        · cases ho
      · cases ho
    · exact plainY_nx hc ho
  · exact plainY_nx hc ho
theorem aopsY_nx (hc : CallNx call) (hr : ∀ l h v h', rd l h = some (v, h') → Nx h h') {ops : Array Oper} : ∀ (l : List Oper) (fr : AFrame) (Y : List Nat) (h : AHeap) (s : YSt), aopsY P call rd ops l fr Y h = some s → Nx h s.2.2
  | [], _, _, _, _, ho => by simp only [aopsY, Option.some.injEq] at ho; subst ho; exact Nx.refl _
  | o :: r, fr, Y, h, s, ho => by
    simp only [aopsY] at ho
    split at ho
    · rename_i fr1 Y1 h1 hst
      exact (ystep_nx hc hr hst).trans (aopsY_nx hc hr r fr1 Y1 h1 s ho)
    · cases ho
theorem aiterY_nx {b : YSt → Option (AEx × YSt)} (hb : ∀ s e s', b s = some (e, s') → Nx s.2.2 s'.2.2) : ∀ (n : Nat) s e s', aiterY b n s = some (e, s') → Nx s.2.2 s'.2.2
  | 0, _, _, _, ho => by simp [aiterY] at ho
  | n + 1, s, e, s', ho => by
    simp only [aiterY] at ho
    split at ho
    · rename_i s1 hx; exact (hb _ _ _ hx).trans (aiterY_nx hb n s1 e s' ho)
    · rename_i id s1 hx; cases ho; exact hb _ _ _ hx
    · rename_i s1 hx; cases ho; exact hb _ _ _ hx
    · cases ho
theorem aexecY_nx (hc : CallNx call) (hr : ∀ l h v h', rd l h = some (v, h') → Nx h h') {n : Nat} : ∀ (c : Code) s e s', aexecY P call rd n c s = some (e, s') → Nx s.2.2 s'.2.2 := by
  intro c
  induction c with
  | region id ops draw =>
    intro s e s' ho
    simp only [aexecY] at ho
    split at ho
    · cases ho
    · split at ho
      · rename_i s1 hs; cases ho; exact aopsY_nx hc hr _ _ _ _ _ hs
      · cases ho
  | seq x y ihx ihy =>
    intro s e s' ho
    simp only [aexecY] at ho
    split at ho
    · rename_i s1 hx; exact (ihx _ _ _ hx).trans (ihy _ _ _ ho)
    · rename_i id s1 hx; cases ho; exact ihx _ _ _ hx
    · rename_i s1 hx; cases ho; exact ihx _ _ _ hx
    · cases ho
  | cond c x y ihx ihy =>
    intro s e s' ho
    simp only [aexecY] at ho
    split at ho
    · split at ho
      · exact ihx _ _ _ ho
      · exact ihy _ _ _ ho
    · cases ho
  | block id c ih =>
    intro s e s' ho
    simp only [aexecY] at ho
    split at ho
    · rename_i s1 hx; cases ho; exact ih _ _ _ hx
    · rename_i id' s1 hx
      split at ho <;> (cases ho; exact ih _ _ _ hx)
    · rename_i s1 hx; cases ho; exact ih _ _ _ hx
    · cases ho
  | loop c ih =>
    intro s e s' ho
    simp only [aexecY] at ho
    exact aiterY_nx (fun s e s' => ih s e s') n s e s' ho
  | skip => intro s e s' ho; simp only [aexecY, Option.some.injEq, Prod.mk.injEq] at ho; rw [ho.2]; exact Nx.refl _
  | label l => intro s e s' ho; simp only [aexecY, Option.some.injEq, Prod.mk.injEq] at ho; rw [ho.2]; exact Nx.refl _
  | exit l => intro s e s' ho; simp only [aexecY, Option.some.injEq, Prod.mk.injEq] at ho; rw [ho.2]; exact Nx.refl _
  | ret => intro s e s' ho; simp only [aexecY, Option.some.injEq, Prod.mk.injEq] at ho; rw [ho.2]; exact Nx.refl _
  | _ => intro s e s' ho; simp [aexecY] at ho
end
theorem aexecR_nx (hc : CallNx call) {n : Nat} : ∀ (c : Code) b fr h e b' fr' h', aexecR P call n c b fr h = some (e, b', fr', h') → Nx h h' := by
  have leaf : ∀ (c : Code) (b : Bool) fr h e (b' : Bool) fr' h', (if nodef c then (match aexec P call n c fr h with
    | some (e, fr', h') => some (e, b, fr', h')
    | none => none) else none) = some (e, b', fr', h') → Nx h h' := by
    intro c b fr h e b' fr' h' ho
    split at ho
    case isFalse => cases ho
    split at ho
    · rename_i e1 fr1 h1 hx; cases ho; exact aexec_nx hc _ _ _ _ _ _ hx
    · cases ho
  intro c
  induction c with
  | seq x y ihx ihy =>
    intro b fr h e b' fr' h' ho
    simp only [aexecR] at ho
    split at ho
    · rename_i hx; exact (ihx _ _ _ _ _ _ _ hx).trans (ihy _ _ _ _ _ _ _ ho)
    · rename_i hx; cases ho; exact ihx _ _ _ _ _ _ _ hx
    · rename_i hx; cases ho; exact ihx _ _ _ _ _ _ _ hx
    · cases ho
  | cond c x y ihx ihy =>
    intro b fr h e b' fr' h' ho
    simp only [aexecR] at ho
    split at ho
    · split at ho
      · exact ihx _ _ _ _ _ _ _ ho
      · exact ihy _ _ _ _ _ _ _ ho
    · cases ho
  | block id c ih =>
    intro b fr h e b' fr' h' ho
    simp only [aexecR] at ho
    split at ho
    · rename_i hx; cases ho; exact ih _ _ _ _ _ _ _ hx
    · rename_i id' s hx
      split at ho <;> (cases ho; exact ih _ _ _ _ _ _ _ hx)
    · rename_i hx; cases ho; exact ih _ _ _ _ _ _ _ hx
    · cases ho
  | rangeFunc g ps as bo _ _ =>
    intro b fr h e b' fr' h' ho
    simp only [aexecR] at ho
    split at ho
    case h_2 => cases ho
    split at ho
    case h_2 => cases ho
    split at ho
    case h_2 => cases ho
    split at ho
    · rename_i s' hx; cases ho; exact aexecY_nx hc (fun _ _ _ _ hr => rdOf_nx hc hr) _ _ _ _ hx
    · rename_i s' hx; cases ho; exact aexecY_nx hc (fun _ _ _ _ hr => rdOf_nx hc hr) _ _ _ _ hx
    · cases ho
  | region id ops draw => exact leaf _
  | loop c ih => exact leaf _
  | skip => exact leaf _
  | label l => exact leaf _
  | exit l => exact leaf _
  | ret => exact leaf _
  | scope c _ => exact leaf _
  | goto l => exact leaf _
  | refuse s => exact leaf _
theorem rbody_nx (hc : CallNx call) {n : Nat} : CallNx (rbody P call n) := by
  intro f args h r h' ho
  rw [rbody] at ho
  split at ho
  · split at ho
    · split at ho
      · rename_i hx
        split at ho
        · cases ho; exact aexecR_nx hc _ _ _ _ _ _ _ _ hx
        · cases ho
      · rename_i hx
        split at ho
        · cases ho; exact aexecR_nx hc _ _ _ _ _ _ _ _ hx
        · cases ho
      · cases ho
    · cases ho
  · cases ho
end

/-! ### the calculus -/
section
variable {P : Program} [Orc]
def RW (P : Program) [Orc] (c : Code) (b : Bool) (fr : AFrame) (h : AHeap) (Q : AEx → Bool → AFrame → AHeap → Prop) : Prop :=
  ∃ n e b' fr' h', aexecR P (acall P n) n c b fr h = some (e, b', fr', h') ∧ Q e b' fr' h'
def kR (P : Program) [Orc] (y : Code) (b : Bool) (Q : AEx → Bool → AFrame → AHeap → Prop) (e : AEx) (fr : AFrame) (h : AHeap) : Prop :=
  match e with
  | .normal => RW P y b fr h Q
  | .exit id => Q (.exit id) b fr h
  | .ret => Q .ret b fr h
theorem kR_normal (y : Code) (b : Bool) (Q : AEx → Bool → AFrame → AHeap → Prop) (fr : AFrame) (h : AHeap) : kR P y b Q .normal fr h = RW P y b fr h Q := rfl
@[simp] theorem kR_exit (y : Code) (b : Bool) (Q : AEx → Bool → AFrame → AHeap → Prop) (id : Nat) (fr : AFrame) (h : AHeap) : kR P y b Q (.exit id) fr h = Q (.exit id) b fr h := rfl
@[simp] theorem kR_ret (y : Code) (b : Bool) (Q : AEx → Bool → AFrame → AHeap → Prop) (fr : AFrame) (h : AHeap) : kR P y b Q .ret fr h = Q .ret b fr h := rfl
/-- No range over a function, no deferred call. -/
def plainC : Code → Bool
  | .region _ ops _ => nodefL ops.toList
  | .seq a b => plainC a && plainC b
  | .cond _ a b => plainC a && plainC b
  | .block _ c => plainC c
  | .loop c => nodef c
  | .skip | .label _ | .exit _ | .ret => true
  | _ => false
omit [Orc] in
theorem aexecR_plain {call : CallFn} {n : Nat} (b : Bool) : ∀ (c : Code) (fr : AFrame) (h : AHeap) (e : AEx) (fr' : AFrame) (h' : AHeap), plainC c = true → aexec P call n c fr h = some (e, fr', h') → aexecR P call n c b fr h = some (e, b, fr', h') := by
  intro c
  induction c with
  | seq x y ihx ihy =>
    intro fr h e fr' h' hp ho
    simp only [plainC, Bool.and_eq_true] at hp
    simp only [aexec, aexecR] at ho ⊢
    split at ho
    · rename_i hx; rw [ihx _ _ _ _ _ hp.1 hx]; exact ihy _ _ _ _ _ hp.2 ho
    · rename_i hx; cases ho; rw [ihx _ _ _ _ _ hp.1 hx]
    · rename_i hx; cases ho; rw [ihx _ _ _ _ _ hp.1 hx]
    · cases ho
  | cond c x y ihx ihy =>
    intro fr h e fr' h' hp ho
    simp only [plainC, Bool.and_eq_true] at hp
    simp only [aexec, aexecR] at ho ⊢
    split at ho
    · rename_i t hc
      rw [hc]
      cases t with
      | true => exact ihx _ _ _ _ _ hp.1 ho
      | false => exact ihy _ _ _ _ _ hp.2 ho
    · cases ho
  | block id c ih =>
    intro fr h e fr' h' hp ho
    simp only [plainC] at hp
    simp only [aexec, aexecR] at ho ⊢
    split at ho
    · rename_i hx; cases ho; rw [ih _ _ _ _ _ hp hx]
    · rename_i id' fr1 h1 hx
      rw [ih _ _ _ _ _ hp hx]
      simp only at ho ⊢
      split at ho
      · rename_i hid; cases ho; rw [if_pos hid]
      · rename_i hid; cases ho; rw [if_neg hid]
    · rename_i hx; cases ho; rw [ih _ _ _ _ _ hp hx]
    · cases ho
  | region id ops draw => intro fr h e fr' h' hp ho; simp only [aexecR, show nodef (.region id ops draw) = true from hp, if_true, ho]
  | loop c ih => intro fr h e fr' h' hp ho; simp only [aexecR, show nodef (.loop c) = true from hp, if_true, ho]
  | skip => intro fr h e fr' h' hp ho; simp only [aexecR, nodef, if_true, ho]
  | label l => intro fr h e fr' h' hp ho; simp only [aexecR, nodef, if_true, ho]
  | exit l => intro fr h e fr' h' hp ho; simp only [aexecR, nodef, if_true, ho]
  | ret => intro fr h e fr' h' hp ho; simp only [aexecR, nodef, if_true, ho]
  | _ => intro fr h e fr' h' hp ho; simp [plainC] at hp
theorem RW_plain {c : Code} {b : Bool} {fr : AFrame} {h : AHeap} {Q : AEx → Bool → AFrame → AHeap → Prop} (hp : plainC c = true) (hw : AW P c fr h fun e fr h => Q e b fr h) : RW P c b fr h Q := by
  obtain ⟨n, e, fr', h', h1, h2⟩ := AW_sound _ _ _ _ hw
  exact ⟨n, e, b, fr', h', aexecR_plain b c fr h e fr' h' hp h1, h2⟩
theorem RW_seq {x y : Code} {b : Bool} {fr : AFrame} {h : AHeap} {Q : AEx → Bool → AFrame → AHeap → Prop} (hp : plainC x = true) (hw : AW P x fr h (kR P y b Q)) : RW P (.seq x y) b fr h Q := by
  obtain ⟨n, e, fr1, h1, hx, hk⟩ := AW_sound _ _ _ _ hw
  have hx' := aexecR_plain b x fr h e fr1 h1 hp hx
  cases e with
  | normal =>
    obtain ⟨m, e, b2, fr2, h2, hy, hq⟩ := hk
    refine ⟨max n m, e, b2, fr2, h2, ?_, hq⟩
    simp only [aexecR, aexecR_mono (acall_mono (Nat.le_max_left n m)) (Nat.le_max_left n m) _ _ _ _ _ hx']
    exact aexecR_mono (acall_mono (Nat.le_max_right n m)) (Nat.le_max_right n m) _ _ _ _ _ hy
  | exit id => exact ⟨n, .exit id, b, fr1, h1, by simp only [aexecR, hx'], hk⟩
  | ret => exact ⟨n, .ret, b, fr1, h1, by simp only [aexecR, hx'], hk⟩
theorem RW_seq' {x y : Code} {b : Bool} {fr : AFrame} {h : AHeap} {Q : AEx → Bool → AFrame → AHeap → Prop} (b' : Bool) (hw : RW P x b fr h fun e b2 fr' h' => e = .normal ∧ b2 = b' ∧ RW P y b' fr' h' Q) : RW P (.seq x y) b fr h Q := by
  obtain ⟨n, e, b1, fr1, h1, hx, he, rfl, hk⟩ := hw
  subst he
  obtain ⟨m, e, b2, fr2, h2, hy, hq⟩ := hk
  refine ⟨max n m, e, b2, fr2, h2, ?_, hq⟩
  simp only [aexecR, aexecR_mono (acall_mono (Nat.le_max_left n m)) (Nat.le_max_left n m) _ _ _ _ _ hx]
  exact aexecR_mono (acall_mono (Nat.le_max_right n m)) (Nat.le_max_right n m) _ _ _ _ _ hy
theorem RW_assoc {x y z : Code} {b : Bool} {fr : AFrame} {h : AHeap} {Q : AEx → Bool → AFrame → AHeap → Prop} (hw : RW P (.seq x (.seq y z)) b fr h Q) : RW P (.seq (.seq x y) z) b fr h Q := by
  obtain ⟨n, e, b1, fr1, h1, hx, hk⟩ := hw
  refine ⟨n, e, b1, fr1, h1, ?_, hk⟩
  simp only [aexecR] at hx ⊢
  cases hX : aexecR P (acall P n) n x b fr h with
  | none => simp [hX] at hx
  | some r =>
    obtain ⟨e2, b2, fr2, h2⟩ := r
    cases e2 with
    | normal => simp only [hX] at hx ⊢; exact hx
    | exit id => simp only [hX] at hx ⊢; exact hx
    | ret => simp only [hX] at hx ⊢; exact hx
theorem RW_block {id : Nat} {c : Code} {b b' : Bool} {fr : AFrame} {h : AHeap} {Q : AEx → Bool → AFrame → AHeap → Prop} (hw : RW P c b fr h fun e b2 fr' h' => e = .normal ∧ b2 = b' ∧ Q .normal b' fr' h') : RW P (.block id c) b fr h Q := by
  obtain ⟨n, e, b1, fr1, h1, hx, rfl, rfl, hk⟩ := hw
  exact ⟨n, .normal, _, fr1, h1, by simp only [aexecR, hx], hk⟩
/-- A round. -/
def RD (P : Program) [Orc] (ps : Array Tmp) (as bo : Code) (frL : AFrame) (l : List AV) (h : AHeap) (K : AV → AHeap → Prop) : Prop :=
  ∃ n v h', rdOf P (acall P n) n ps as bo frL l h = some (v, h') ∧ K v h'
theorem RD_intro {ps : Array Tmp} {as bo : Code} {frL fr : AFrame} {l : List AV} {h : AHeap} {K : AV → AHeap → Prop} (hp : putsF frL ps.toList l = some fr)
    (hw : AW P as fr h fun e fr1 h1 => e = .normal ∧ AW P bo fr1 h1 fun e fr2 h2 => e = .normal ∧ K (.bool true) h2) : RD P ps as bo frL l h K := by
  obtain ⟨n, e, fr1, h1, hx, rfl, hw2⟩ := AW_sound _ _ _ _ hw
  obtain ⟨m, e, fr2, h2, hy, rfl, hk⟩ := AW_sound _ _ _ _ hw2
  refine ⟨max n m, .bool true, h2, ?_, hk⟩
  unfold rdOf
  simp only [hp, aexec_more (Nat.le_max_left n m) hx, aexec_more (Nat.le_max_right n m) hy]
def YW (P : Program) [Orc] (ps : Array Tmp) (as bo : Code) (frL : AFrame) (c : Code) (s : YSt) (Q : AEx → YSt → Prop) : Prop :=
  ∃ n e s', aexecY P (acall P n) (rdOf P (acall P n) n ps as bo frL) n c s = some (e, s') ∧ Q e s'
theorem RW_range {g : Operand} {ps : Array Tmp} {as bo : Code} {fr : AFrame} {h : AHeap} {Q : AEx → Bool → AFrame → AHeap → Prop} {gf : FuncId} {caps : List AV} (hg : aeval fr h.glob g = some (.func gf caps)) {fnI : Func} {cI : Code} (hfI : P.funcs[gf]? = some fnI) (hbI : fnI.body = some cI) (hrs : fnI.results.toList = [])
    (hnd : (nodef as && nodef bo) = true) (hw : YW P ps as bo (fr.wd []) cI (frameI fnI caps, [0], h) fun e s' => (e = .normal ∨ e = .ret) ∧ Q .normal true fr s'.2.2) : RW P (.rangeFunc g ps as bo) false fr h Q := by
  obtain ⟨n, e, s', hx, he, hq⟩ := hw
  refine ⟨n, .normal, true, fr, s'.2.2, ?_, hq⟩
  simp only [aexecR, hnd, hg, hfI, hbI, hrs]
  rcases he with rfl | rfl <;> simp only [hx]
section
variable {ps : Array Tmp} {as bo : Code} {frL : AFrame}
theorem YW_more {n m : Nat} (hm : n ≤ m) {c : Code} {s : YSt} {r : AEx × YSt} (ho : aexecY P (acall P n) (rdOf P (acall P n) n ps as bo frL) n c s = some r) : aexecY P (acall P m) (rdOf P (acall P m) m ps as bo frL) m c s = some r :=
  aexecY_mono (acall_mono hm) (rdOf_mono (acall_mono hm) hm) hm c s r ho
theorem YW_mono {c : Code} {s : YSt} {Q Q' : AEx → YSt → Prop} (hw : YW P ps as bo frL c s Q) (hq : ∀ e s, Q e s → Q' e s) : YW P ps as bo frL c s Q' :=
  let ⟨n, e, s', h1, h2⟩ := hw; ⟨n, e, s', h1, hq _ _ h2⟩
def kY (P : Program) [Orc] (ps : Array Tmp) (as bo : Code) (frL : AFrame) (y : Code) (Q : AEx → YSt → Prop) (e : AEx) (s : YSt) : Prop := match e with
  | .normal => YW P ps as bo frL y s Q
  | .exit id => Q (.exit id) s
  | .ret => Q .ret s
theorem kY_normal (y : Code) (Q : AEx → YSt → Prop) (s : YSt) : kY P ps as bo frL y Q .normal s = YW P ps as bo frL y s Q := rfl
@[simp] theorem kY_exit (y : Code) (Q : AEx → YSt → Prop) (id : Nat) (s : YSt) : kY P ps as bo frL y Q (.exit id) s = Q (.exit id) s := rfl
@[simp] theorem kY_ret (y : Code) (Q : AEx → YSt → Prop) (s : YSt) : kY P ps as bo frL y Q .ret s = Q .ret s := rfl
theorem YW_seq {x y : Code} {s : YSt} {Q : AEx → YSt → Prop} (hw : YW P ps as bo frL x s (kY P ps as bo frL y Q)) : YW P ps as bo frL (.seq x y) s Q := by
  obtain ⟨n, e, s1, hx, hk⟩ := hw
  cases e with
  | normal =>
    obtain ⟨m, e, s2, hy, hq⟩ := hk
    refine ⟨max n m, e, s2, ?_, hq⟩
    simp only [aexecY, YW_more (Nat.le_max_left n m) hx]
    exact YW_more (Nat.le_max_right n m) hy
  | exit id => exact ⟨n, .exit id, s1, by simp only [aexecY, hx], hk⟩
  | ret => exact ⟨n, .ret, s1, by simp only [aexecY, hx], hk⟩
theorem YW_cond {c : Operand} {x y : Code} {s : YSt} {Q : AEx → YSt → Prop} {t : Bool} (hc : aeval s.1 s.2.2.glob c = some (.bool t)) (h1 : t = true → YW P ps as bo frL x s Q) (h2 : t = false → YW P ps as bo frL y s Q) : YW P ps as bo frL (.cond c x y) s Q := by
  cases t with
  | true => obtain ⟨n, e, s', hx, hq⟩ := h1 rfl; exact ⟨n, e, s', by simp only [aexecY, hc, hx], hq⟩
  | false => obtain ⟨n, e, s', hx, hq⟩ := h2 rfl; exact ⟨n, e, s', by simp only [aexecY, hc, hx], hq⟩
def kYb (id : Nat) (Q : AEx → YSt → Prop) (e : AEx) (s : YSt) : Prop := match e with
  | .normal => Q .normal s
  | .exit id' => if id' = id then Q .normal s else Q (.exit id') s
  | .ret => Q .ret s
omit [Orc] in
@[simp] theorem kYb_normal (id : Nat) (Q : AEx → YSt → Prop) (s : YSt) : kYb id Q .normal s = Q .normal s := rfl
omit [Orc] in
@[simp] theorem kYb_ret (id : Nat) (Q : AEx → YSt → Prop) (s : YSt) : kYb id Q .ret s = Q .ret s := rfl
omit [Orc] in
@[simp] theorem kYb_exit (id id' : Nat) (Q : AEx → YSt → Prop) (s : YSt) : kYb id Q (.exit id') s = if id' = id then Q .normal s else Q (.exit id') s := rfl
theorem YW_block {id : Nat} {c : Code} {s : YSt} {Q : AEx → YSt → Prop} (hw : YW P ps as bo frL c s (kYb id Q)) : YW P ps as bo frL (.block id c) s Q := by
  obtain ⟨n, e, s1, hx, hk⟩ := hw
  cases e with
  | normal => exact ⟨n, .normal, s1, by simp only [aexecY, hx], hk⟩
  | ret => exact ⟨n, .ret, s1, by simp only [aexecY, hx], hk⟩
  | exit id' =>
    simp only [kYb] at hk
    split at hk
    · exact ⟨n, .normal, s1, by simp only [aexecY, hx, if_pos ‹id' = id›], hk⟩
    · exact ⟨n, .exit id', s1, by simp only [aexecY, hx, if_neg ‹¬ id' = id›], hk⟩
theorem YW_skip {s : YSt} {Q : AEx → YSt → Prop} (h : Q .normal s) : YW P ps as bo frL .skip s Q := ⟨0, .normal, s, rfl, h⟩
theorem YW_ret {s : YSt} {Q : AEx → YSt → Prop} (h : Q .ret s) : YW P ps as bo frL .ret s Q := ⟨0, .ret, s, rfl, h⟩
theorem YW_exit {id : Nat} {s : YSt} {Q : AEx → YSt → Prop} (h : Q (.exit id) s) : YW P ps as bo frL (.exit id) s Q := ⟨0, .exit id, s, rfl, h⟩
def kYl (I : Nat → YSt → Prop) (k : Nat) (Q : AEx → YSt → Prop) (e : AEx) (s : YSt) : Prop := match e with
  | .normal => ∃ j, j < k ∧ I j s
  | .exit id => Q (.exit id) s
  | .ret => Q .ret s
omit [Orc] in
theorem kYl_normal (I : Nat → YSt → Prop) (k : Nat) (Q : AEx → YSt → Prop) (s : YSt) : kYl I k Q .normal s = ∃ j, j < k ∧ I j s := rfl
omit [Orc] in
@[simp] theorem kYl_ret (I : Nat → YSt → Prop) (k : Nat) (Q : AEx → YSt → Prop) (s : YSt) : kYl I k Q .ret s = Q .ret s := rfl
theorem YW_loop {c : Code} {s : YSt} {Q : AEx → YSt → Prop} (I : Nat → YSt → Prop) (k : Nat) (hi : I k s) (hb : ∀ k s, I k s → YW P ps as bo frL c s (kYl I k Q)) : YW P ps as bo frL (.loop c) s Q := by
  have main : ∀ k s, I k s → ∃ n e s', aiterY (fun s => aexecY P (acall P n) (rdOf P (acall P n) n ps as bo frL) n c s) n s = some (e, s') ∧ Q e s' := by
    intro k
    induction k using Nat.strongRecOn with
    | ind k ih =>
      intro s hi
      obtain ⟨n, e, s1, hx, hk⟩ := hb k s hi
      cases e with
      | normal =>
        obtain ⟨j, hj, hi1⟩ := hk
        obtain ⟨m, e, s2, hy, hq⟩ := ih j hj s1 hi1
        refine ⟨max n m + 1, e, s2, ?_, hq⟩
        simp only [aiterY, YW_more (show n ≤ max n m + 1 by omega) hx]
        exact aiterY_mono (fun s r hr => YW_more (show m ≤ max n m + 1 by omega) hr) m (max n m) (by omega) _ _ hy
      | exit id => exact ⟨n + 1, .exit id, s1, by simp only [aiterY, YW_more (Nat.le_succ n) hx], hk⟩
      | ret => exact ⟨n + 1, .ret, s1, by simp only [aiterY, YW_more (Nat.le_succ n) hx], hk⟩
  obtain ⟨n, e, s', h1, h2⟩ := main k s hi
  exact ⟨n, e, s', by simp only [aexecY]; exact h1, h2⟩
/-! operations -/
def YO (P : Program) [Orc] (ps : Array Tmp) (as bo : Code) (frL : AFrame) (ops : Array Oper) (l : List Oper) (fr : AFrame) (Y : List Nat) (h : AHeap) (K : AFrame → List Nat → AHeap → Prop) : Prop :=
  ∃ n fr' Y' h', aopsY P (acall P n) (rdOf P (acall P n) n ps as bo frL) ops l fr Y h = some (fr', Y', h') ∧ K fr' Y' h'
theorem YW_region {id : Nat} {ops : Array Oper} {fr : AFrame} {Y : List Nat} {h : AHeap} {Q : AEx → YSt → Prop} (hw : YO P ps as bo frL ops ops.toList fr Y h fun fr Y h => Q .normal (fr, Y, h)) : YW P ps as bo frL (.region id ops false) (fr, Y, h) Q := by
  obtain ⟨n, fr', Y', h', hx, hk⟩ := hw
  exact ⟨n, .normal, (fr', Y', h'), by simp only [aexecY, Bool.false_eq_true, if_false, hx], hk⟩
theorem YO_nil {ops : Array Oper} {fr : AFrame} {Y : List Nat} {h : AHeap} {K : AFrame → List Nat → AHeap → Prop} (hk : K fr Y h) : YO P ps as bo frL ops [] fr Y h K := ⟨0, fr, Y, h, rfl, hk⟩
/-- Does the operation touch yield? -/
def isY (Y : List Nat) (o : Oper) : Bool := match o.guard, o.op with
  | none, .move (.tmp i) => Y.contains i
  | none, .call ⟨.value (.tmp i), _, _⟩ => Y.contains i
  | _, _ => false
theorem YO_plain {ops : Array Oper} {o : Oper} {r : List Oper} {fr : AFrame} {Y : List Nat} {h : AHeap} {K : AFrame → List Nat → AHeap → Prop} (hy : isY Y o = false)
    (hw : OW P ops [o] fr h fun fr' h' => YO P ps as bo frL ops r fr' (dropY Y o.dst) h' K) : YO P ps as bo frL ops (o :: r) fr Y h K := by
  obtain ⟨n, fr1, h1, hx, m, fr2, Y2, h2, hy2, hk⟩ := OW_sound _ _ _ _ hw
  refine ⟨max n m, fr2, Y2, h2, ?_, hk⟩
  have hst : ystep P (acall P (max n m)) (rdOf P (acall P (max n m)) (max n m) ps as bo frL) ops fr Y h o = plainY P (acall P (max n m)) ops fr Y h o := by
    unfold ystep
    unfold isY at hy
    split
    · rename_i hg hop; simp only [hg, hop] at hy; rw [if_neg (by simpa using hy)]
    · rename_i hg hop; simp only [hg, hop] at hy; rw [if_neg (by simpa using hy)]
    · rfl
  have hpl : plainY P (acall P (max n m)) ops fr Y h o = some (fr1, dropY Y o.dst, h1) := by
    simp only [aops] at hx
    unfold plainY
    split at hx
    · rename_i v h3 hs
      rw [astep_mono (acall_mono (Nat.le_max_left n m)) hs]
      simp only
      split at hx
      · rename_i fr3 hp; cases hx; rw [hp]
      · cases hx
    · cases hx
  simp only [aopsY, hst, hpl]
  exact aopsY_mono (acall_mono (Nat.le_max_right n m)) (rdOf_mono (acall_mono (Nat.le_max_right n m)) (Nat.le_max_right n m)) _ _ _ _ _ hy2
attribute [local semireducible] SW
theorem YO_run {ops : Array Oper} {Y : List Nat} {K : AFrame → List Nat → AHeap → Prop} : ∀ (m : Nat) {l : List Oper} {fr : AFrame} {h : AHeap}, (∀ o ∈ l.take m, isY Y o = false ∧ dropY Y o.dst = Y) →
    OW P ops (l.take m) fr h (fun fr' h' => YO P ps as bo frL ops (l.drop m) fr' Y h' K) → YO P ps as bo frL ops l fr Y h K
  | 0, l, fr, h, _, hw => by simpa [OW_nil] using hw
  | m + 1, [], fr, h, _, hw => by simpa [OW_nil] using hw
  | m + 1, o :: r, fr, h, hy, hw => by
    simp only [List.take_succ_cons, List.drop_succ_cons] at hy hw
    obtain ⟨h1, h2⟩ := hy o (List.mem_cons_self ..)
    refine YO_plain h1 ?_
    rw [OW_cons] at hw ⊢
    rw [h2]
    have next : ∀ v h', kop P ops (r.take m) fr o.dst (fun fr' h' => YO P ps as bo frL ops (r.drop m) fr' Y h' K) v h' → kop P ops [] fr o.dst (fun fr' h' => YO P ps as bo frL ops r fr' Y h' K) v h' := by
      intro v h' hk
      cases hd : o.dst with
      | none =>
        rw [hd, kop_none] at hk
        rw [kop_none, OW_nil]
        exact YO_run m (fun o ho => hy o (List.mem_cons_of_mem _ ho)) hk
      | some d =>
        rw [hd, kop_some] at hk
        rw [kop_some, OW_nil]
        exact ⟨hk.1, YO_run m (fun o ho => hy o (List.mem_cons_of_mem _ ho)) hk.2⟩
    unfold SW at hw ⊢
    split at hw
    · exact EW_mono hw next
    · exact next _ _ hw
    · exact hw
theorem YO_move {ops : Array Oper} {i d : Nat} {ty : TypeId} {pos : String} {after : Array Edge} {r : List Oper} {fr : AFrame} {Y : List Nat} {h : AHeap} {K : AFrame → List Nat → AHeap → Prop} (hy : Y.contains i = true) (hd : fr.get d = none) (hn : d < fr.n)
    (hw : YO P ps as bo frL ops r fr (d :: Y) h K) : YO P ps as bo frL ops (⟨some d, .move (.tmp i), ty, pos, after, none⟩ :: r) fr Y h K := by
  obtain ⟨n, fr2, Y2, h2, hx, hk⟩ := hw
  refine ⟨n, fr2, Y2, h2, ?_, hk⟩
  simp only [aopsY, ystep, hy, if_true, hd, hn]
  exact hx
theorem YO_round {ops : Array Oper} {i d : Nat} {args : Array Operand} {ts : Array TypeId} {ty : TypeId} {pos : String} {after : Array Edge} {r : List Oper} {fr : AFrame} {Y : List Nat} {h : AHeap} {K : AFrame → List Nat → AHeap → Prop} (hy : Y.contains i = true) (hn : d < fr.n) {l : List AV} (hl : evs (aeval fr h.glob) args.toList = some l)
    (hw : RD P ps as bo frL l h fun v h' => YO P ps as bo frL ops r (fr.upd d v) (dropY Y (some d)) h' K) : YO P ps as bo frL ops (⟨some d, .call ⟨.value (.tmp i), args, ts⟩, ty, pos, after, none⟩ :: r) fr Y h K := by
  obtain ⟨n, v, h1, hx, m, fr2, Y2, h2, hy2, hk⟩ := hw
  refine ⟨max n m, fr2, Y2, h2, ?_, hk⟩
  simp only [aopsY, ystep, hy, if_true, hl, rdOf_mono (acall_mono (Nat.le_max_left n m)) (Nat.le_max_left n m) _ _ _ hx, AFrame.put_upd v hn]
  exact aopsY_mono (acall_mono (Nat.le_max_right n m)) (rdOf_mono (acall_mono (Nat.le_max_right n m)) (Nat.le_max_right n m)) _ _ _ _ _ hy2
end
end
def RB (P : Program) [Orc] (f : FuncId) (args : List AV) (h : AHeap) (K : AV → AHeap → Prop) : Prop := ∃ n r h', rbody P (acall P n) n f args h = some (r, h') ∧ K r h'
attribute [local semireducible] kfun kres
theorem RB_intro {P : Program} [Orc] {f : FuncId} {args : List AV} {h : AHeap} {K : AV → AHeap → Prop} {fn : Func} {c : Code} (hf : P.funcs[f]? = some fn) (hb : fn.body = some c)
    (hw : ∀ fr : AFrame, fr.n = args.length + (fn.ntmps - args.length) → (∀ i, fr.get i = args[i]?) → RW P c false fr h fun e _ fr' h' => kfun P fn.results.toList K e fr' h') : RB P f args h K := by
  obtain ⟨n, e, b, fr, h', hx, hk⟩ := hw ⟨args.length + (fn.ntmps - args.length), args0 args 0 .nil, []⟩ rfl fun i => by
    simp only [AFrame.get, args0_at]
    split
    · rfl
    · rename_i hi
      rw [T.get_nil, List.getElem?_eq_none (by omega)]
  have fin : ∀ x : Option (List AV), kres x K h' → ∃ l, x = some l ∧ K (ares1 l) h' := fun x hx => by
    cases x with
    | none => exact hx.elim
    | some l => exact ⟨l, rfl, by simpa using hx⟩
  cases e with
  | exit id => exact hk.elim
  | normal =>
    obtain ⟨l, hl, hK⟩ := fin _ (show kres _ K h' by simpa [kfun_normal] using hk)
    exact ⟨n, ares1 l, h', by simp only [rbody, hf, hb, hx, hl], hK⟩
  | ret =>
    obtain ⟨l, hl, hK⟩ := fin _ (show kres _ K h' by simpa [kfun_ret] using hk)
    exact ⟨n, ares1 l, h', by simp only [rbody, hf, hb, hx, hl], hK⟩
attribute [irreducible] RW kR RD YW kY kYb kYl YO
end Go.Eng
