/- The engine, part 27: regions that draw and hold loads that are not ordered with each effect: what the loads give is looked at in each state in which they may come up. -/
import Derived.Test.YtcjgagkkanokjacGreatDoorE26
namespace Go.Eng
attribute [local semireducible] AW OW SW EW CW Ca kop optP

/-- What must be looked at, at an operation: at a load, the states before it in which it may come up; at an effect, the loads before it that may come up behind it. -/
inductive Tb where
  | plain
  | load (ss : List Nat)
  | eff (ls : List Nat)
def hat (Hs : List (Nat × AHeap)) (s : Nat) : AHeap := match lget Hs s with | some h => h | none => hp0
def dchk (P : Program) (Hs : List (Nat × AHeap)) (t : TypeId) (p v : AV) : List Nat → Prop
  | [] => True
  | s :: r => aload P (hat Hs s) t p = some v ∧ dchk P Hs t p v r
abbrev LL := List (Nat × TypeId × AV × AV)
def lchk (P : Program) (h : AHeap) : Option (TypeId × AV × AV) → Prop
  | some (t, p, v) => aload P h t p = some v
  | none => True
def fchk (P : Program) (h : AHeap) (Ls : LL) : List Nat → Prop
  | [] => True
  | l :: r => lchk P h (lget Ls l) ∧ fchk P h Ls r
theorem dchk_mem {P : Program} {Hs : List (Nat × AHeap)} {t : TypeId} {p v : AV} : ∀ {l : List Nat}, dchk P Hs t p v l → ∀ s ∈ l, aload P (hat Hs s) t p = some v
  | [], _, s, hs => by cases hs
  | a :: r, h, s, hs => by
    rcases List.mem_cons.1 hs with rfl | hs
    · exact h.1
    · exact dchk_mem h.2 s hs
theorem fchk_mem {P : Program} {h : AHeap} {Ls : LL} : ∀ {l : List Nat}, fchk P h Ls l → ∀ s ∈ l, lchk P h (lget Ls s)
  | [], _, s, hs => by cases hs
  | a :: r, h, s, hs => by
    rcases List.mem_cons.1 hs with rfl | hs
    · exact h.1
    · exact fchk_mem h.2 s hs

/-! ### the calculus -/
def dpost (P : Program) (tb : Tb) (fr : AFrame) (g i : Nat) (op : Op) (Hs : List (Nat × AHeap)) (Ls : LL) (K : List (Nat × AHeap) → LL → AV → AHeap → Prop) (v : AV) (h' : AHeap) : Prop :=
  match tb with
  | .plain => K Hs Ls v h'
  | .load ss => match op with
    | .load t a => match aeval fr g a with
      | some p => dchk P Hs t p v ss ∧ K Hs ((i, t, p, v) :: Ls) v h'
      | none => False
    | _ => False
  | .eff ls => fchk P h' Ls ls ∧ K ((i + 1, h') :: Hs) Ls v h'
def dskip (P : Program) (tb : Tb) (i : Nat) (Hs : List (Nat × AHeap)) (Ls : LL) (K : List (Nat × AHeap) → LL → AV → AHeap → Prop) (v : AV) (h' : AHeap) : Prop :=
  match tb with
  | .plain | .load _ => K Hs Ls v h'
  | .eff ls => fchk P h' Ls ls ∧ K ((i + 1, h') :: Hs) Ls v h'
def SD (P : Program) [Orc] (ops : Array Oper) (tb : Tb) (i : Nat) (fr : AFrame) (h : AHeap) (o : Oper) (Hs : List (Nat × AHeap)) (Ls : LL) (K : List (Nat × AHeap) → LL → AV → AHeap → Prop) : Prop :=
  match awanted ops fr o with
  | some true => EW P fr h o.op (dpost P tb fr h.glob i o.op Hs Ls K)
  | some false => dskip P tb i Hs Ls K (.tuple []) h
  | none => False
def DW (P : Program) [Orc] (ops : Array Oper) : List Oper → List Tb → Nat → AFrame → AHeap → List (Nat × AHeap) → LL → (AFrame → AHeap → Prop) → Prop
  | [], _, _, fr, h, _, _, K => K fr h
  | _ :: _, [], _, _, _, _, _, _ => False
  | o :: r, tb :: tbs, i, fr, h, Hs, Ls, K => SD P ops tb i fr h o Hs Ls fun Hs' Ls' v h' => match o.dst with
    | none => DW P ops r tbs (i + 1) fr h' Hs' Ls' K
    | some d => d < fr.n ∧ DW P ops r tbs (i + 1) (fr.upd d v) h' Hs' Ls' K

def dkop (P : Program) [Orc] (ops : Array Oper) (r : List Oper) (tbs : List Tb) (i : Nat) (fr : AFrame) (dst : Option Tmp) (K : AFrame → AHeap → Prop) (Hs : List (Nat × AHeap)) (Ls : LL) (v : AV) (h' : AHeap) : Prop :=
  match dst with
  | none => DW P ops r tbs i fr h' Hs Ls K
  | some d => d < fr.n ∧ DW P ops r tbs i (fr.upd d v) h' Hs Ls K
theorem DW_nil (P : Program) [Orc] (ops : Array Oper) (tbs : List Tb) (i : Nat) (fr : AFrame) (h : AHeap) (Hs : List (Nat × AHeap)) (Ls : LL) (K : AFrame → AHeap → Prop) : DW P ops [] tbs i fr h Hs Ls K = K fr h := by unfold DW; rfl
theorem DW_cons (P : Program) [Orc] (ops : Array Oper) (o : Oper) (r : List Oper) (tb : Tb) (tbs : List Tb) (i : Nat) (fr : AFrame) (h : AHeap) (Hs : List (Nat × AHeap)) (Ls : LL) (K : AFrame → AHeap → Prop) :
    DW P ops (o :: r) (tb :: tbs) i fr h Hs Ls K = SD P ops tb i fr h o Hs Ls (dkop P ops r tbs (i + 1) fr o.dst K) := rfl

/-! ### soundness -/
def kindTb (tb : Tb) (o : Oper) : Bool := match tb with
  | .plain => !isLoad o && !isEff o
  | .load _ => isLoad o
  | .eff _ => isEff o
def tbAt (tbs : List Tb) (i : Nat) : Tb := (tbs[i]?).getD .plain
def Tb.back : Tb → List Nat | .load ss => ss | _ => []
def Tb.fwd : Tb → List Nat | .eff ls => ls | _ => []
/-- The heap behind an operation. -/
def behind (tr : List Rec) (hl : AHeap) : AHeap := match tr with | [] => hl | x :: _ => x.h
def Good (P : Program) (ops : Array Oper) : List Oper → List Rec → AHeap → List Tb → Nat → List (Nat × AHeap) → LL → Prop
  | o :: r, rec :: tr, hl, tb :: tbs, i, Hs, Ls =>
    (isEff o = true → fchk P (behind tr hl) Ls tb.fwd) ∧
    match awanted ops rec.fr o, isLoad o with
    | some true, true => ∃ t a p, o.op = .load t a ∧ aeval rec.fr rec.h.glob a = some p ∧ dchk P Hs t p rec.v tb.back ∧ Good P ops r tr hl tbs (i + 1) (if isEff o then (i + 1, behind tr hl) :: Hs else Hs) ((i, t, p, rec.v) :: Ls)
    | _, _ => Good P ops r tr hl tbs (i + 1) (if isEff o then (i + 1, behind tr hl) :: Hs else Hs) Ls
  | [], _, _, _, _, _, _ => True
  | _, _, _, _, _, _, _ => False
def kinds : List Oper → List Tb → Bool
  | [], [] => true
  | o :: r, tb :: tbs => kindTb tb o && kinds r tbs
  | _, _ => false
section
variable {P : Program} [Orc]
theorem DW_sound {ops : Array Oper} : ∀ (l : List Oper) (tbs : List Tb) (i : Nat) (fr : AFrame) (h : AHeap) (Hs : List (Nat × AHeap)) (Ls : LL) (K : AFrame → AHeap → Prop), kinds l tbs = true → DW P ops l tbs i fr h Hs Ls K →
    ∃ n tr fr' h', adops P (acall P n) ops l fr h = some (tr, fr', h') ∧ K fr' h' ∧ l.length = tr.length ∧ behind tr h' = h ∧ Good P ops l tr h' tbs i Hs Ls
  | [], tbs, i, fr, h, Hs, Ls, K, _, hw => ⟨0, [], fr, h, rfl, by unfold DW at hw; exact hw, rfl, rfl, by unfold Good; trivial⟩
  | o :: l, [], i, fr, h, Hs, Ls, K, hk, hw => by simp [kinds] at hk
  | o :: l, tb :: tbs, i, fr, h, Hs, Ls, K, hk, hw => by
    simp only [kinds, Bool.and_eq_true] at hk
    obtain ⟨hkt, hkr⟩ := hk
    rw [DW_cons] at hw
    -- the step
    have step : ∃ n v h1 Hs' Ls', astep P (acall P n) ops fr h o = some (v, h1) ∧ dkop P ops l tbs (i + 1) fr o.dst K Hs' Ls' v h1 ∧
        (isEff o = true → fchk P h1 Ls tb.fwd) ∧ Hs' = (if isEff o then (i + 1, h1) :: Hs else Hs) ∧
        (match awanted ops fr o, isLoad o with
          | some true, true => ∃ t a p, o.op = .load t a ∧ aeval fr h.glob a = some p ∧ dchk P Hs t p v tb.back ∧ Ls' = (i, t, p, v) :: Ls
          | _, _ => Ls' = Ls) := by
      unfold SD at hw
      split at hw
      · rename_i ha
        obtain ⟨n, v, h1, h2, h3⟩ := EW_sound hw
        have hst : astep P (acall P n) ops fr h o = some (v, h1) := by unfold astep; rw [ha]; exact h2
        unfold dpost at h3
        cases tb with
        | plain =>
          simp only [kindTb, Bool.and_eq_true, Bool.not_eq_true'] at hkt
          refine ⟨n, v, h1, Hs, Ls, hst, h3, fun he => (by rw [hkt.2] at he; cases he), by rw [hkt.2]; rfl, ?_⟩
          rw [hkt.1]
          split <;> first | rfl | simp_all
        | load ss =>
          have hkt : isLoad o = true := hkt
          have hne : isEff o = false := by revert hkt; unfold isLoad isEff; cases kind o.op <;> simp
          simp only at h3
          split at h3
          · rename_i t a ho
            split at h3
            · rename_i p hp
              refine ⟨n, v, h1, Hs, (i, t, p, v) :: Ls, hst, h3.2, fun he => (by rw [hne] at he; cases he), by rw [hne]; rfl, ?_⟩
              rw [ha, hkt]
              exact ⟨t, a, p, ho, hp, h3.1, rfl⟩
            · exact h3.elim
          · exact h3.elim
        | eff ls =>
          have hkt : isEff o = true := hkt
          have hne : isLoad o = false := by revert hkt; unfold isLoad isEff; cases kind o.op <;> simp
          refine ⟨n, v, h1, (i + 1, h1) :: Hs, Ls, hst, h3.2, fun _ => h3.1, by rw [hkt]; rfl, ?_⟩
          rw [hne]
          split <;> first | rfl | simp_all
      · rename_i ha
        have hst : astep P (acall P 0) ops fr h o = some (.tuple [], h) := by unfold astep; rw [ha]
        unfold dskip at hw
        cases tb with
        | plain =>
          simp only [kindTb, Bool.and_eq_true, Bool.not_eq_true'] at hkt
          refine ⟨0, _, h, Hs, Ls, hst, hw, fun he => (by rw [hkt.2] at he; cases he), by rw [hkt.2]; rfl, ?_⟩
          rw [ha]
        | load ss =>
          have hkt : isLoad o = true := hkt
          have hne : isEff o = false := by revert hkt; unfold isLoad isEff; cases kind o.op <;> simp
          refine ⟨0, _, h, Hs, Ls, hst, hw, fun he => (by rw [hne] at he; cases he), by rw [hne]; rfl, ?_⟩
          rw [ha]
        | eff ls =>
          have hkt : isEff o = true := hkt
          refine ⟨0, _, h, (i + 1, h) :: Hs, Ls, hst, hw.2, fun _ => hw.1, by rw [hkt]; rfl, ?_⟩
          rw [ha]
      · exact hw.elim
    obtain ⟨n, v, h1, Hs', Ls', hs, hd, hf, hH, hL⟩ := step
    have next : ∃ fr1, fr.put o.dst v = some fr1 ∧ DW P ops l tbs (i + 1) fr1 h1 Hs' Ls' K := by
      unfold dkop at hd
      split at hd
      · rename_i e; exact ⟨fr, by rw [e]; rfl, hd⟩
      · rename_i d e; exact ⟨fr.upd d v, by rw [e]; exact AFrame.put_upd v hd.1, hd.2⟩
    obtain ⟨fr1, hp, hd⟩ := next
    obtain ⟨m, tr, fr2, h2, ho, hK, hlen, hb, hg⟩ := DW_sound l tbs (i + 1) fr1 h1 Hs' Ls' K hkr hd
    have hnx := astep_nx (acall_nx n) hs
    refine ⟨max n m, ⟨fr, h, v⟩ :: tr, fr2, h2, ?_, hK, by simp [hlen], rfl, ?_⟩
    · simp only [adops, astep_mono (acall_mono (Nat.le_max_left n m)) hs, hp]
      rw [if_pos (by simp [Nat.ble_eq, hnx.1, hnx.2])]
      rw [adops_mono (acall_mono (Nat.le_max_right n m)) _ _ _ _ ho]
    · unfold Good
      rw [hb]
      refine ⟨hf, ?_⟩
      rw [← hH]
      split
      · rename_i e1 e2
        simp only at e1
        rw [e1, e2] at hL
        obtain ⟨t, a, p, k1, k2, k3, k4⟩ := hL
        exact ⟨t, a, p, k1, k2, k3, by rw [← k4]; exact hg⟩
      · rename_i hne
        have : Ls' = Ls := by
          split at hL
          · rename_i e1 e2
            exact absurd e2 (hne e1)
          · exact hL
        rw [← this]; exact hg
end

/-! ### what it says of the loads -/
theorem lget_cons_ne {α : Type} {j i : Nat} (v : α) (l : List (Nat × α)) (h : j ≠ i) : lget ((j, v) :: l) i = lget l i := by simp [lget, beq_false.2 h]
theorem lget_cons_eq {α : Type} (i : Nat) (v : α) (l : List (Nat × α)) : lget ((i, v) :: l) i = some v := by simp [lget]
/-- The states are told apart by their numbers, all at most i. -/
def HsAt (Hs : List (Nat × AHeap)) (s : Nat) (hs : AHeap) : Prop := lget Hs s = some hs
theorem Good.back {P : Program} {ops : Array Oper} : ∀ (r : List Oper) (tr : List Rec) (hl : AHeap) (tbs : List Tb) (i : Nat) (Hs : List (Nat × AHeap)) (Ls : LL), Good P ops r tr hl tbs i Hs Ls →
    ∀ (j : Nat) (o : Oper) (rec : Rec), r[j]? = some o → tr[j]? = some rec → isLoad o = true → awanted ops rec.fr o = some true → ∃ t a p, o.op = .load t a ∧ aeval rec.fr rec.h.glob a = some p ∧
      ∀ s ∈ (tbAt tbs j).back, ∀ hs, ((s ≤ i ∧ lget Hs s = some hs) ∨ ∃ e oe, e < j ∧ r[e]? = some oe ∧ isEff oe = true ∧ s = i + e + 1 ∧ hs = hpAt tr hl (e + 1)) → aload P hs t p = some rec.v
  | [], _, _, _, _, _, _, _, j, o, rec, hj, _, _, _ => by simp at hj
  | o0 :: r, [], hl, tbs, i, Hs, Ls, hg, _, _, _, _, _, _, _ => by unfold Good at hg; exact hg.elim
  | o0 :: r, rec0 :: tr, hl, [], i, Hs, Ls, hg, _, _, _, _, _, _, _ => by unfold Good at hg; exact hg.elim
  | o0 :: r, rec0 :: tr, hl, tb :: tbs, i, Hs, Ls, hg, j, o, rec, hj, hr, hlo, hw => by
    unfold Good at hg
    obtain ⟨hg1, hg2⟩ := hg
    cases j with
    | zero =>
      simp only [List.getElem?_cons_zero, Option.some.injEq] at hj hr
      subst hj; subst hr
      rw [hw, hlo] at hg2
      obtain ⟨t, a, p, k1, k2, k3, _⟩ := hg2
      refine ⟨t, a, p, k1, k2, fun s hs hh hor => ?_⟩
      rcases hor with ⟨_, h1⟩ | ⟨e, _, he, _⟩
      · have := dchk_mem k3 s hs
        unfold hat at this
        rw [h1] at this
        exact this
      · omega
    | succ j =>
      simp only [List.getElem?_cons_succ] at hj hr
      have tail : ∀ Ls', Good P ops r tr hl tbs (i + 1) (if isEff o0 then (i + 1, Eng.behind tr hl) :: Hs else Hs) Ls' → ∃ t a p, o.op = .load t a ∧ aeval rec.fr rec.h.glob a = some p ∧
          ∀ s ∈ (tbAt (tb :: tbs) (j + 1)).back, ∀ hs, ((s ≤ i ∧ lget Hs s = some hs) ∨ ∃ e oe, e < j + 1 ∧ (o0 :: r)[e]? = some oe ∧ isEff oe = true ∧ s = i + e + 1 ∧ hs = hpAt (rec0 :: tr) hl (e + 1)) → aload P hs t p = some rec.v := by
        intro Ls' hg
        obtain ⟨t, a, p, k1, k2, k3⟩ := Good.back r tr hl tbs (i + 1) _ Ls' hg j o rec hj hr hlo hw
        refine ⟨t, a, p, k1, k2, fun s hs hh hor => k3 s (by simpa [tbAt] using hs) hh ?_⟩
        rcases hor with ⟨h1, h2⟩ | ⟨e, oe, h1, h2, h3, h4, h5⟩
        · left
          refine ⟨by omega, ?_⟩
          split
          · rw [lget_cons_ne _ _ (by omega)]; exact h2
          · exact h2
        · cases e with
          | zero =>
            left
            simp only [List.getElem?_cons_zero, Option.some.injEq] at h2
            subst h2
            rw [h3, if_pos rfl]
            refine ⟨by omega, ?_⟩
            rw [h4, Nat.add_zero, lget_cons_eq, h5, hpAt_cons]
            cases tr <;> rfl
          | succ e =>
            right
            exact ⟨e, oe, by omega, by simpa using h2, h3, by omega, by rw [h5, hpAt_cons]⟩
      split at hg2
      · obtain ⟨t, a, p, _, _, _, hg⟩ := hg2
        exact tail _ hg
      · exact tail _ hg2
theorem Good.fwd {P : Program} {ops : Array Oper} : ∀ (r : List Oper) (tr : List Rec) (hl : AHeap) (tbs : List Tb) (i : Nat) (Hs : List (Nat × AHeap)) (Ls : LL), Good P ops r tr hl tbs i Hs Ls →
    ∀ (e : Nat) (oe : Oper), r[e]? = some oe → isEff oe = true →
      (∀ l ∈ (tbAt tbs e).fwd, l < i → lchk P (hpAt tr hl (e + 1)) (lget Ls l)) ∧
      ∀ (j : Nat) (o : Oper) (rec : Rec), j < e → i + j ∈ (tbAt tbs e).fwd → r[j]? = some o → tr[j]? = some rec → isLoad o = true → awanted ops rec.fr o = some true → ∃ t a p, o.op = .load t a ∧ aeval rec.fr rec.h.glob a = some p ∧ aload P (hpAt tr hl (e + 1)) t p = some rec.v
  | [], _, _, _, _, _, _, _, e, oe, he, _ => by simp at he
  | o0 :: r, [], hl, tbs, i, Hs, Ls, hg, _, _, _, _ => by unfold Good at hg; exact hg.elim
  | o0 :: r, rec0 :: tr, hl, [], i, Hs, Ls, hg, _, _, _, _ => by unfold Good at hg; exact hg.elim
  | o0 :: r, rec0 :: tr, hl, tb :: tbs, i, Hs, Ls, hg, e, oe, he, hef => by
    unfold Good at hg
    obtain ⟨hg1, hg2⟩ := hg
    cases e with
    | zero =>
      simp only [List.getElem?_cons_zero, Option.some.injEq] at he
      subst he
      refine ⟨fun l hl' _ => ?_, fun j _ _ hj => by omega⟩
      have e1 : hpAt (rec0 :: tr) hl (0 + 1) = Eng.behind tr hl := by rw [hpAt_cons]; cases tr <;> rfl
      rw [e1]
      exact fchk_mem (hg1 hef) l hl'
    | succ e =>
      simp only [List.getElem?_cons_succ] at he
      have et : tbAt (tb :: tbs) (e + 1) = tbAt tbs e := by simp [tbAt]
      rw [et, hpAt_cons]
      split at hg2
      · rename_i hw0 hl0
        obtain ⟨t0, a0, p0, k1, k2, k3, hg⟩ := hg2
        obtain ⟨m1, m2⟩ := Good.fwd r tr hl tbs (i + 1) _ _ hg e oe he hef
        refine ⟨fun l hl' hlt => ?_, fun j o rec hj hm hjo hjr hlo hw => ?_⟩
        · have := m1 l hl' (by omega)
          rw [lget_cons_ne _ _ (by omega)] at this
          exact this
        · cases j with
          | zero =>
            simp only [List.getElem?_cons_zero, Option.some.injEq] at hjo hjr
            subst hjo; subst hjr
            have := m1 i (by simpa using hm) (by omega)
            rw [lget_cons_eq] at this
            exact ⟨t0, a0, p0, k1, k2, this⟩
          | succ j =>
            exact m2 j o rec (by omega) (by rw [show i + 1 + j = i + (j + 1) by omega]; exact hm) (by simpa using hjo) (by simpa using hjr) hlo hw
      · rename_i hne
        obtain ⟨m1, m2⟩ := Good.fwd r tr hl tbs (i + 1) _ _ hg2 e oe he hef
        refine ⟨fun l hl' hlt => m1 l hl' (by omega), fun j o rec hj hm hjo hjr hlo hw => ?_⟩
        cases j with
        | zero =>
          simp only [List.getElem?_cons_zero, Option.some.injEq] at hjo hjr
          subst hjo; subst hjr
          exact absurd hlo (hne hw)
        | succ j =>
          exact m2 j o rec (by omega) (by rw [show i + 1 + j = i + (j + 1) by omega]; exact hm) (by simpa using hjo) (by simpa using hjr) hlo hw

/-! ### the table -/
/-- The states: 0, and behind each effect. -/
def stNums : List Oper → Nat → List Nat
  | [], _ => []
  | o :: r, i => if isEff o then (i + 1) :: stNums r (i + 1) else stNums r (i + 1)
def rowTb (M : List Nat) (ops : List Oper) (sts : List Nat) (i : Nat) (o : Oper) : Tb :=
  if isLoad o then .load (sts.filter fun s => Nat.ble s i && window M i s ops 0)
  else if isEff o then .eff ((List.range i).filter fun l => (match ops[l]? with | some ol => isLoad ol | none => false) && window M l (i + 1) ops 0)
  else .plain
def mkTb (M : List Nat) (ops : List Oper) (sts : List Nat) : List Oper → Nat → List Tb
  | [], _ => []
  | o :: r, i => rowTb M ops sts i o :: mkTb M ops sts r (i + 1)
def table (ops : Array Oper) : List Tb := mkTb (masks ops) ops.toList (0 :: stNums ops.toList 0) ops.toList 0
theorem mkTb_at {M : List Nat} {ops : List Oper} {sts : List Nat} : ∀ (r : List Oper) (i j : Nat) (o : Oper), r[j]? = some o → tbAt (mkTb M ops sts r i) j = rowTb M ops sts (i + j) o
  | [], i, j, o, h => by simp at h
  | x :: r, i, 0, o, h => by simp only [List.getElem?_cons_zero, Option.some.injEq] at h; subst h; rfl
  | x :: r, i, j + 1, o, h => by
    have := mkTb_at r (i + 1) j o (by simpa using h) (M := M) (ops := ops) (sts := sts)
    rw [show i + (j + 1) = i + 1 + j by omega, ← this]
    simp [mkTb, tbAt]
theorem mkTb_kinds {M : List Nat} {ops : List Oper} {sts : List Nat} : ∀ (r : List Oper) (i : Nat), kinds r (mkTb M ops sts r i) = true
  | [], _ => rfl
  | o :: r, i => by
    simp only [mkTb, kinds, mkTb_kinds r (i + 1), Bool.and_true]
    unfold rowTb
    split
    · simpa [kindTb]
    · split
      · simpa [kindTb]
      · simp_all [kindTb]
theorem stNums_mem : ∀ (r : List Oper) (i j : Nat) (o : Oper), r[j]? = some o → isEff o = true → i + j + 1 ∈ stNums r i
  | [], _, j, o, h, _ => by simp at h
  | x :: r, i, 0, o, h, he => by
    simp only [List.getElem?_cons_zero, Option.some.injEq] at h; subst h
    simp [stNums, he]
  | x :: r, i, j + 1, o, h, he => by
    have := stNums_mem r (i + 1) j o (by simpa using h) he
    rw [show i + (j + 1) + 1 = i + 1 + j + 1 by omega]
    simp only [stNums]
    split
    · exact List.mem_cons_of_mem _ this
    · exact this

section
variable {P : Program} [Orc]
/-- A region that draws, by its table. -/
theorem DW_draw {ops : Array Oper} {fr : AFrame} {h : AHeap} {K : AFrame → AHeap → Prop} (hd : drawOk ops = true) (hw : DW P ops ops.toList (table ops) 0 fr h [(0, h)] [] K) :
    ∃ n fr' h', adraw P (acall P n) ops fr h = some (fr', h') ∧ K fr' h' := by
  obtain ⟨n, tr, fr', h', ho, hK, hlen, hb, hg⟩ := DW_sound _ _ _ _ _ _ _ _ (mkTb_kinds _ _) hw
  refine ⟨n, fr', h', ?_, hK⟩
  rw [adraw_eq hd]
  unfold adrawE
  rw [if_pos hd, ho]
  simp only
  rw [if_pos]
  rw [Bool.or_eq_true]
  right
  refine loadsOk_of _ _ _ fun l o rec hl hr => ?_
  rw [Nat.zero_add]
  unfold loadOk
  split
  · rename_i hlo
    split
    · rename_i hwa
      rw [List.all_eq_true]
      rintro ⟨s, hs⟩ hmem
      cases hwin : window (masks ops) l s ops.toList 0 with
      | false => rfl
      | true =>
        simp only [Bool.not_true, Bool.false_or]
        have hst : (s = 0 ∧ hs = h) ∨ ∃ e oe, ops.toList[e]? = some oe ∧ isEff oe = true ∧ s = e + 1 ∧ hs = hpAt tr h' (e + 1) := by
          rcases List.mem_cons.1 hmem with e | e
          · cases e; exact .inl ⟨rfl, rfl⟩
          · obtain ⟨e, oe, k1, k2, k3, k4⟩ := states_at _ _ _ _ _ _ hlen e
            exact .inr ⟨e, oe, k1, k2, by omega, k4⟩
        have fin : ∃ t a p, o.op = .load t a ∧ aeval rec.fr rec.h.glob a = some p ∧ aload P hs t p = some rec.v := by
          have back : s ≤ l → ∃ t a p, o.op = .load t a ∧ aeval rec.fr rec.h.glob a = some p ∧ aload P hs t p = some rec.v := fun hsl => by
            obtain ⟨t, a, p, k1, k2, k3⟩ := Good.back _ _ _ _ _ _ _ hg l o rec hl hr hlo hwa
            refine ⟨t, a, p, k1, k2, k3 s ?_ hs ?_⟩
            · rw [mkTb_at _ _ _ _ hl, Nat.zero_add]
              unfold rowTb
              rw [if_pos hlo]
              simp only [Tb.back, List.mem_filter, Bool.and_eq_true, Nat.ble_eq]
              refine ⟨?_, hsl, hwin⟩
              rcases hst with ⟨rfl, _⟩ | ⟨e, oe, h1, h2, rfl, _⟩
              · simp
              · have := stNums_mem _ 0 e oe h1 h2
                rw [Nat.zero_add] at this
                exact List.mem_cons_of_mem _ this
            · rcases hst with ⟨rfl, rfl⟩ | ⟨e, oe, h1, h2, rfl, h3⟩
              · exact .inl ⟨Nat.le_refl _, by simp [lget]⟩
              · exact .inr ⟨e, oe, by omega, h1, h2, by omega, h3⟩
          rcases hst with ⟨rfl, _⟩ | ⟨e, oe, h1, h2, h3, h4⟩
          · exact back (Nat.zero_le _)
          · by_cases hel : s ≤ l
            · exact back hel
            · have hne : l ≠ e := by
                intro e1; subst e1
                rw [hl] at h1; cases h1
                revert hlo h2; unfold isLoad isEff; cases kind o.op <;> simp
              have := (Good.fwd _ _ _ _ _ _ _ hg e oe h1 h2).2 l o rec (by omega) (by
                rw [mkTb_at _ _ _ _ h1, Nat.zero_add, Nat.zero_add]
                unfold rowTb
                rw [if_neg (by revert h2; unfold isLoad isEff; cases kind oe.op <;> simp), if_pos h2]
                simp only [Tb.fwd, List.mem_filter, List.mem_range, Bool.and_eq_true]
                exact ⟨by omega, by rw [hl]; exact hlo, by rw [← h3]; exact hwin⟩) hl hr hlo hwa
              rw [h4]; exact this
        obtain ⟨t, a, p, k1, k2, k3⟩ := fin
        have : pload P hs (aeval rec.fr rec.h.glob) o.op = some rec.v := by rw [k1]; simp only [pload, k2]; exact k3
        rw [this]
        exact avEq_refl _
    · rfl
  · rfl
end
attribute [irreducible] SD DW dpost dskip dkop
end Go.Eng
/- The engine, part 28: the rules of part 27 as rules of rewriting; more rules. -/
namespace Go.Eng
attribute [local semireducible] AW OW SW EW CW Ca kop optP Wv Wn Wh SG Br SD DW dpost dskip dkop

/-! ### regions that draw -/
def ldp (P : Program) (x : Option AV) (t : TypeId) (ss : List Nat) (i : Nat) (Hs : List (Nat × AHeap)) (Ls : LL) (K : List (Nat × AHeap) → LL → AV → AHeap → Prop) (v : AV) (h' : AHeap) : Prop := match x with
  | some p => dchk P Hs t p v ss ∧ K Hs ((i, t, p, v) :: Ls) v h'
  | none => False
section
variable {P : Program}
@[simp] theorem dpost_plain (fr : AFrame) (g i : Nat) (op : Op) (Hs : List (Nat × AHeap)) (Ls : LL) (K : List (Nat × AHeap) → LL → AV → AHeap → Prop) (v : AV) (h' : AHeap) : dpost P .plain fr g i op Hs Ls K v h' = K Hs Ls v h' := rfl
@[simp] theorem dpost_load (ss : List Nat) (fr : AFrame) (g i : Nat) (t : TypeId) (a : Operand) (Hs : List (Nat × AHeap)) (Ls : LL) (K : List (Nat × AHeap) → LL → AV → AHeap → Prop) (v : AV) (h' : AHeap) :
    dpost P (.load ss) fr g i (.load t a) Hs Ls K v h' = ldp P (aeval fr g a) t ss i Hs Ls K v h' := rfl
@[simp] theorem dpost_eff (ls : List Nat) (fr : AFrame) (g i : Nat) (op : Op) (Hs : List (Nat × AHeap)) (Ls : LL) (K : List (Nat × AHeap) → LL → AV → AHeap → Prop) (v : AV) (h' : AHeap) :
    dpost P (.eff ls) fr g i op Hs Ls K v h' = (fchk P h' Ls ls ∧ K ((i + 1, h') :: Hs) Ls v h') := rfl
@[simp] theorem dskip_plain (i : Nat) (Hs : List (Nat × AHeap)) (Ls : LL) (K : List (Nat × AHeap) → LL → AV → AHeap → Prop) (v : AV) (h' : AHeap) : dskip P .plain i Hs Ls K v h' = K Hs Ls v h' := rfl
@[simp] theorem dskip_load (ss : List Nat) (i : Nat) (Hs : List (Nat × AHeap)) (Ls : LL) (K : List (Nat × AHeap) → LL → AV → AHeap → Prop) (v : AV) (h' : AHeap) : dskip P (.load ss) i Hs Ls K v h' = K Hs Ls v h' := rfl
@[simp] theorem dskip_eff (ls : List Nat) (i : Nat) (Hs : List (Nat × AHeap)) (Ls : LL) (K : List (Nat × AHeap) → LL → AV → AHeap → Prop) (v : AV) (h' : AHeap) :
    dskip P (.eff ls) i Hs Ls K v h' = (fchk P h' Ls ls ∧ K ((i + 1, h') :: Hs) Ls v h') := rfl
@[simp] theorem ldp_some (p : AV) (t : TypeId) (ss : List Nat) (i : Nat) (Hs : List (Nat × AHeap)) (Ls : LL) (K : List (Nat × AHeap) → LL → AV → AHeap → Prop) (v : AV) (h' : AHeap) :
    ldp P (some p) t ss i Hs Ls K v h' = (dchk P Hs t p v ss ∧ K Hs ((i, t, p, v) :: Ls) v h') := rfl
@[congr] theorem ldp_congr {x x' : Option AV} {t : TypeId} {ss : List Nat} {i : Nat} {Hs : List (Nat × AHeap)} {Ls : LL} {K : List (Nat × AHeap) → LL → AV → AHeap → Prop} {v : AV} {h' : AHeap} (hx : x = x') : ldp P x t ss i Hs Ls K v h' = ldp P x' t ss i Hs Ls K v h' := by rw [hx]
@[congr] theorem dpost_congr {tb : Tb} {fr : AFrame} {g i : Nat} {op : Op} {Hs : List (Nat × AHeap)} {Ls : LL} {K : List (Nat × AHeap) → LL → AV → AHeap → Prop} {v v' : AV} {h' : AHeap} (hv : v = v') : dpost P tb fr g i op Hs Ls K v h' = dpost P tb fr g i op Hs Ls K v' h' := by rw [hv]
@[simp] theorem dchk_nil (Hs : List (Nat × AHeap)) (t : TypeId) (p v : AV) : dchk P Hs t p v [] = True := rfl
@[simp] theorem dchk_cons (Hs : List (Nat × AHeap)) (t : TypeId) (p v : AV) (s : Nat) (r : List Nat) : dchk P Hs t p v (s :: r) = (aload P (hat Hs s) t p = some v ∧ dchk P Hs t p v r) := rfl
@[simp] theorem fchk_nil (h : AHeap) (Ls : LL) : fchk P h Ls [] = True := rfl
@[simp] theorem fchk_cons (h : AHeap) (Ls : LL) (l : Nat) (r : List Nat) : fchk P h Ls (l :: r) = (lchk P h (lget Ls l) ∧ fchk P h Ls r) := rfl
@[simp] theorem lchk_some (h : AHeap) (t : TypeId) (p v : AV) : lchk P h (some (t, p, v)) = (aload P h t p = some v) := rfl
@[simp] theorem lchk_none (h : AHeap) : lchk P h none = True := rfl
@[simp] theorem lget_nil {α : Type} (i : Nat) : lget ([] : List (Nat × α)) i = none := rfl
@[simp] theorem lget_cons {α : Type} (j i : Nat) (v : α) (l : List (Nat × α)) : lget ((j, v) :: l) i = if j = i then some v else lget l i := by
  by_cases h : j = i
  · subst h; simp [lget_cons_eq]
  · rw [lget_cons_ne v l h, if_neg h]
@[simp] theorem hat_cons (j s : Nat) (h : AHeap) (l : List (Nat × AHeap)) : hat ((j, h) :: l) s = if j = s then h else hat l s := by
  unfold hat
  rw [lget_cons]
  by_cases e : j = s
  · rw [if_pos e, if_pos e]
  · rw [if_neg e, if_neg e]
end
section
variable {P : Program} [Orc]
@[simp] theorem SD_free (ops : Array Oper) (tb : Tb) (i : Nat) (fr : AFrame) (h : AHeap) (dst : Option Tmp) (op : Op) (ty : TypeId) (pos : String) (after : Array Edge) (Hs : List (Nat × AHeap)) (Ls : LL) (K : List (Nat × AHeap) → LL → AV → AHeap → Prop) :
    SD P ops tb i fr h ⟨dst, op, ty, pos, after, none⟩ Hs Ls K = EW P fr h op (dpost P tb fr h.glob i op Hs Ls K) := rfl
def SGd (P : Program) [Orc] (g : Option AV) (want : Bool) (tb : Tb) (i : Nat) (fr : AFrame) (h : AHeap) (op : Op) (Hs : List (Nat × AHeap)) (Ls : LL) (K : List (Nat × AHeap) → LL → AV → AHeap → Prop) : Prop :=
  match g with
  | some (.bool b) => Br (b == want) (EW P fr h op (dpost P tb fr h.glob i op Hs Ls K)) (dskip P tb i Hs Ls K (.tuple []) h) .mk .mk
  | some (.tuple _) => dskip P tb i Hs Ls K (.tuple []) h
  | _ => False
@[congr] theorem SGd_congr {g g' : Option AV} {want : Bool} {tb : Tb} {i : Nat} {fr : AFrame} {h : AHeap} {op : Op} {Hs : List (Nat × AHeap)} {Ls : LL} {K : List (Nat × AHeap) → LL → AV → AHeap → Prop} (hg : g = g') : SGd P g want tb i fr h op Hs Ls K = SGd P g' want tb i fr h op Hs Ls K := by rw [hg]
@[simp] theorem SGd_bool (b want : Bool) (tb : Tb) (i : Nat) (fr : AFrame) (h : AHeap) (op : Op) (Hs : List (Nat × AHeap)) (Ls : LL) (K : List (Nat × AHeap) → LL → AV → AHeap → Prop) :
    SGd P (some (.bool b)) want tb i fr h op Hs Ls K = Br (b == want) (EW P fr h op (dpost P tb fr h.glob i op Hs Ls K)) (dskip P tb i Hs Ls K (.tuple []) h) .mk .mk := rfl
@[simp] theorem SGd_tuple (l : List AV) (want : Bool) (tb : Tb) (i : Nat) (fr : AFrame) (h : AHeap) (op : Op) (Hs : List (Nat × AHeap)) (Ls : LL) (K : List (Nat × AHeap) → LL → AV → AHeap → Prop) :
    SGd P (some (.tuple l)) want tb i fr h op Hs Ls K = dskip P tb i Hs Ls K (.tuple []) h := rfl
@[simp] theorem SD_guard (ops : Array Oper) (tb : Tb) (i : Nat) (fr : AFrame) (h : AHeap) (dst : Option Tmp) (op : Op) (ty : TypeId) (pos : String) (after : Array Edge) (j : Nat) (want : Bool) (Hs : List (Nat × AHeap)) (Ls : LL) (K : List (Nat × AHeap) → LL → AV → AHeap → Prop) :
    SD P ops tb i fr h ⟨dst, op, ty, pos, after, some (j, want)⟩ Hs Ls K = SGd P (gget fr (gdst ops.toList j)) want tb i fr h op Hs Ls K := by
  rw [gdst_eq]
  simp only [SD, awanted, Array.getElem?_toList]
  cases hd : (ops[j]?).bind (·.dst) with
  | none => simp [gget, SGd]
  | some d =>
    simp only [gget]
    cases fr.get d with
    | none => rfl
    | some v =>
      cases v with
      | bool b => cases b <;> cases want <;> simp [SGd]
      | _ => rfl
attribute [simp] DW_nil DW_cons
@[simp] theorem dkop_none (ops : Array Oper) (r : List Oper) (tbs : List Tb) (i : Nat) (fr : AFrame) (K : AFrame → AHeap → Prop) (Hs : List (Nat × AHeap)) (Ls : LL) (v : AV) (h : AHeap) : dkop P ops r tbs i fr none K Hs Ls v h = DW P ops r tbs i fr h Hs Ls K := rfl
@[simp] theorem dkop_put (ops : Array Oper) (r : List Oper) (tbs : List Tb) (i : Nat) {fr : AFrame} {d : Tmp} (hd : d < fr.n) (K : AFrame → AHeap → Prop) (Hs : List (Nat × AHeap)) (Ls : LL) (v : AV) (h : AHeap) : dkop P ops r tbs i fr (some d) K Hs Ls v h = DW P ops r tbs i (fr.upd d v) h Hs Ls K := by
  simp only [dkop, hd, true_and]
@[congr] theorem dkop_congr {ops : Array Oper} {r : List Oper} {tbs : List Tb} {i : Nat} {fr : AFrame} {d : Option Tmp} {K : AFrame → AHeap → Prop} {Hs : List (Nat × AHeap)} {Ls : LL} {v v' : AV} {h : AHeap} (hv : v = v') : dkop P ops r tbs i fr d K Hs Ls v h = dkop P ops r tbs i fr d K Hs Ls v' h := by rw [hv]
theorem AW_region_d {id : Nat} {ops : Array Oper} {fr : AFrame} {h : AHeap} {Q : AEx → AFrame → AHeap → Prop} (tb : List Tb) (hd : drawOk ops = true) (ht : table ops = tb) (hw : DW P ops ops.toList tb 0 fr h [(0, h)] [] (Q .normal)) : AW P (.region id ops true) fr h Q := by
  subst ht
  obtain ⟨n, fr', h', h1, h2⟩ := DW_draw hd hw
  exact ⟨n, fr', h', h1, h2⟩
/-- In another order. -/
theorem AW_region_p {id : Nat} {ops : Array Oper} {fr : AFrame} {h : AHeap} {Q : AEx → AFrame → AHeap → Prop} (σ : List Nat) (tb : List Tb) (h0 : drawOk ops = false) (hσ : reorder ops = σ) (hp : isPerm σ ops.size = true) (hd : drawOk (permOps ops σ) = true) (ht : table (permOps ops σ) = tb)
    (hw : DW P (permOps ops σ) (permL ops.toList (pos σ) σ) tb 0 fr h [(0, h)] [] (Q .normal)) : AW P (.region id ops true) fr h Q := by
  have e : effOps ops = permOps ops σ := by unfold effOps; rw [if_neg (by simp [h0]), hσ, if_pos hp]
  have hw' : DW P (permOps ops σ) (permOps ops σ).toList (table (permOps ops σ)) 0 fr h [(0, h)] [] (Q .normal) := by rw [ht]; simpa [permOps] using hw
  obtain ⟨n, fr', h', h1, h2⟩ := DW_draw hd hw'
  refine ⟨n, fr', h', ?_, h2⟩
  rw [adraw_eq hd] at h1
  unfold adraw
  rw [e]; exact h1
theorem DW_mono {ops : Array Oper} : ∀ (l : List Oper) (tbs : List Tb) (i : Nat) (fr : AFrame) (h : AHeap) (Hs : List (Nat × AHeap)) (Ls : LL) (K K' : AFrame → AHeap → Prop), DW P ops l tbs i fr h Hs Ls K → (∀ fr h, K fr h → K' fr h) → DW P ops l tbs i fr h Hs Ls K'
  | [], _, _, _, _, _, _, _, _, hw, hk => by rw [DW_nil] at hw ⊢; exact hk _ _ hw
  | o :: l, [], _, _, _, _, _, _, _, hw, _ => by simp only [DW] at hw
  | o :: l, tb :: tbs, i, fr, h, Hs, Ls, K, K', hw, hk => by
    rw [DW_cons] at hw ⊢
    have next : ∀ Hs Ls v h', dkop P ops l tbs (i + 1) fr o.dst K Hs Ls v h' → dkop P ops l tbs (i + 1) fr o.dst K' Hs Ls v h' := by
      intro Hs Ls v h' hx
      unfold dkop at *
      split at hx
      · exact DW_mono l _ _ _ _ _ _ _ _ hx hk
      · exact ⟨hx.1, DW_mono l _ _ _ _ _ _ _ _ hx.2 hk⟩
    unfold SD at *
    split at hw
    · refine EW_mono hw fun v h' hp => ?_
      unfold dpost at *
      split at hp
      · exact next _ _ _ _ hp
      · split at hp
        · split at hp
          · exact ⟨hp.1, next _ _ _ _ hp.2⟩
          · exact hp
        · exact hp
      · exact ⟨hp.1, next _ _ _ _ hp.2⟩
    · unfold dskip at *
      split at hw
      · exact next _ _ _ _ hw
      · exact next _ _ _ _ hw
      · exact ⟨hw.1, next _ _ _ _ hw.2⟩
    · exact hw
theorem DW_cut {ops : Array Oper} {l : List Oper} {tbs : List Tb} {i : Nat} {fr : AFrame} {h : AHeap} {Hs : List (Nat × AHeap)} {Ls : LL} {K : AFrame → AHeap → Prop} (R : AFrame → AHeap → Prop) (h1 : DW P ops l tbs i fr h Hs Ls R) (h2 : ∀ fr h, R fr h → K fr h) : DW P ops l tbs i fr h Hs Ls K := DW_mono _ _ _ _ _ _ _ _ _ h1 h2

/-! ### more operations -/
@[simp] theorem EW_nilCheck (fr : AFrame) (h : AHeap) (x : Operand) (K : AV → AHeap → Prop) : EW P fr h (.nilCheck x) K = Wv (ppure P (aeval fr h.glob) (.nilCheck x)) h K := Wv_of
@[simp] theorem EW_makeFunc (fr : AFrame) (h : AHeap) (f : Fn) (a b : Array Operand) (K : AV → AHeap → Prop) : EW P fr h (.makeFunc f a b) K = Wv (ppure P (aeval fr h.glob) (.makeFunc f a b)) h K := Wv_of
@[simp] theorem EW_sl2arr (fr : AFrame) (h : AHeap) (t : TypeId) (x : Operand) (K : AV → AHeap → Prop) : EW P fr h (.sliceToArrayPointer t x) K = Wv (ppure P (aeval fr h.glob) (.sliceToArrayPointer t x)) h K := Wv_of
def aclear2 (P : Program) (h : AHeap) (ts : List TypeId) (l : Option (List AV)) : Option (AV × AHeap) := match l with | some l => aclear P h ts l | none => none
omit [Orc] in
@[simp] theorem aclear2_some (h : AHeap) (ts : List TypeId) (l : List AV) : aclear2 P h ts (some l) = aclear P h ts l := rfl
@[simp] theorem EW_clear (fr : AFrame) (h : AHeap) (xs : Array Operand) (ts : Array TypeId) (K : AV → AHeap → Prop) : EW P fr h (.call ⟨.builtin .clear, xs, ts⟩) K = optP (aclear2 P h ts.toList (evs (aeval fr h.glob) xs.toList)) K := by
  simp only [EW, aop, kind, peff, aclear2]
  cases evs (aeval fr h.glob) xs.toList <;> rfl
end
section
variable {P : Program}
@[simp] theorem aeval_nilptr (fr : AFrame) (g : Nat) : aeval fr g (.const (.pointer none)) = some .nilptr := rfl
def nc2 (a : Option AV) : Option AV := match a with
  | some (.ptr b o) => some (.ptr b o)
  | some (.func f l) => some (.func f l)
  | _ => none
@[simp] theorem ppure_nilCheck (ev : Operand → Option AV) (x : Operand) : ppure P ev (.nilCheck x) = nc2 (ev x) := by
  simp only [ppure, nc2]
  cases ev x with
  | none => rfl
  | some v => cases v <;> rfl
@[simp] theorem nc2_ptr (b o : Nat) : nc2 (some (.ptr b o)) = some (.ptr b o) := rfl
@[simp] theorem nc2_func (f : FuncId) (l : List AV) : nc2 (some (.func f l)) = some (.func f l) := rfl
def mf2 (f : FuncId) (l : Option (List AV)) : Option AV := match l with | some l => some (.func f l) | none => none
@[simp] theorem mf2_some (f : FuncId) (l : List AV) : mf2 f (some l) = some (.func f l) := rfl
@[simp] theorem ppure_makeFunc (ev : Operand → Option AV) (f : FuncId) (b : Array Operand) : ppure P ev (.makeFunc (.func f) #[] b) = mf2 f (evs ev b.toList) := by
  simp only [ppure, mf2]
  cases evs ev b.toList <;> rfl
def sa2 (P : Program) (t : TypeId) (a : Option AV) : Option AV := match a with | some a => psl2arr P t a | none => none
@[simp] theorem ppure_sl2arr (ev : Operand → Option AV) (t : TypeId) (x : Operand) : ppure P ev (.sliceToArrayPointer t x) = sa2 P t (ev x) := rfl
@[simp] theorem sa2_some (t : TypeId) (a : AV) : sa2 P t (some a) = psl2arr P t a := rfl
def cv2 (P : Program) (s d : TypeId) (a : Option AV) : Option AV := match a with | some a => pconv P s d a | none => none
@[simp] theorem ppure_convert (ev : Operand → Option AV) (s d : TypeId) (x : Operand) : ppure P ev (.convert s d x) = cv2 P s d (ev x) := rfl
@[simp] theorem cv2_some (s d : TypeId) (a : AV) : cv2 P s d (some a) = pconv P s d a := rfl
theorem pconv_int {s d : TypeId} {ds : TypeDesc} {k : IntKind} (h1 : P.underlying s = some ds) (h2 : P.underlying d = some (.int k)) (j : IntKind) (n : Int) : pconv P s d (.int j n) = some (.int k (k.wrap n)) := by simp [pconv, h1, h2]
def evo2 (a : Option AV) : Option (Option AV) := match a with | some a => some (some a) | none => none
@[simp] theorem evo2_some (a : AV) : evo2 (some a) = some (some a) := rfl
@[simp] theorem evo_none (ev : Operand → Option AV) : evo ev none = some none := rfl
@[simp] theorem evo_some (ev : Operand → Option AV) (x : Operand) : evo ev (some x) = evo2 (ev x) := by
  simp only [evo, evo2]
  cases ev x <;> rfl
def sl4 (P : Program) (t : TypeId) (a : Option AV) (l h m : Option (Option AV)) : Option AV := match a, l, h, m with | some a, some l, some h, some m => pslice P t a l h m | _, _, _, _ => none
@[simp] theorem ppure_slice (ev : Operand → Option AV) (t : TypeId) (x : Operand) (lo hi mx : Option Operand) : ppure P ev (.slice t x lo hi mx) = sl4 P t (ev x) (evo ev lo) (evo ev hi) (evo ev mx) := rfl
@[simp] theorem sl4_some (t : TypeId) (a : AV) (l h m : Option AV) : sl4 P t (some a) (some l) (some h) (some m) = pslice P t a l h m := rfl
def fd2 (P : Program) (t : TypeId) (f : Nat) (a : Option AV) : Option AV := match a with | some a => pfield P t a f | none => none
@[simp] theorem ppure_field (ev : Operand → Option AV) (t : TypeId) (x : Operand) (f : Nat) : ppure P ev (.field t x f) = fd2 P t f (ev x) := rfl
@[simp] theorem fd2_some (t : TypeId) (f : Nat) (a : AV) : fd2 P t f (some a) = pfield P t a f := rfl
def min2 (l : Option (List AV)) : Option AV := match l with | some l => pminmax false l | none => none
@[simp] theorem ppure_min (ev : Operand → Option AV) (xs : Array Operand) (ts : Array TypeId) : ppure P ev (.call ⟨.builtin .min, xs, ts⟩) = min2 (evs ev xs.toList) := rfl
theorem min2_nat (k : IntKind) (a b : Nat) : min2 (some [.int k (a : Int), .int k (b : Int)]) = some (.int k ((min a b : Nat) : Int)) := by
  simp only [min2, pminmax, pminmax.go]
  congr 1
  by_cases h : (b : Int) < a
  · simp only [Bool.false_eq_true, if_false, if_pos h]; rw [Nat.min_eq_right (by omega)]
  · simp only [Bool.false_eq_true, if_false, if_neg h]; rw [Nat.min_eq_left (by omega)]
theorem max2_int (k : IntKind) (a b : Int) : max2 (some [.int k a, .int k b]) = some (.int k (max a b)) := by
  simp only [max2, pminmax, pminmax.go, if_true]
  congr 1
  by_cases h : a < b
  · rw [if_pos h]; congr 1; omega
  · rw [if_neg h]; congr 1; omega
section
variable (t : TypeId) (x y : Operand)
theorem bin2_eql_ptr {e : TypeId} {t : TypeId} (hu : P.underlying t = some (.pointer e)) (x y : Operand) (b o : Nat) : bin2 P .eql t x y (some (.ptr b o)) (some .nilptr) = some (.bool false) := by simp [bin2, okEq, pbin, aeq, hu]
theorem bin2_neq_ptr {e : TypeId} {t : TypeId} (hu : P.underlying t = some (.pointer e)) (x y : Operand) (b o : Nat) : bin2 P .neq t x y (some (.ptr b o)) (some .nilptr) = some (.bool true) := by simp [bin2, okEq, pbin, aeq, hu]
theorem bin2_eql_nilptr {e : TypeId} {t : TypeId} (hu : P.underlying t = some (.pointer e)) (x y : Operand) : bin2 P .eql t x y (some .nilptr) (some .nilptr) = some (.bool true) := by simp [bin2, okEq, pbin, aeq, hu]
theorem bin2_eql_bool {t : TypeId} (hu : P.underlying t = some .bool) (x y : Operand) (a b : Bool) : bin2 P .eql t x y (some (.bool a)) (some (.bool b)) = some (.bool (a == b)) := by simp [bin2, okEq, pbin, aeq, hu]
theorem bin2_neq_bool {t : TypeId} (hu : P.underlying t = some .bool) (x y : Operand) (a b : Bool) : bin2 P .neq t x y (some (.bool a)) (some (.bool b)) = some (.bool (!(a == b))) := by simp [bin2, okEq, pbin, aeq, hu]
theorem bin2_eql_nilsl {e : TypeId} {t : TypeId} (hu : P.underlying t = some (.slice e)) (x y : Operand) : bin2 P .eql t x y (some .nilsl) (some .nilsl) = some (.bool true) := by simp [bin2, okEq, pbin, aeq, hu]
theorem bin2_eql_sl {e : TypeId} {t : TypeId} (hu : P.underlying t = some (.slice e)) (x y : Operand) (b o z l : Nat) (c : Cap) : bin2 P .eql t x y (some (.sl b o z l c)) (some .nilsl) = some (.bool false) := by simp [bin2, okEq, pbin, aeq, hu]
theorem bin2_xor (k : IntKind) (a b : Int) : bin2 P .xor t x y (some (.int k a)) (some (.int k b)) = some (.int k (k.wrap (BitVec.ofInt k.bits a ^^^ BitVec.ofInt k.bits b).toNat)) := by simp [bin2, okEq, pbin, pint]
theorem bin2_or' (k : IntKind) (a b : Int) : bin2 P .or t x y (some (.int k a)) (some (.int k b)) = some (.int k (k.wrap (BitVec.ofInt k.bits a ||| BitVec.ofInt k.bits b).toNat)) := by simp [bin2, okEq, pbin, pint]
theorem bin2_shl {b : Int} (hb : 0 ≤ b) (k k' : IntKind) (a : Int) : bin2 P .shl t x y (some (.int k a)) (some (.int k' b)) = some (.int k (k.wrap (a * 2 ^ (min b.toNat k.bits)))) := by simp [bin2, okEq, pbin, pshift, Int.not_lt.2 hb]
theorem bin2_shr {b : Int} (hb : 0 ≤ b) (k k' : IntKind) (a : Int) : bin2 P .shr t x y (some (.int k a)) (some (.int k' b)) = some (.int k (a.fdiv (2 ^ (min b.toNat k.bits)))) := by simp [bin2, okEq, pbin, pshift, Int.not_lt.2 hb]
theorem bin2_rem {b : Int} (hb : b ≠ 0) (k : IntKind) (a : Int) : bin2 P .rem t x y (some (.int k a)) (some (.int k b)) = some (.int k (a.tmod b)) := by simp [bin2, okEq, pbin, pint, hb]
end
@[simp] theorem one_nilptr : AV.one .nilptr = true := rfl
@[simp] theorem allOne_nilptr : allOne .nilptr = true := rfl
@[simp] theorem cells_ptr (b o : Nat) : AV.cells (.ptr b o) = [.ptr b o] := rfl
@[simp] theorem cells_nilptr : AV.cells .nilptr = [.nilptr] := rfl
@[simp] theorem cells_func (f : FuncId) (l : List AV) : AV.cells (.func f l) = [.func f l] := rfl
@[simp] theorem one_func (f : FuncId) (l : List AV) : AV.one (.func f l) = true := rfl
end
attribute [irreducible] SGd ldp
end Go.Eng
