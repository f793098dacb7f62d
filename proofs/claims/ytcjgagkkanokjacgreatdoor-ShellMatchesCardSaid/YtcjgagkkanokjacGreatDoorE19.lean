/- The engine, part 19: a calculus of weakest preconditions over the engine. -/
import Derived.Test.YtcjgagkkanokjacGreatDoorE17
namespace Go.Eng

def AFrame.upd (fr : AFrame) (d : Nat) (v : AV) : AFrame := { fr with t := T.set 6 fr.t d v }
theorem AFrame.upd_n (fr : AFrame) (d : Nat) (v : AV) : (fr.upd d v).n = fr.n := rfl
theorem AFrame.upd_get (fr : AFrame) (d : Nat) (v : AV) (i : Nat) : (fr.upd d v).get i = if d = i then some v else fr.get i := by
  simp only [AFrame.upd, AFrame.get, T.get_set]
theorem AFrame.put_upd {fr : AFrame} {d : Nat} (v : AV) (h : d < fr.n) : fr.put (some d) v = some (fr.upd d v) := by
  have : Nat.blt d fr.n = true := by simp only [Nat.blt, Nat.ble_eq]; exact h
  simp only [AFrame.put, this, cond_true, AFrame.upd]
/-- A call comes back, and K holds of its result. -/
def Ca (P : Program) [Orc] (f : FuncId) (args : List AV) (h : AHeap) (K : AV → AHeap → Prop) : Prop :=
  ∃ n r h', acall P n f args h = some (r, h') ∧ K r h'
theorem Ca.mono {P : Program} [Orc] {f : FuncId} {args : List AV} {h : AHeap} {K K' : AV → AHeap → Prop} (hc : Ca P f args h K) (hk : ∀ r h', K r h' → K' r h') : Ca P f args h K' :=
  let ⟨n, r, h', h1, h2⟩ := hc
  ⟨n, r, h', h1, hk r h' h2⟩
theorem Ca.and_nx {P : Program} [Orc] {f : FuncId} {args : List AV} {h : AHeap} {K : AV → AHeap → Prop} (hc : Ca P f args h K) : Ca P f args h fun r h' => K r h' ∧ Nx h h' :=
  let ⟨n, r, h', h1, h2⟩ := hc
  ⟨n, r, h', h1, h2, acall_nx n _ _ _ _ _ h1⟩

def noCall : CallFn := fun _ _ _ => none
theorem noCall_le (c : CallFn) : CallLe noCall c := fun _ _ _ _ h => by cases h

def optP (x : Option (AV × AHeap)) (K : AV → AHeap → Prop) : Prop := match x with | some (v, h) => K v h | none => False
def CW (P : Program) [Orc] (f : Option AV) (l : Option (List AV)) (h : AHeap) (K : AV → AHeap → Prop) : Prop :=
  match f, l with
  | some (.func g cap), some l => (hasBody P g = true ∧ Ca P g (l ++ cap) h K) ∨ (hasBody P g = false ∧ ∃ v h', aext g (l ++ cap) h = some (v, h') ∧ K v h')
  | _, _ => False
def EW (P : Program) [Orc] (fr : AFrame) (h : AHeap) (op : Op) (K : AV → AHeap → Prop) : Prop :=
  match op with
  | .call ⟨.value f, args, _⟩ => CW P (aeval fr h.glob f) (evs (aeval fr h.glob) args.toList) h K
  | op => optP (aop P noCall h (aeval fr h.glob) op) K
def SW (P : Program) [Orc] (ops : Array Oper) (fr : AFrame) (h : AHeap) (o : Oper) (K : AV → AHeap → Prop) : Prop :=
  match awanted ops fr o with
  | some true => EW P fr h o.op K
  | some false => K (.tuple []) h
  | none => False
def OW (P : Program) [Orc] (ops : Array Oper) : List Oper → AFrame → AHeap → (AFrame → AHeap → Prop) → Prop
  | [], fr, h, K => K fr h
  | o :: r, fr, h, K => SW P ops fr h o fun v h' => match o.dst with
    | none => OW P ops r fr h' K
    | some d => d < fr.n ∧ OW P ops r (fr.upd d v) h' K
def kop (P : Program) [Orc] (ops : Array Oper) (r : List Oper) (fr : AFrame) (dst : Option Tmp) (K : AFrame → AHeap → Prop) (v : AV) (h' : AHeap) : Prop :=
  match dst with
  | none => OW P ops r fr h' K
  | some d => d < fr.n ∧ OW P ops r (fr.upd d v) h' K
theorem OW_nil (P : Program) [Orc] (ops : Array Oper) (fr : AFrame) (h : AHeap) (K : AFrame → AHeap → Prop) : OW P ops [] fr h K = K fr h := rfl
theorem OW_cons (P : Program) [Orc] (ops : Array Oper) (o : Oper) (r : List Oper) (fr : AFrame) (h : AHeap) (K : AFrame → AHeap → Prop) :
    OW P ops (o :: r) fr h K = SW P ops fr h o (kop P ops r fr o.dst K) := rfl
theorem kop_none (P : Program) [Orc] (ops : Array Oper) (r : List Oper) (fr : AFrame) (K : AFrame → AHeap → Prop) (v : AV) (h : AHeap) : kop P ops r fr none K v h = OW P ops r fr h K := rfl
theorem kop_some (P : Program) [Orc] (ops : Array Oper) (r : List Oper) (fr : AFrame) (d : Tmp) (K : AFrame → AHeap → Prop) (v : AV) (h : AHeap) : kop P ops r fr (some d) K v h = (d < fr.n ∧ OW P ops r (fr.upd d v) h K) := rfl

def AW (P : Program) [Orc] : Code → AFrame → AHeap → (AEx → AFrame → AHeap → Prop) → Prop
  | .skip, fr, h, Q => Q .normal fr h
  | .label _, fr, h, Q => Q .normal fr h
  | .region _ ops draw, fr, h, Q => match draw with
    | false => OW P ops ops.toList fr h (Q .normal)
    | true => ∃ n fr' h', adraw P (acall P n) ops fr h = some (fr', h') ∧ Q .normal fr' h'
  | .seq x y, fr, h, Q => AW P x fr h fun e fr' h' => match e with
    | .normal => AW P y fr' h' Q
    | .exit id => Q (.exit id) fr' h'
    | .ret => Q .ret fr' h'
  | .cond c x y, fr, h, Q => match aeval fr h.glob c with
    | some (.bool b) => match b with
      | true => AW P x fr h Q
      | false => AW P y fr h Q
    | _ => False
  | .block id c, fr, h, Q => AW P c fr h fun e fr' h' => match e with
    | .normal => Q .normal fr' h'
    | .exit id' => if id' = id then Q .normal fr' h' else Q (.exit id') fr' h'
    | .ret => Q .ret fr' h'
  | .loop c, fr, h, Q => ∃ n e fr' h', aexec P (acall P n) n (.loop c) fr h = some (e, fr', h') ∧ Q e fr' h'
  | .exit id, fr, h, Q => Q (.exit id) fr h
  | .ret, fr, h, Q => Q .ret fr h
  | _, _, _, _ => False
def kseq (P : Program) [Orc] (y : Code) (Q : AEx → AFrame → AHeap → Prop) (e : AEx) (fr : AFrame) (h : AHeap) : Prop :=
  match e with
  | .normal => AW P y fr h Q
  | .exit id => Q (.exit id) fr h
  | .ret => Q .ret fr h
def kblock (id : Nat) (Q : AEx → AFrame → AHeap → Prop) (e : AEx) (fr : AFrame) (h : AHeap) : Prop :=
  match e with
  | .normal => Q .normal fr h
  | .exit id' => if id' = id then Q .normal fr h else Q (.exit id') fr h
  | .ret => Q .ret fr h
def kloop (I : Nat → AFrame → AHeap → Prop) (k : Nat) (Q : AEx → AFrame → AHeap → Prop) (e : AEx) (fr : AFrame) (h : AHeap) : Prop :=
  match e with
  | .normal => ∃ j, j < k ∧ I j fr h
  | .exit id => Q (.exit id) fr h
  | .ret => Q .ret fr h

section
variable {P : Program} [Orc]
theorem AW_seq (x y : Code) (fr : AFrame) (h : AHeap) (Q : AEx → AFrame → AHeap → Prop) : AW P (.seq x y) fr h Q = AW P x fr h (kseq P y Q) := rfl
theorem AW_block (id : Nat) (c : Code) (fr : AFrame) (h : AHeap) (Q : AEx → AFrame → AHeap → Prop) : AW P (.block id c) fr h Q = AW P c fr h (kblock id Q) := rfl
theorem AW_exit (id : Nat) (fr : AFrame) (h : AHeap) (Q : AEx → AFrame → AHeap → Prop) : AW P (.exit id) fr h Q = Q (.exit id) fr h := rfl
theorem AW_ret (fr : AFrame) (h : AHeap) (Q : AEx → AFrame → AHeap → Prop) : AW P .ret fr h Q = Q .ret fr h := rfl
theorem AW_skip (fr : AFrame) (h : AHeap) (Q : AEx → AFrame → AHeap → Prop) : AW P .skip fr h Q = Q .normal fr h := rfl
theorem AW_label (l : Nat) (fr : AFrame) (h : AHeap) (Q : AEx → AFrame → AHeap → Prop) : AW P (.label l) fr h Q = Q .normal fr h := rfl
theorem kseq_normal (y : Code) (Q : AEx → AFrame → AHeap → Prop) (fr : AFrame) (h : AHeap) : kseq P y Q .normal fr h = AW P y fr h Q := rfl
theorem kseq_exit (y : Code) (Q : AEx → AFrame → AHeap → Prop) (id : Nat) (fr : AFrame) (h : AHeap) : kseq P y Q (.exit id) fr h = Q (.exit id) fr h := rfl
theorem kseq_ret (y : Code) (Q : AEx → AFrame → AHeap → Prop) (fr : AFrame) (h : AHeap) : kseq P y Q .ret fr h = Q .ret fr h := rfl
omit [Orc] in
theorem kblock_normal (id : Nat) (Q : AEx → AFrame → AHeap → Prop) (fr : AFrame) (h : AHeap) : kblock id Q .normal fr h = Q .normal fr h := rfl
omit [Orc] in
theorem kblock_ret (id : Nat) (Q : AEx → AFrame → AHeap → Prop) (fr : AFrame) (h : AHeap) : kblock id Q .ret fr h = Q .ret fr h := rfl
omit [Orc] in
theorem kblock_exit (id id' : Nat) (Q : AEx → AFrame → AHeap → Prop) (fr : AFrame) (h : AHeap) : kblock id Q (.exit id') fr h = if id' = id then Q .normal fr h else Q (.exit id') fr h := rfl
omit [Orc] in
theorem kloop_normal (I : Nat → AFrame → AHeap → Prop) (k : Nat) (Q : AEx → AFrame → AHeap → Prop) (fr : AFrame) (h : AHeap) : kloop I k Q .normal fr h = ∃ j, j < k ∧ I j fr h := rfl
omit [Orc] in
theorem kloop_exit (I : Nat → AFrame → AHeap → Prop) (k : Nat) (Q : AEx → AFrame → AHeap → Prop) (id : Nat) (fr : AFrame) (h : AHeap) : kloop I k Q (.exit id) fr h = Q (.exit id) fr h := rfl
omit [Orc] in
theorem kloop_ret (I : Nat → AFrame → AHeap → Prop) (k : Nat) (Q : AEx → AFrame → AHeap → Prop) (fr : AFrame) (h : AHeap) : kloop I k Q .ret fr h = Q .ret fr h := rfl
theorem AW_region_f (id : Nat) (ops : Array Oper) (fr : AFrame) (h : AHeap) (Q : AEx → AFrame → AHeap → Prop) : AW P (.region id ops false) fr h Q = OW P ops ops.toList fr h (Q .normal) := rfl
theorem AW_cond {c : Operand} {b : Bool} {x y : Code} {fr : AFrame} {h : AHeap} {Q : AEx → AFrame → AHeap → Prop} (hc : aeval fr h.glob c = some (.bool b)) (h1 : b = true → AW P x fr h Q) (h2 : b = false → AW P y fr h Q) : AW P (.cond c x y) fr h Q := by
  unfold AW; rw [hc]
  cases b with
  | true => exact h1 rfl
  | false => exact h2 rfl

/-! ### soundness -/
theorem EW_sound {fr : AFrame} {h : AHeap} {op : Op} {K : AV → AHeap → Prop} (hw : EW P fr h op K) : ∃ n v h', aop P (acall P n) h (aeval fr h.glob) op = some (v, h') ∧ K v h' := by
  unfold EW at hw
  split at hw
  · rename_i f args _
    unfold CW at hw
    split at hw
    · rename_i g cap l hf hl
      rcases hw with ⟨hb, n, r, h', h1, h2⟩ | ⟨hb, r, h', h1, h2⟩
      · refine ⟨n, r, h', ?_, h2⟩
        simp only [aop, kind, peff, hf, hl, hb, cond_true]
        exact h1
      · refine ⟨0, r, h', ?_, h2⟩
        simp only [aop, kind, peff, hf, hl, hb, cond_false]
        exact h1
    · exact hw.elim
  · unfold optP at hw
    split at hw
    · rename_i v h' ho
      exact ⟨0, v, h', aop_mono (noCall_le _) ho, hw⟩
    · exact hw.elim
theorem OW_sound {ops : Array Oper} : ∀ (l : List Oper) (fr : AFrame) (h : AHeap) (K : AFrame → AHeap → Prop), OW P ops l fr h K → ∃ n fr' h', aops P (acall P n) ops l fr h = some (fr', h') ∧ K fr' h'
  | [], fr, h, K, hw => ⟨0, fr, h, rfl, hw⟩
  | o :: l, fr, h, K, hw => by
    rw [OW_cons] at hw
    have step : ∃ n v h', astep P (acall P n) ops fr h o = some (v, h') ∧ kop P ops l fr o.dst K v h' := by
      unfold SW at hw
      unfold astep
      split at hw
      · rename_i ha
        obtain ⟨n, v, h', h1, h2⟩ := EW_sound hw
        exact ⟨n, v, h', by rw [ha]; exact h1, h2⟩
      · rename_i ha; exact ⟨0, _, _, by rw [ha], hw⟩
      · exact hw.elim
    obtain ⟨n, v, h1, hs, hk⟩ := step
    have next : ∃ fr1, fr.put o.dst v = some fr1 ∧ OW P ops l fr1 h1 K := by
      unfold kop at hk
      split at hk
      · rename_i e; exact ⟨fr, by rw [e]; rfl, hk⟩
      · rename_i d e; exact ⟨fr.upd d v, by rw [e]; exact AFrame.put_upd v hk.1, hk.2⟩
    obtain ⟨fr1, hp, hk⟩ := next
    obtain ⟨m, fr2, h2, ho, hK⟩ := OW_sound l fr1 h1 K hk
    refine ⟨max n m, fr2, h2, ?_, hK⟩
    simp only [aops, astep_mono (acall_mono (Nat.le_max_left n m)) hs, hp]
    exact aops_mono (acall_mono (Nat.le_max_right n m)) _ _ _ _ ho
/-- A calm region that draws. -/
theorem AW_region_t (id : Nat) (ops : Array Oper) (fr : AFrame) (h : AHeap) (Q : AEx → AFrame → AHeap → Prop) (hd : (drawOk ops && calm ops) = true) (ho : OW P ops ops.toList fr h (Q .normal)) : AW P (.region id ops true) fr h Q := by
  obtain ⟨n, fr', h', h1, h2⟩ := OW_sound _ _ _ _ ho
  rw [Bool.and_eq_true] at hd
  exact ⟨n, fr', h', adraw_calm (acall_nx n) hd.1 hd.2 h1, h2⟩
theorem aexec_more {n m : Nat} (hm : n ≤ m) {c : Code} {fr : AFrame} {h : AHeap} {r : ASt} (ho : aexec P (acall P n) n c fr h = some r) : aexec P (acall P m) m c fr h = some r := aexec_mono (acall_mono hm) hm c fr h r ho
theorem AW_sound : ∀ (c : Code) (fr : AFrame) (h : AHeap) (Q : AEx → AFrame → AHeap → Prop), AW P c fr h Q → ∃ n e fr' h', aexec P (acall P n) n c fr h = some (e, fr', h') ∧ Q e fr' h' := by
  intro c
  induction c with
  | skip => intro fr h Q hw; exact ⟨0, _, _, _, rfl, hw⟩
  | label l => intro fr h Q hw; exact ⟨0, _, _, _, rfl, hw⟩
  | exit l => intro fr h Q hw; exact ⟨0, _, _, _, rfl, hw⟩
  | ret => intro fr h Q hw; exact ⟨0, _, _, _, rfl, hw⟩
  | region id ops draw =>
    intro fr h Q hw
    cases draw with
    | false =>
      obtain ⟨n, fr', h', h1, h2⟩ := OW_sound _ _ _ _ hw
      exact ⟨n, .normal, fr', h', by simp only [aexec, Bool.false_eq_true, if_false, h1], h2⟩
    | true =>
      obtain ⟨n, fr', h', h1, h2⟩ := hw
      exact ⟨n, .normal, fr', h', by simp only [aexec, if_true, h1], h2⟩
  | seq x y ihx ihy =>
    intro fr h Q hw
    rw [AW_seq] at hw
    obtain ⟨n, e, fr1, h1, hx, hk⟩ := ihx _ _ _ hw
    cases e with
    | normal =>
      obtain ⟨m, e, fr2, h2, hy, hq⟩ := ihy _ _ _ hk
      refine ⟨max n m, e, fr2, h2, ?_, hq⟩
      simp only [aexec, aexec_more (Nat.le_max_left n m) hx]
      exact aexec_more (Nat.le_max_right n m) hy
    | exit id => exact ⟨n, .exit id, fr1, h1, by simp only [aexec, hx], hk⟩
    | ret => exact ⟨n, .ret, fr1, h1, by simp only [aexec, hx], hk⟩
  | cond c x y ihx ihy =>
    intro fr h Q hw
    unfold AW at hw
    split at hw
    · rename_i b hb
      split at hw
      · obtain ⟨n, e, fr1, h1, hx, hq⟩ := ihx _ _ _ hw
        exact ⟨n, e, fr1, h1, by simp only [aexec, hb, hx], hq⟩
      · obtain ⟨n, e, fr1, h1, hx, hq⟩ := ihy _ _ _ hw
        exact ⟨n, e, fr1, h1, by simp only [aexec, hb, hx], hq⟩
    · exact hw.elim
  | block id c ih =>
    intro fr h Q hw
    rw [AW_block] at hw
    obtain ⟨n, e, fr1, h1, hx, hk⟩ := ih _ _ _ hw
    cases e with
    | normal => exact ⟨n, .normal, fr1, h1, by simp only [aexec, hx], hk⟩
    | ret => exact ⟨n, .ret, fr1, h1, by simp only [aexec, hx], hk⟩
    | exit id' =>
      simp only [kblock] at hk
      split at hk
      · exact ⟨n, .normal, fr1, h1, by simp only [aexec, hx, if_pos ‹id' = id›], hk⟩
      · exact ⟨n, .exit id', fr1, h1, by simp only [aexec, hx, if_neg ‹¬ id' = id›], hk⟩
  | loop c ih => intro fr h Q hw; exact hw
  | _ => intro fr h Q hw; simp only [AW] at hw

/-! ### consequence, loops, functions -/
theorem EW_mono {fr : AFrame} {h : AHeap} {op : Op} {K K' : AV → AHeap → Prop} (hw : EW P fr h op K) (hk : ∀ v h', K v h' → K' v h') : EW P fr h op K' := by
  unfold EW at *
  split at hw
  · unfold CW at *
    split at hw
    · rcases hw with hw | ⟨hb, v, h', h1, h2⟩
      · exact .inl ⟨hw.1, hw.2.mono hk⟩
      · exact .inr ⟨hb, v, h', h1, hk _ _ h2⟩
    · exact hw
  · unfold optP at *
    split at hw
    · exact hk _ _ hw
    · exact hw
theorem OW_mono {ops : Array Oper} : ∀ (l : List Oper) (fr : AFrame) (h : AHeap) (K K' : AFrame → AHeap → Prop), OW P ops l fr h K → (∀ fr h, K fr h → K' fr h) → OW P ops l fr h K'
  | [], fr, h, K, K', hw, hk => hk _ _ hw
  | o :: l, fr, h, K, K', hw, hk => by
    rw [OW_cons] at hw ⊢
    have next : ∀ v h', kop P ops l fr o.dst K v h' → kop P ops l fr o.dst K' v h' := by
      intro v h' hx
      unfold kop at *
      split at hx
      · exact OW_mono l _ _ _ _ hx hk
      · exact ⟨hx.1, OW_mono l _ _ _ _ hx.2 hk⟩
    unfold SW at *
    split at hw
    · exact EW_mono hw next
    · exact next _ _ hw
    · exact hw
theorem AW_mono : ∀ (c : Code) (fr : AFrame) (h : AHeap) (Q Q' : AEx → AFrame → AHeap → Prop), AW P c fr h Q → (∀ e fr h, Q e fr h → Q' e fr h) → AW P c fr h Q' := by
  intro c
  induction c with
  | skip => intro fr h Q Q' hw hq; exact hq _ _ _ hw
  | label l => intro fr h Q Q' hw hq; exact hq _ _ _ hw
  | exit l => intro fr h Q Q' hw hq; exact hq _ _ _ hw
  | ret => intro fr h Q Q' hw hq; exact hq _ _ _ hw
  | region id ops draw =>
    intro fr h Q Q' hw hq
    cases draw with
    | false => exact OW_mono _ _ _ _ _ hw fun fr h => hq .normal fr h
    | true =>
      obtain ⟨n, fr', h', h1, h2⟩ := hw
      exact ⟨n, fr', h', h1, hq _ _ _ h2⟩
  | seq x y ihx ihy =>
    intro fr h Q Q' hw hq
    rw [AW_seq] at hw ⊢
    refine ihx _ _ _ _ hw fun e fr h hk => ?_
    cases e with
    | normal => exact ihy _ _ _ _ hk hq
    | exit id => exact hq _ _ _ hk
    | ret => exact hq _ _ _ hk
  | cond c x y ihx ihy =>
    intro fr h Q Q' hw hq
    unfold AW at hw ⊢
    split at hw
    · split at hw
      · exact ihx _ _ _ _ hw hq
      · exact ihy _ _ _ _ hw hq
    · exact hw
  | block id c ih =>
    intro fr h Q Q' hw hq
    rw [AW_block] at hw ⊢
    refine ih _ _ _ _ hw fun e fr h hk => ?_
    cases e with
    | normal => exact hq _ _ _ hk
    | ret => exact hq _ _ _ hk
    | exit id' =>
      simp only [kblock] at hk ⊢
      split at hk
      · rw [if_pos ‹id' = id›]; exact hq _ _ _ hk
      · rw [if_neg ‹¬ id' = id›]; exact hq _ _ _ hk
  | loop c ih => intro fr h Q Q' hw hq; obtain ⟨n, e, fr', h', h1, h2⟩ := hw; exact ⟨n, e, fr', h', h1, hq _ _ _ h2⟩
  | _ => intro fr h Q Q' hw hq; simp only [AW] at hw
/-- A loop with an invariant, and what decreases. -/
theorem AW_loop {c : Code} {fr : AFrame} {h : AHeap} {Q : AEx → AFrame → AHeap → Prop} (I : Nat → AFrame → AHeap → Prop) (k : Nat) (hi : I k fr h)
    (hb : ∀ k fr h, I k fr h → AW P c fr h (kloop I k Q)) : AW P (.loop c) fr h Q := by
  have main : ∀ k fr h, I k fr h → ∃ n e fr' h', aiter (fun fr h => aexec P (acall P n) n c fr h) n fr h = some (e, fr', h') ∧ Q e fr' h' := by
    intro k
    induction k using Nat.strongRecOn with
    | ind k ih =>
      intro fr h hi
      obtain ⟨n, e, fr1, h1, hx, hk⟩ := AW_sound _ _ _ _ (hb k fr h hi)
      cases e with
      | normal =>
        obtain ⟨j, hj, hi1⟩ := hk
        obtain ⟨m, e, fr2, h2, hy, hq⟩ := ih j hj fr1 h1 hi1
        refine ⟨max n m + 1, e, fr2, h2, ?_, hq⟩
        simp only [aiter, aexec_more (show n ≤ max n m + 1 by omega) hx]
        exact aiter_mono (fun fr h r hr => aexec_more (show m ≤ max n m + 1 by omega) hr) m (max n m) (by omega) _ _ _ hy
      | exit id => exact ⟨n + 1, .exit id, fr1, h1, by simp only [aiter, aexec_more (Nat.le_succ n) hx], hk⟩
      | ret => exact ⟨n + 1, .ret, fr1, h1, by simp only [aiter, aexec_more (Nat.le_succ n) hx], hk⟩
  obtain ⟨n, e, fr', h', h1, h2⟩ := main k fr h hi
  exact ⟨n, e, fr', h', by simp only [aexec]; exact h1, h2⟩

/-! ### functions -/
def kfun (P : Program) (rs : List ResultVar) (K : AV → AHeap → Prop) (e : AEx) (fr : AFrame) (h : AHeap) : Prop :=
  match e with
  | .exit _ => False
  | _ => match ares P fr h rs with
    | some l => K (ares1 l) h
    | none => False
def kres (x : Option (List AV)) (K : AV → AHeap → Prop) (h : AHeap) : Prop :=
  match x with
  | some l => K (ares1 l) h
  | none => False
omit [Orc] in
theorem kfun_normal (rs : List ResultVar) (K : AV → AHeap → Prop) (fr : AFrame) (h : AHeap) : kfun P rs K .normal fr h = kres (ares P fr h rs) K h := rfl
omit [Orc] in
theorem kfun_ret (rs : List ResultVar) (K : AV → AHeap → Prop) (fr : AFrame) (h : AHeap) : kfun P rs K .ret fr h = kres (ares P fr h rs) K h := rfl
omit [Orc] in
theorem kres_some (l : List AV) (K : AV → AHeap → Prop) (h : AHeap) : kres (some l) K h = K (ares1 l) h := rfl
omit [Orc] in
theorem args0_at : ∀ (l : List AV) (i : Nat) (t : T AV) (j : Nat), T.get 6 (args0 l i t) j = if i ≤ j ∧ j < i + l.length then l[j - i]? else T.get 6 t j
  | [], i, t, j => by simp only [args0, List.length_nil]; rw [if_neg (by omega)]
  | v :: r, i, t, j => by
    simp only [args0, args0_at r (i + 1), List.length_cons, T.get_set]
    by_cases e : i = j
    · subst e
      rw [if_neg (by omega), if_pos rfl, if_pos (by omega)]
      simp
    · by_cases g : i + 1 ≤ j ∧ j < i + 1 + r.length
      · rw [if_pos g, if_pos (by omega)]
        rw [show j - i = j - (i + 1) + 1 by omega]
        simp
      · rw [if_neg g, if_neg e, if_neg (by omega)]
theorem Ca_intro {f : FuncId} {args : List AV} {h : AHeap} {K : AV → AHeap → Prop} {fn : Func} {c : Code} (hf : P.funcs[f]? = some fn) (hb : fn.body = some c)
    (hw : ∀ fr : AFrame, fr.n = args.length + (fn.ntmps - args.length) → (∀ i, i < args.length → fr.get i = args[i]?) → AW P c fr h (kfun P fn.results.toList K)) (hor : Orc.call f args h = none := by rfl) : Ca P f args h K := by
  obtain ⟨n, e, fr, h', hx, hk⟩ := AW_sound _ _ _ _ (hw ⟨args.length + (fn.ntmps - args.length), args0 args 0 .nil, []⟩ rfl fun i hi => by
    simp only [AFrame.get, args0_at]
    rw [if_pos (by omega)]; rfl)
  refine ⟨n + 1, ?_⟩
  have fin : ∀ x : Option (List AV), kres x K h' → ∃ l, x = some l ∧ K (ares1 l) h' := fun x hx => by
    cases x with
    | none => exact hx.elim
    | some l => exact ⟨l, rfl, hx⟩
  cases e with
  | exit id => exact hk.elim
  | normal =>
    obtain ⟨l, hl, hK⟩ := fin _ hk
    exact ⟨ares1 l, h', by simp only [acall, hor, abody, hf, hb, hx, hl], hK⟩
  | ret =>
    obtain ⟨l, hl, hK⟩ := fin _ hk
    exact ⟨ares1 l, h', by simp only [acall, hor, abody, hf, hb, hx, hl], hK⟩
theorem Ca_of {f : FuncId} {args : List AV} {h h' : AHeap} {r : AV} {n : Nat} (hc : acall P n f args h = some (r, h')) {K : AV → AHeap → Prop} (hk : K r h') : Ca P f args h K := ⟨n, r, h', hc, hk⟩
end

attribute [irreducible] AW OW SW EW CW Ca kseq kblock kloop kfun kres kop optP
end Go.Eng
