/- The engine, part 36: a function that holds a range over a function. -/
import Derived.Test.YtcjgagkkanokjacGreatDoorE34
namespace Go.Eng
/-! ### what the engine computes does not hang on the frame's deferred calls -/
def AFrame.wd (fr : AFrame) (D : List Deferred) : AFrame := { fr with ds := D }
theorem AFrame.wd_get (fr : AFrame) (D : List Deferred) (i : Nat) : (fr.wd D).get i = fr.get i := rfl
theorem AFrame.wd_put {fr fr' : AFrame} {d : Option Tmp} {v : AV} (D : List Deferred) (h : fr.put d v = some fr') : (fr.wd D).put d v = some (fr'.wd D) := by
  cases d with
  | none => simp only [AFrame.put, Option.some.injEq] at h ⊢; rw [h]
  | some d =>
    simp only [AFrame.put] at h ⊢
    cases hb : Nat.blt d fr.n with
    | false => simp [hb] at h
    | true =>
      have hb' : Nat.blt d (fr.wd D).n = true := hb
      simp [hb] at h
      simp [hb']
      subst h; rfl
theorem aeval_wd (fr : AFrame) (D : List Deferred) (g : Nat) : aeval (fr.wd D) g = aeval fr g := by
  funext x; cases x <;> rfl
theorem awanted_wd (ops : Array Oper) (fr : AFrame) (D : List Deferred) (o : Oper) : awanted ops (fr.wd D) o = awanted ops fr o := rfl
theorem astep_wd {P : Program} {call : CallFn} {ops : Array Oper} (fr : AFrame) (D : List Deferred) (h : AHeap) (o : Oper) : astep P call ops (fr.wd D) h o = astep P call ops fr h o := by
  simp only [astep, awanted_wd, aeval_wd]
theorem aops_wd {P : Program} {call : CallFn} {ops : Array Oper} (D : List Deferred) : ∀ (l : List Oper) (fr fr' : AFrame) (h h' : AHeap), aops P call ops l fr h = some (fr', h') → aops P call ops l (fr.wd D) h = some (fr'.wd D, h')
  | [], fr, fr', h, h', ho => by simp only [aops, Option.some.injEq, Prod.mk.injEq] at ho ⊢; rw [ho.1]; exact ⟨rfl, ho.2⟩
  | o :: r, fr, fr', h, h', ho => by
    simp only [aops] at ho ⊢
    rw [astep_wd]
    split at ho
    · rename_i v h1 hst
      split at ho
      · rename_i fr1 hp
        simp only [AFrame.wd_put D hp]
        exact aops_wd D r fr1 fr' h1 h' ho
      · cases ho
    · cases ho
def Rec.wd (r : Rec) (D : List Deferred) : Rec := { r with fr := r.fr.wd D }
theorem adops_wd {P : Program} {call : CallFn} {ops : Array Oper} (D : List Deferred) : ∀ (l : List Oper) (fr fr' : AFrame) (h h' : AHeap) (tr : List Rec), adops P call ops l fr h = some (tr, fr', h') → adops P call ops l (fr.wd D) h = some (tr.map (·.wd D), fr'.wd D, h')
  | [], fr, fr', h, h', tr, ho => by simp only [adops, Option.some.injEq, Prod.mk.injEq] at ho ⊢; obtain ⟨rfl, rfl, rfl⟩ := ho; exact ⟨rfl, rfl, rfl⟩
  | o :: r, fr, fr', h, h', tr, ho => by
    simp only [adops] at ho ⊢
    rw [astep_wd]
    split at ho
    · rename_i v h1 hst
      split at ho
      · rename_i fr1 hp
        simp only [AFrame.wd_put D hp]
        split at ho
        · rename_i hn
          rw [if_pos hn]
          split at ho
          · rename_i tr1 fr2 h2 hr
            simp only [Option.some.injEq, Prod.mk.injEq] at ho
            obtain ⟨rfl, rfl, rfl⟩ := ho
            rw [adops_wd D r fr1 fr2 h1 h2 tr1 hr]
            rfl
          · cases ho
        · cases ho
      · cases ho
    · cases ho
theorem states_wd (D : List Deferred) : ∀ (l : List Oper) (tr : List Rec) (i : Nat) (hl : AHeap), states l (tr.map (·.wd D)) i hl = states l tr i hl
  | [], _, _, _ => by simp only [states]
  | o :: r, [], i, hl => by simp only [List.map_nil]
  | o :: r, rc :: tr, i, hl => by
    have ih := states_wd D r tr (i + 1) hl
    cases tr with
    | nil => simp only [List.map_cons, List.map_nil, states]
    | cons a b => simp only [List.map_cons, states] at ih ⊢; rw [ih]; rfl
theorem loadOk_wd {P : Program} {ops : Array Oper} {M : List Nat} {sts : List (Nat × AHeap)} {l : Nat} {o : Oper} {r : Rec} (D : List Deferred) : loadOk P ops M sts l o (r.wd D) = loadOk P ops M sts l o r := by
  simp only [loadOk, Rec.wd, awanted_wd, aeval_wd]
theorem loadsOk_wd {P : Program} {ops : Array Oper} {M : List Nat} {sts : List (Nat × AHeap)} (D : List Deferred) : ∀ (l : List Oper) (tr : List Rec) (i : Nat), loadsOk P ops M sts l (tr.map (·.wd D)) i = loadsOk P ops M sts l tr i
  | [], _, _ => by simp only [loadsOk]
  | o :: r, [], _ => by simp only [List.map_nil]
  | o :: r, rc :: tr, i => by simp only [List.map_cons, loadsOk, loadOk_wd, loadsOk_wd D r tr]
theorem adraw_wd {P : Program} {call : CallFn} {ops : Array Oper} (D : List Deferred) {fr fr' : AFrame} {h h' : AHeap} (ho : adraw P call ops fr h = some (fr', h')) : adraw P call ops (fr.wd D) h = some (fr'.wd D, h') := by
  simp only [adraw, adrawE] at ho ⊢
  split at ho
  case isFalse => cases ho
  rename_i hd
  rw [if_pos hd]
  split at ho
  · rename_i tr fr1 h1 hr
    rw [adops_wd D _ _ _ _ _ _ hr]
    simp only [states_wd, loadsOk_wd]
    split at ho
    · rename_i hs
      rw [if_pos hs]
      simp only [Option.some.injEq, Prod.mk.injEq] at ho ⊢
      obtain ⟨rfl, rfl⟩ := ho
      exact ⟨rfl, rfl⟩
    · cases ho
  · cases ho
theorem aiter_wd {b : AFrame → AHeap → Option ASt} (D : List Deferred) (hb : ∀ fr h e fr' h', b fr h = some (e, fr', h') → b (fr.wd D) h = some (e, fr'.wd D, h')) : ∀ (n : Nat) fr h e fr' h', aiter b n fr h = some (e, fr', h') → aiter b n (fr.wd D) h = some (e, fr'.wd D, h')
  | 0, _, _, _, _, _, ho => by simp [aiter] at ho
  | n + 1, fr, h, e, fr', h', ho => by
    simp only [aiter] at ho ⊢
    split at ho
    · rename_i fr1 h1 hx; rw [hb _ _ _ _ _ hx]; exact aiter_wd D hb n fr1 h1 e fr' h' ho
    · rename_i id fr1 h1 hx; cases ho; rw [hb _ _ _ _ _ hx]
    · rename_i fr1 h1 hx; cases ho; rw [hb _ _ _ _ _ hx]
    · cases ho
theorem aexec_wd {P : Program} {call : CallFn} {n : Nat} (D : List Deferred) : ∀ (c : Code) fr h e fr' h', aexec P call n c fr h = some (e, fr', h') → aexec P call n c (fr.wd D) h = some (e, fr'.wd D, h') := by
  intro c
  induction c with
  | region id ops draw =>
    intro fr h e fr' h' ho
    simp only [aexec] at ho ⊢
    split at ho
    · rename_i fr1 h1 hr
      cases ho
      cases draw with
      | true => simp only [if_true] at hr ⊢; rw [adraw_wd D hr]
      | false => simp only [Bool.false_eq_true, if_false] at hr ⊢; rw [aops_wd D _ _ _ _ _ hr]
    · cases ho
  | seq x y ihx ihy =>
    intro fr h e fr' h' ho
    simp only [aexec] at ho ⊢
    split at ho
    · rename_i fr1 h1 hx; rw [ihx _ _ _ _ _ hx]; exact ihy _ _ _ _ _ ho
    · rename_i id fr1 h1 hx; cases ho; rw [ihx _ _ _ _ _ hx]
    · rename_i fr1 h1 hx; cases ho; rw [ihx _ _ _ _ _ hx]
    · cases ho
  | cond c x y ihx ihy =>
    intro fr h e fr' h' ho
    simp only [aexec, aeval_wd] at ho ⊢
    split at ho
    · split at ho
      · exact ihx _ _ _ _ _ ho
      · exact ihy _ _ _ _ _ ho
    · cases ho
  | block id c ih =>
    intro fr h e fr' h' ho
    simp only [aexec] at ho ⊢
    split at ho
    · rename_i fr1 h1 hx; cases ho; rw [ih _ _ _ _ _ hx]
    · rename_i id' fr1 h1 hx
      rw [ih _ _ _ _ _ hx]
      split at ho
      · rename_i hid; cases ho; simp only [if_pos hid]
      · rename_i hid; cases ho; simp only [if_neg hid]
    · rename_i fr1 h1 hx; cases ho; rw [ih _ _ _ _ _ hx]
    · cases ho
  | loop c ih =>
    intro fr h e fr' h' ho
    simp only [aexec] at ho ⊢
    exact aiter_wd D (fun fr h e fr' h' => ih fr h e fr' h') n fr h e fr' h' ho
  | skip => intro fr h e fr' h' ho; simp only [aexec, Option.some.injEq, Prod.mk.injEq] at ho ⊢; obtain ⟨rfl, rfl, rfl⟩ := ho; exact ⟨rfl, rfl, rfl⟩
  | label l => intro fr h e fr' h' ho; simp only [aexec, Option.some.injEq, Prod.mk.injEq] at ho ⊢; obtain ⟨rfl, rfl, rfl⟩ := ho; exact ⟨rfl, rfl, rfl⟩
  | exit l => intro fr h e fr' h' ho; simp only [aexec, Option.some.injEq, Prod.mk.injEq] at ho ⊢; obtain ⟨rfl, rfl, rfl⟩ := ho; exact ⟨rfl, rfl, rfl⟩
  | ret => intro fr h e fr' h' ho; simp only [aexec, Option.some.injEq, Prod.mk.injEq] at ho ⊢; obtain ⟨rfl, rfl, rfl⟩ := ho; exact ⟨rfl, rfl, rfl⟩
  | _ => intro fr h e fr' h' ho; simp [aexec] at ho
/-! ### an iterator's run keeps the frame's deferred calls -/
theorem plainY_ds {P : Program} {call : CallFn} {ops : Array Oper} {fr : AFrame} {Y : List Nat} {h : AHeap} {o : Oper} {s : YSt} (ho : plainY P call ops fr Y h o = some s) : s.1.ds = fr.ds := by
  unfold plainY at ho
  split at ho
  · split at ho
    · rename_i fr1 hp; cases ho; exact AFrame.put_ds hp
    · cases ho
  · cases ho
theorem ystep_ds {P : Program} {call : CallFn} {rd : List AV → AHeap → Option (AV × AHeap)} {ops : Array Oper} {fr : AFrame} {Y : List Nat} {h : AHeap} {o : Oper} {s : YSt} (ho : ystep P call rd ops fr Y h o = some s) : s.1.ds = fr.ds := by
  unfold ystep at ho
  split at ho
  · split at ho
    · split at ho
      · split at ho
        · split at ho
          · cases ho; rfl
          · cases ho
        · cases ho
      · cases ho
    · exact plainY_ds ho
  · split at ho
    · split at ho
      · split at ho
        · split at ho
          · rename_i fr1 hp; cases ho; exact AFrame.put_ds hp
          · cases ho
        · cases ho
      · cases ho
    · exact plainY_ds ho
  · exact plainY_ds ho
theorem aopsY_ds {P : Program} {call : CallFn} {rd : List AV → AHeap → Option (AV × AHeap)} {ops : Array Oper} : ∀ (l : List Oper) (fr : AFrame) (Y : List Nat) (h : AHeap) (s : YSt), aopsY P call rd ops l fr Y h = some s → s.1.ds = fr.ds
  | [], fr, Y, h, s, ho => by simp only [aopsY, Option.some.injEq] at ho; subst ho; rfl
  | o :: r, fr, Y, h, s, ho => by
    simp only [aopsY] at ho
    split at ho
    · rename_i fr1 Y1 h1 hst
      exact (aopsY_ds r fr1 Y1 h1 s ho).trans (ystep_ds hst)
    · cases ho
theorem aiterY_ds {b : YSt → Option (AEx × YSt)} (hb : ∀ s e s', b s = some (e, s') → s'.1.ds = s.1.ds) : ∀ (n : Nat) s e s', aiterY b n s = some (e, s') → s'.1.ds = s.1.ds
  | 0, _, _, _, ho => by simp [aiterY] at ho
  | n + 1, s, e, s', ho => by
    simp only [aiterY] at ho
    split at ho
    · rename_i s1 hx; exact (aiterY_ds hb n s1 e s' ho).trans (hb _ _ _ hx)
    · rename_i id s1 hx; cases ho; exact hb _ _ _ hx
    · rename_i s1 hx; cases ho; exact hb _ _ _ hx
    · cases ho
theorem aexecY_ds {P : Program} {call : CallFn} {rd : List AV → AHeap → Option (AV × AHeap)} {n : Nat} : ∀ (c : Code) s e s', aexecY P call rd n c s = some (e, s') → s'.1.ds = s.1.ds := by
  intro c
  induction c with
  | region id ops draw =>
    intro s e s' ho
    simp only [aexecY] at ho
    split at ho
    · cases ho
    · split at ho
      · rename_i s1 hs; cases ho; exact aopsY_ds _ _ _ _ _ hs
      · cases ho
  | seq x y ihx ihy =>
    intro s e s' ho
    simp only [aexecY] at ho
    split at ho
    · rename_i s1 hx; exact (ihy _ _ _ ho).trans (ihx _ _ _ hx)
    · rename_i id s1 hx; cases ho; exact ihx _ _ _ hx
    · rename_i s1 hx; cases ho; exact ihx _ _ _ hx
    · cases ho
  | cond c x y ihx ihy =>
    intro s e s' ho
    simp only [aexecY] at ho
    split at ho
    · split at ho
      · exact ihx _ _ _ ho
      · exact ihy _ _ _ ho
    · cases ho
  | block id c ih =>
    intro s e s' ho
    simp only [aexecY] at ho
    split at ho
    · rename_i s1 hx; cases ho; exact ih _ _ _ hx
    · rename_i id' s1 hx
      split at ho <;> (cases ho; exact ih _ _ _ hx)
    · rename_i s1 hx; cases ho; exact ih _ _ _ hx
    · cases ho
  | loop c ih =>
    intro s e s' ho
    simp only [aexecY] at ho
    exact aiterY_ds (fun s e s' => ih s e s') n s e s' ho
  | skip => intro s e s' ho; simp only [aexecY, Option.some.injEq, Prod.mk.injEq] at ho; rw [ho.2]
  | label l => intro s e s' ho; simp only [aexecY, Option.some.injEq, Prod.mk.injEq] at ho; rw [ho.2]
  | exit l => intro s e s' ho; simp only [aexecY, Option.some.injEq, Prod.mk.injEq] at ho; rw [ho.2]
  | ret => intro s e s' ho; simp only [aexecY, Option.some.injEq, Prod.mk.injEq] at ho; rw [ho.2]
  | _ => intro s e s' ho; simp [aexecY] at ho

/-! ### code with one range over a function -/
def aexecR (P : Program) (call : CallFn) (n : Nat) : Code → Bool → AFrame → AHeap → Option (AEx × Bool × AFrame × AHeap)
  | .seq x y, b, fr, h =>
    match aexecR P call n x b fr h with
    | some (.normal, b', fr', h') => aexecR P call n y b' fr' h'
    | some (.exit id, s) => some (.exit id, s)
    | some (.ret, s) => some (.ret, s)
    | none => none
  | .cond c x y, b, fr, h =>
    match aeval fr h.glob c with
    | some (.bool t) => match t with
      | true => aexecR P call n x b fr h
      | false => aexecR P call n y b fr h
    | _ => none
  | .block id c, b, fr, h =>
    match aexecR P call n c b fr h with
    | some (.normal, s) => some (.normal, s)
    | some (.exit id', s) => if id' = id then some (.normal, s) else some (.exit id', s)
    | some (.ret, s) => some (.ret, s)
    | none => none
  | .rangeFunc g ps as bo, b, fr, h =>
    match b, nodef as && nodef bo, aeval fr h.glob g with
    | false, true, some (.func gf caps) =>
      match P.funcs[gf]? with
      | some fnI => match fnI.body, fnI.results.toList with
        | some cI, [] => match aexecY P call (rdOf P call n ps as bo (fr.wd [])) n cI (frameI fnI caps, [0], h) with
          | some (.normal, s') => some (.normal, true, fr, s'.2.2)
          | some (.ret, s') => some (.normal, true, fr, s'.2.2)
          | _ => none
        | _, _ => none
      | none => none
    | _, _, _ => none
  | c, b, fr, h => if nodef c then (match aexec P call n c fr h with
    | some (e, fr', h') => some (e, b, fr', h')
    | none => none) else none

/-- The frame's deferred calls: none, or the mark of the range over a function. -/
def MarkRel (b : Bool) (k : Nat) (ρ : Rho) (h : AHeap) (w : World) (ds : List Deferred) : Prop :=
  match b with
  | false => ds = []
  | true => ∃ D, ds = [{ target := .collected D, args := #[] }] ∧ w.heap[D]? = some (.deferred (some [])) ∧ ¬ Use ρ h D ∧ k ≤ D
theorem MarkRel.step {b : Bool} {k : Nat} {ρ ρ' : Rho} {h h' : AHeap} {w w' : World} {ds : List Deferred} (hm : MarkRel b k ρ h w ds) (s : Step ρ h w ρ' h' w') : MarkRel b k ρ' h' w' ds := by
  cases b with
  | false => exact hm
  | true =>
    obtain ⟨D, h1, h2, h3, h4⟩ := hm
    obtain ⟨k1, k2⟩ := s.beside h3 (lt_of_some h2)
    exact ⟨D, h1, k1.trans h2, k2, h4⟩
theorem FrRel.wd {ρ : Rho} {fr : AFrame} {a : Act} {D : List Deferred} (hf : FrRel ρ (fr.wd D) a) (D' : List Deferred) : FrRel ρ (fr.wd D') { a with defers := D' } := ⟨rfl, hf.size, hf.val⟩
theorem FrRel.nds {ρ : Rho} {fr : AFrame} {a : Act} {D : List Deferred} (hf : FrRel ρ (fr.wd D) a) : FrRel ρ (fr.wd a.defers) a := ⟨rfl, hf.size, hf.val⟩
theorem FrRel.df {ρ : Rho} {fr : AFrame} {a : Act} {D : List Deferred} (hf : FrRel ρ (fr.wd D) a) : a.defers = D := hf.defers
section
variable {P : Program} {m : Nat}
theorem aexecR_sound (hP : POk P) {call : CallFn} (hcall : CallOk P call) (n : Nat) {k : Nat} :
    ∀ (c : Code) (b : Bool) (fr : AFrame) (h : AHeap) (e : AEx) (b' : Bool) (fr' : AFrame) (h' : AHeap) (ρ : Rho) (a : Act) (w : World) (Q : Exit → Act → World → Prop),
      aexecR P call n c b fr h = some (e, b', fr', h') → FrRel ρ (fr.wd a.defers) a → MarkRel b k ρ h w a.defers → Sim ρ h w → k ≤ w.heap.size →
      (∀ ρ' a' w', FrRel ρ' (fr'.wd a'.defers) a' → MarkRel b' k ρ' h' w' a'.defers → Step ρ h w ρ' h' w' → Q e.to a' w') → c.wpIn Fence.wide m P Q a w := by
  have leaf : ∀ (c : Code) (b : Bool) (fr : AFrame) (h : AHeap) (e : AEx) (b' : Bool) (fr' : AFrame) (h' : AHeap) (ρ : Rho) (a : Act) (w : World) (Q : Exit → Act → World → Prop),
      (if nodef c then (match aexec P call n c fr h with
        | some (e, fr', h') => some (e, b, fr', h')
        | none => none) else none) = some (e, b', fr', h') → FrRel ρ (fr.wd a.defers) a → MarkRel b k ρ h w a.defers → Sim ρ h w → k ≤ w.heap.size →
      (∀ ρ' a' w', FrRel ρ' (fr'.wd a'.defers) a' → MarkRel b' k ρ' h' w' a'.defers → Step ρ h w ρ' h' w' → Q e.to a' w') → c.wpIn Fence.wide m P Q a w := by
    intro c b fr h e b' fr' h' ρ a w Q ho hf hm hs hk hq
    split at ho
    case isFalse => cases ho
    rename_i hnd
    split at ho
    case h_2 => cases ho
    rename_i e1 fr1 h1 hx
    cases ho
    refine aexec_soundW m hP hcall n c _ h _ _ _ ρ a w Q hnd (aexec_wd a.defers c fr h _ _ _ hx) hf hs fun ρ' a' w' hf' hs' => ?_
    have hd : a'.defers = a.defers := hf'.defers
    exact hq ρ' a' w' (hf'.nds) (by rw [hd]; exact hm.step hs') hs'
  intro c
  induction c with
  | seq x y ihx ihy =>
    intro b fr h e b' fr' h' ρ a w Q ho hf hm hs hk hq
    simp only [aexecR] at ho
    split at ho
    · rename_i b1 fr1 h1 hx
      refine wpIn_seq (ihx b fr h .normal b1 fr1 h1 ρ a w _ hx hf hm hs hk fun ρ1 a1 w1 hf1 hm1 hs1 => ?_)
      exact ihy b1 fr1 h1 e b' fr' h' ρ1 a1 w1 Q ho hf1 hm1 hs1.sim (Nat.le_trans hk hs1.keep.size) fun ρ2 a2 w2 hf2 hm2 hs2 => hq ρ2 a2 w2 hf2 hm2 (hs1.trans hs2)
    · rename_i id s1 hx
      cases ho
      exact wpIn_seq (ihx b fr h (.exit id) _ _ _ ρ a w _ hx hf hm hs hk fun ρ1 a1 w1 hf1 hm1 hs1 => hq ρ1 a1 w1 hf1 hm1 hs1)
    · rename_i s1 hx
      cases ho
      exact wpIn_seq (ihx b fr h .ret _ _ _ ρ a w _ hx hf hm hs hk fun ρ1 a1 w1 hf1 hm1 hs1 => hq ρ1 a1 w1 hf1 hm1 hs1)
    · cases ho
  | cond c x y ihx ihy =>
    intro b fr h e b' fr' h' ρ a w Q ho hf hm hs hk hq
    simp only [aexecR] at ho
    split at ho
    · rename_i t hc
      have hb := conc_bool (aeval_sound hf hs c _ (by rw [aeval_wd]; exact hc))
      split at ho
      · exact wpIn_cond_true hb (ihx b fr h e b' fr' h' ρ a w Q ho hf hm hs hk hq)
      · exact wpIn_cond_false hb (ihy b fr h e b' fr' h' ρ a w Q ho hf hm hs hk hq)
    · cases ho
  | block id c ih =>
    intro b fr h e b' fr' h' ρ a w Q ho hf hm hs hk hq
    simp only [aexecR] at ho
    refine wpIn_block ?_
    split at ho
    · rename_i s1 hx
      cases ho
      exact ih b fr h .normal _ _ _ ρ a w _ hx hf hm hs hk fun ρ1 a1 w1 hf1 hm1 hs1 => hq ρ1 a1 w1 hf1 hm1 hs1
    · rename_i id' s1 hx
      obtain ⟨b1, fr1, h1⟩ := s1
      refine ih b fr h (.exit id') b1 fr1 h1 ρ a w _ hx hf hm hs hk fun ρ1 a1 w1 hf1 hm1 hs1 => ?_
      split at ho
      · rename_i hid
        cases ho
        show if id' = id then Q .normal a1 w1 else Q (.exit id') a1 w1
        rw [if_pos hid]
        exact hq ρ1 a1 w1 hf1 hm1 hs1
      · rename_i hid
        cases ho
        show if id' = id then Q .normal a1 w1 else Q (.exit id') a1 w1
        rw [if_neg hid]
        exact hq ρ1 a1 w1 hf1 hm1 hs1
    · rename_i s1 hx
      cases ho
      exact ih b fr h .ret _ _ _ ρ a w _ hx hf hm hs hk fun ρ1 a1 w1 hf1 hm1 hs1 => hq ρ1 a1 w1 hf1 hm1 hs1
    · cases ho
  | rangeFunc g ps as bo _ _ =>
    intro b fr h e b' fr' h' ρ a w Q ho hf hm hs hk hq
    simp only [aexecR] at ho
    split at ho
    case h_2 => cases ho
    rename_i gf caps hnd hg
    rw [Bool.and_eq_true] at hnd
    split at ho
    case h_2 => cases ho
    rename_i fnI hfI
    split at ho
    case h_2 => cases ho
    rename_i cI hbI hrs
    have hds : a.defers = [] := hm
    have hrs' : fnI.results = #[] := by apply Array.ext'; simpa using hrs
    have hb : hasBody P gf = true := by unfold hasBody; rw [hfI]; simp [hbI]
    rw [hds] at hf
    have key : ∀ (e1 : AEx) (s' : YSt), aexecY P call (rdOf P call n ps as bo (fr.wd [])) n cI (frameI fnI caps, [0], h) = some (e1, s') → (e1 = .normal ∨ e1 = .ret) → e = .normal → b' = true → fr' = fr → h' = s'.2.2 → (Code.rangeFunc g ps as bo).wpIn Fence.wide m P Q a w := by
      rintro e1 s' hx he rfl rfl rfl rfl
      refine wpIn_range hP hcall (n := n) hf rfl hs hnd.1 hnd.2 (by rw [aeval_wd]; exact hg) hfI hbI hb hrs' hx he ((aexecY_ds _ _ _ _ hx).trans rfl) fun ρ' w' D hst hD hu hkD => ?_
      exact hq ρ' _ w' (FrRel.wd (hf.mono hst.ext) _) ⟨D, rfl, hD, hu, Nat.le_trans hk hkD⟩ hst
    split at ho
    · rename_i s' hx; cases ho; exact key _ s' hx (.inl rfl) rfl rfl rfl rfl
    · rename_i s' hx; cases ho; exact key _ s' hx (.inr rfl) rfl rfl rfl rfl
    · cases ho
  | region id ops draw => exact leaf _
  | loop c ih => exact leaf _
  | skip => exact leaf _
  | label l => exact leaf _
  | exit l => exact leaf _
  | ret => exact leaf _
  | scope c _ => exact leaf _
  | goto l => exact leaf _
  | refuse s => exact leaf _
theorem ares_wd (P : Program) (fr : AFrame) (D : List Deferred) (h : AHeap) : ∀ l : List ResultVar, ares P (fr.wd D) h l = ares P fr h l
  | [] => rfl
  | .tmp t :: r => by simp only [ares, AFrame.wd_get, ares_wd P fr D h r]
  | .cell x t :: r => by simp only [ares, AFrame.wd_get, ares_wd P fr D h r]
def rbody (P : Program) (call : CallFn) (n : Nat) (f : FuncId) (args : List AV) (h : AHeap) : Option (AV × AHeap) :=
  match P.funcs[f]? with
  | some fn => match fn.body with
    | some c =>
      match aexecR P call n c false ⟨args.length + (fn.ntmps - args.length), args0 args 0 .nil, []⟩ h with
      | some (.normal, _, fr, h') => match ares P fr h' fn.results.toList with
        | some l => some (ares1 l, h')
        | none => none
      | some (.ret, _, fr, h') => match ares P fr h' fn.results.toList with
        | some l => some (ares1 l, h')
        | none => none
      | _ => none
    | none => none
  | none => none
theorem rbody_sound {P : Program} (hP : POk P) {call : CallFn} (hcall : CallOk P call) (n : Nat) : CallOk P (rbody P call n) := by
  intro f args h r h' ρ w cargs ho hs hargs
  simp only [rbody] at ho
  split at ho
  case h_2 => cases ho
  rename_i fn hfn
  split at ho
  case h_2 => cases ho
  rename_i c hbody
  have hlen := concs_length _ _ hargs
  have hfr : FrRel ρ ((⟨args.length + (fn.ntmps - args.length), args0 args 0 .nil, []⟩ : AFrame).wd []) { tmps := cargs.toArray ++ Array.replicate (fn.ntmps - cargs.toArray.size) undef, defers := [] } := by
    refine ⟨rfl, by simp [hlen, AFrame.wd], fun i v hv => ?_⟩
    simp only [AFrame.get, AFrame.wd] at hv
    rw [args0_get] at hv
    split at hv
    · rename_i hlt
      obtain ⟨c, h1, h2⟩ := concs_get _ _ _ _ hargs hv
      refine ⟨c, ?_, h2⟩
      rw [Array.getElem?_append]
      rw [if_pos (by simp; omega)]
      simpa using h1
    · rw [T.get_nil] at hv; cases hv
  have fin : ∀ (e : AEx) (b : Bool) (fr' : AFrame) (h1 : AHeap), (e = .normal ∨ e = .ret) → aexecR P call n c false ⟨args.length + (fn.ntmps - args.length), args0 args 0 .nil, []⟩ h = some (e, b, fr', h1) →
      (match ares P fr' h1 fn.results.toList with | some l => some (ares1 l, h1) | none => none) = some (r, h') →
      Calls P f cargs.toArray w fun e w' => ∃ c ρ', e = .returned c ∧ conc ρ' r = some c ∧ Step ρ h w ρ' h' w' := by
    intro e b fr' h1 he hx hr
    split at hr
    case h_2 => cases hr
    rename_i l hl
    simp only [Option.some.injEq, Prod.mk.injEq] at hr
    obtain ⟨rfl, rfl⟩ := hr
    refine (callsIn_wide (n := 0)).1 (callsIn_of_wp_marks hfn hbody trivial (aexecR_sound hP hcall n (k := w.heap.size) c false _ h e b fr' h1 ρ _ w _ hx hfr rfl hs (Nat.le_refl _) fun ρ' a' w' hf' hm' hs' => ?_))
    have done : ∀ w2, Step ρ h w ρ' h1 w2 → LeavesInM Fence.wide 0 P fn a'.tmps (fun e w' => ∃ c ρ', e = .returned c ∧ conc ρ' (ares1 l) = some c ∧ Step ρ h w ρ' h1 w') [] .returning w2 := by
      intro w2 hs2
      obtain ⟨cv, h2, h3⟩ := results_sound (P := P) (fn := fn) hf' hs2.sim ((ares_wd P fr' a'.defers h1 _).trans hl)
      exact ⟨cv, h3, cv, ρ', rfl, h2, hs2⟩
    have out : LeavesInM Fence.wide 0 P fn a'.tmps (fun e w' => ∃ c ρ', e = .returned c ∧ conc ρ' (ares1 l) = some c ∧ Step ρ h w ρ' h1 w') a'.defers .returning w' := by
      cases b with
      | false =>
        have : a'.defers = [] := hm'
        rw [this]; exact done w' hs'
      | true =>
        obtain ⟨D, hd, hD, hu, hk⟩ := hm'
        rw [hd]
        exact ⟨by simp, .inl ⟨D, _, rfl, run_takeDeferred hD, done _ (hs'.putObj_extra hu hk _)⟩⟩
    rcases he with rfl | rfl <;> exact out
  split at ho
  · rename_i b fr1 h1 hx; exact fin .normal b fr1 h1 (.inl rfl) hx ho
  · rename_i b fr1 h1 hx; exact fin .ret b fr1 h1 (.inr rfl) hx ho
  · cases ho
end
end Go.Eng
