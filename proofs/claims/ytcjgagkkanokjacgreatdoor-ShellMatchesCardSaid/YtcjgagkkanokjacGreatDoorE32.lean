/- The engine, part 32: an iterator's code. -/
import Derived.Test.YtcjgagkkanokjacGreatDoorE29
import Derived.Test.YtcjgagkkanokjacGreatDoorE26
namespace Go.Eng
abbrev YSt := AFrame × List Nat × AHeap
def aiterY (body : YSt → Option (AEx × YSt)) : Nat → YSt → Option (AEx × YSt)
  | 0, _ => none
  | n + 1, s => match body s with
    | some (.normal, s') => aiterY body n s'
    | some (.exit id, s') => some (.exit id, s')
    | some (.ret, s') => some (.ret, s')
    | none => none
def aexecY (P : Program) (call : CallFn) (rd : List AV → AHeap → Option (AV × AHeap)) (n : Nat) : Code → YSt → Option (AEx × YSt)
  | .skip, s => some (.normal, s)
  | .label _, s => some (.normal, s)
  | .region _ ops draw, s => if draw then none else match aopsY P call rd ops ops.toList s.1 s.2.1 s.2.2 with
    | some s' => some (.normal, s')
    | none => none
  | .seq x y, s => match aexecY P call rd n x s with
    | some (.normal, s') => aexecY P call rd n y s'
    | some (.exit id, s') => some (.exit id, s')
    | some (.ret, s') => some (.ret, s')
    | none => none
  | .cond c x y, s => match aeval s.1 s.2.2.glob c with
    | some (.bool b) => match b with
      | true => aexecY P call rd n x s
      | false => aexecY P call rd n y s
    | _ => none
  | .block id c, s => match aexecY P call rd n c s with
    | some (.normal, s') => some (.normal, s')
    | some (.exit id', s') => if id' = id then some (.normal, s') else some (.exit id', s')
    | some (.ret, s') => some (.ret, s')
    | none => none
  | .loop c, s => aiterY (fun s => aexecY P call rd n c s) n s
  | .exit id, s => some (.exit id, s)
  | .ret, s => some (.ret, s)
  | _, _ => none
section
variable {P : Program} {lp m : Nat}
theorem aopsY_sound (hP : POk P) {call : CallFn} (hcall : CallOk P call) {R : Rho → AHeap → World → Prop} (hR1 : ∀ ρ h w, R ρ h w → Sim ρ h w) (hR2 : ∀ ρ h w ρ' h' w', R ρ h w → Step ρ h w ρ' h' w' → R ρ' h' w') {rd : List AV → AHeap → Option (AV × AHeap)} (hrd : RoundOk P lp m R rd)
    {ops : Array Oper} {Q : Exit → Act → World → Prop} : ∀ (l : List Oper) (fr fr' : AFrame) (Y Y' : List Nat) (h h' : AHeap) (ρ : Rho) (a : Act) (w : World), aopsY P call rd ops l fr Y h = some (fr', Y', h') → FrRel ρ fr a → YRel lp Y a → R ρ h w →
      (∀ ρ' a' w', Ext ρ ρ' → FrRel ρ' fr' a' → YRel lp Y' a' → R ρ' h' w' → Q .normal a' w') → wpListIn Fence.wide m P ops Q l a w
  | [], fr, fr', Y, Y', h, h', ρ, a, w, ho, hf, hy, hr, hq => by
    simp only [aopsY, Option.some.injEq, Prod.mk.injEq] at ho
    obtain ⟨rfl, rfl, rfl⟩ := ho
    exact hq ρ a w (Ext.refl ρ) hf hy hr
  | o :: r, fr, fr', Y, Y', h, h', ρ, a, w, ho, hf, hy, hr, hq => by
    simp only [aopsY] at ho
    split at ho
    · rename_i fr1 Y1 h1 hst
      exact ystep_sound hP hcall hR1 hR2 hrd hst hf hy hr fun ρ1 a1 w1 he1 hf1 hy1 hr1 =>
        aopsY_sound hP hcall hR1 hR2 hrd r fr1 fr' Y1 Y' h1 h' ρ1 a1 w1 ho hf1 hy1 hr1 fun ρ2 a2 w2 he2 hf2 hy2 hr2 => hq ρ2 a2 w2 (he1.trans he2) hf2 hy2 hr2
    · cases ho
theorem aexecY_sound (hP : POk P) {call : CallFn} (hcall : CallOk P call) {R : Rho → AHeap → World → Prop} (hR1 : ∀ ρ h w, R ρ h w → Sim ρ h w) (hR2 : ∀ ρ h w ρ' h' w', R ρ h w → Step ρ h w ρ' h' w' → R ρ' h' w') {rd : List AV → AHeap → Option (AV × AHeap)} (hrd : RoundOk P lp m R rd) (n : Nat) :
    ∀ (c : Code) (s : YSt) (e : AEx) (s' : YSt) (ρ : Rho) (a : Act) (w : World) (Q : Exit → Act → World → Prop), aexecY P call rd n c s = some (e, s') → FrRel ρ s.1 a → YRel lp s.2.1 a → R ρ s.2.2 w →
      (∀ ρ' a' w', Ext ρ ρ' → FrRel ρ' s'.1 a' → YRel lp s'.2.1 a' → R ρ' s'.2.2 w' → Q e.to a' w') → c.wpIn Fence.wide m P Q a w := by
  intro c
  induction c with
  | skip =>
    intro s e s' ρ a w Q ho hf hy hr hq
    simp only [aexecY, Option.some.injEq, Prod.mk.injEq] at ho
    obtain ⟨rfl, rfl⟩ := ho
    exact wpIn_skip (hq ρ a w (Ext.refl ρ) hf hy hr)
  | label l =>
    intro s e s' ρ a w Q ho hf hy hr hq
    simp only [aexecY, Option.some.injEq, Prod.mk.injEq] at ho
    obtain ⟨rfl, rfl⟩ := ho
    exact wpIn_label (hq ρ a w (Ext.refl ρ) hf hy hr)
  | region id ops draw =>
    intro s e s' ρ a w Q ho hf hy hr hq
    simp only [aexecY] at ho
    cases draw with
    | true => simp at ho
    | false =>
      simp only [Bool.false_eq_true, if_false] at ho
      split at ho
      · rename_i s1 hs1
        simp only [Option.some.injEq, Prod.mk.injEq] at ho
        obtain ⟨rfl, rfl⟩ := ho
        exact wpIn_region_list (aopsY_sound hP hcall hR1 hR2 hrd ops.toList _ _ _ _ _ _ ρ a w hs1 hf hy hr hq)
      · cases ho
  | seq x y ihx ihy =>
    intro s e s' ρ a w Q ho hf hy hr hq
    simp only [aexecY] at ho
    split at ho
    · rename_i s1 hx
      exact wpIn_seq (ihx s .normal s1 ρ a w _ hx hf hy hr fun ρ1 a1 w1 he1 hf1 hy1 hr1 =>
        ihy s1 e s' ρ1 a1 w1 Q ho hf1 hy1 hr1 fun ρ2 a2 w2 he2 hf2 hy2 hr2 => hq ρ2 a2 w2 (he1.trans he2) hf2 hy2 hr2)
    · rename_i id s1 hx
      simp only [Option.some.injEq, Prod.mk.injEq] at ho
      obtain ⟨rfl, rfl⟩ := ho
      exact wpIn_seq (ihx s (.exit id) s1 ρ a w _ hx hf hy hr fun ρ1 a1 w1 he1 hf1 hy1 hr1 => hq ρ1 a1 w1 he1 hf1 hy1 hr1)
    · rename_i s1 hx
      simp only [Option.some.injEq, Prod.mk.injEq] at ho
      obtain ⟨rfl, rfl⟩ := ho
      exact wpIn_seq (ihx s .ret s1 ρ a w _ hx hf hy hr fun ρ1 a1 w1 he1 hf1 hy1 hr1 => hq ρ1 a1 w1 he1 hf1 hy1 hr1)
    · cases ho
  | cond c x y ihx ihy =>
    intro s e s' ρ a w Q ho hf hy hr hq
    simp only [aexecY] at ho
    split at ho
    · rename_i b hc
      have hb := conc_bool (aeval_sound hf (hR1 _ _ _ hr) c _ hc)
      split at ho
      · exact wpIn_cond_true hb (ihx s e s' ρ a w Q ho hf hy hr hq)
      · exact wpIn_cond_false hb (ihy s e s' ρ a w Q ho hf hy hr hq)
    · cases ho
  | block id c ih =>
    intro s e s' ρ a w Q ho hf hy hr hq
    simp only [aexecY] at ho
    refine wpIn_block ?_
    split at ho
    · rename_i s1 hx
      simp only [Option.some.injEq, Prod.mk.injEq] at ho
      obtain ⟨rfl, rfl⟩ := ho
      exact ih s .normal s1 ρ a w _ hx hf hy hr fun ρ1 a1 w1 he1 hf1 hy1 hr1 => hq ρ1 a1 w1 he1 hf1 hy1 hr1
    · rename_i id' s1 hx
      refine ih s (.exit id') s1 ρ a w _ hx hf hy hr fun ρ1 a1 w1 he1 hf1 hy1 hr1 => ?_
      split at ho
      · rename_i hid
        simp only [Option.some.injEq, Prod.mk.injEq] at ho
        obtain ⟨rfl, rfl⟩ := ho
        show if id' = id then Q .normal a1 w1 else Q (.exit id') a1 w1
        rw [if_pos hid]
        exact hq ρ1 a1 w1 he1 hf1 hy1 hr1
      · rename_i hid
        simp only [Option.some.injEq, Prod.mk.injEq] at ho
        obtain ⟨rfl, rfl⟩ := ho
        show if id' = id then Q .normal a1 w1 else Q (.exit id') a1 w1
        rw [if_neg hid]
        exact hq ρ1 a1 w1 he1 hf1 hy1 hr1
    · rename_i s1 hx
      simp only [Option.some.injEq, Prod.mk.injEq] at ho
      obtain ⟨rfl, rfl⟩ := ho
      exact ih s .ret s1 ρ a w _ hx hf hy hr fun ρ1 a1 w1 he1 hf1 hy1 hr1 => hq ρ1 a1 w1 he1 hf1 hy1 hr1
    · cases ho
  | loop c ih =>
    intro s e s' ρ a w Q ho hf hy hr hq
    simp only [aexecY] at ho
    have key : ∀ (k : Nat) (s : YSt) (ρ : Rho) (a : Act) (w : World), aiterY (fun s => aexecY P call rd n c s) k s = some (e, s') → FrRel ρ s.1 a → YRel lp s.2.1 a → R ρ s.2.2 w →
        (∀ ρ' a' w', Ext ρ ρ' → FrRel ρ' s'.1 a' → YRel lp s'.2.1 a' → R ρ' s'.2.2 w' → Q e.to a' w') → Code.roundsIn Fence.wide m P c Q k a w := by
      intro k
      induction k with
      | zero => intro s ρ a w ho; simp [aiterY] at ho
      | succ k ihk =>
        intro s ρ a w ho hf hy hr hq
        rw [roundsIn_succ]
        simp only [aiterY] at ho
        split at ho
        · rename_i s1 hx
          exact ih s .normal s1 ρ a w _ hx hf hy hr fun ρ1 a1 w1 he1 hf1 hy1 hr1 =>
            ihk s1 ρ1 a1 w1 ho hf1 hy1 hr1 fun ρ2 a2 w2 he2 hf2 hy2 hr2 => hq ρ2 a2 w2 (he1.trans he2) hf2 hy2 hr2
        · rename_i id s1 hx
          simp only [Option.some.injEq, Prod.mk.injEq] at ho
          obtain ⟨rfl, rfl⟩ := ho
          exact ih s (.exit id) s1 ρ a w _ hx hf hy hr fun ρ1 a1 w1 he1 hf1 hy1 hr1 => hq ρ1 a1 w1 he1 hf1 hy1 hr1
        · rename_i s1 hx
          simp only [Option.some.injEq, Prod.mk.injEq] at ho
          obtain ⟨rfl, rfl⟩ := ho
          exact ih s .ret s1 ρ a w _ hx hf hy hr fun ρ1 a1 w1 he1 hf1 hy1 hr1 => hq ρ1 a1 w1 he1 hf1 hy1 hr1
        · cases ho
    exact wpIn_loop_rounds n (key n s ρ a w ho hf hy hr hq)
  | exit id =>
    intro s e s' ρ a w Q ho hf hy hr hq
    simp only [aexecY, Option.some.injEq, Prod.mk.injEq] at ho
    obtain ⟨rfl, rfl⟩ := ho
    exact wpIn_exit (hq ρ a w (Ext.refl ρ) hf hy hr)
  | ret =>
    intro s e s' ρ a w Q ho hf hy hr hq
    simp only [aexecY, Option.some.injEq, Prod.mk.injEq] at ho
    obtain ⟨rfl, rfl⟩ := ho
    exact wpIn_ret (hq ρ a w (Ext.refl ρ) hf hy hr)
  | rangeFunc f ps as bo _ _ => intro s e s' ρ a w Q ho; simp [aexecY] at ho
  | scope c _ => intro s e s' ρ a w Q ho; simp [aexecY] at ho
  | goto l => intro s e s' ρ a w Q ho; simp [aexecY] at ho
  | refuse s0 => intro s e s' ρ a w Q ho; simp [aexecY] at ho
end
end Go.Eng
/- The engine, part 33: the rounds of a range over a function. -/
namespace Go.Eng
/-- What stands while the iterator runs: lp the loop's record, D the block for deferred calls. -/
structure RR (ρ0 : Rho) (h0 : AHeap) (w0 : World) (lp D : Nat) (rec : LoopState → Option Code → Loop) (ρ : Rho) (h : AHeap) (w : World) : Prop where
  st : Step ρ0 h0 w0 ρ h w
  ul : ¬ Use ρ h lp
  ud : ¬ Use ρ h D
  l0 : w0.heap.size ≤ lp
  d0 : w0.heap.size ≤ D
  ne : D ≠ lp
  hl : w.heap[lp]? = some (.loop (rec .ready none))
  hd : w.heap[D]? = some (.deferred (some []))
theorem lt_of_some {w : World} {k : Nat} {o : Obj} (h : w.heap[k]? = some o) : k < w.heap.size := (Array.getElem?_eq_some_iff.1 h).1
theorem RR.step {ρ0 : Rho} {h0 : AHeap} {w0 : World} {lp D : Nat} {rec : LoopState → Option Code → Loop} {ρ ρ' : Rho} {h h' : AHeap} {w w' : World} (r : RR ρ0 h0 w0 lp D rec ρ h w) (s : Step ρ h w ρ' h' w') : RR ρ0 h0 w0 lp D rec ρ' h' w' := by
  obtain ⟨a1, a2⟩ := s.beside r.ul (lt_of_some r.hl)
  obtain ⟨b1, b2⟩ := s.beside r.ud (lt_of_some r.hd)
  exact ⟨r.st.trans s, a2, b2, r.l0, r.d0, r.ne, a1.trans r.hl, b1.trans r.hd⟩
def putsF : AFrame → List Tmp → List AV → Option AFrame
  | fr, [], [] => some fr
  | fr, t :: ts, v :: vs => match fr.put (some t) v with
    | some fr' => putsF fr' ts vs
    | none => none
  | _, _, _ => none
def rdOf (P : Program) (call : CallFn) (n : Nat) (ps : Array Tmp) (as bo : Code) (frL : AFrame) (args : List AV) (h : AHeap) : Option (AV × AHeap) :=
  match putsF frL ps.toList args with
  | some fr => match aexec P call n as fr h with
    | some (.normal, fr1, h1) => match aexec P call n bo fr1 h1 with
      | some (.normal, _, h2) => some (.bool true, h2)
      | _ => none
    | _ => none
  | none => none
theorem putsF_sound {ρ : Rho} : ∀ (ts : List Tmp) (vs : List AV) (cs : List Value) (fr fr' : AFrame) (a : Act), fr.ds = [] → putsF fr ts vs = some fr' → FrRel ρ fr a → concs ρ vs = some cs → ts.length = cs.length ∧ FrRel ρ fr' { tmps := (ts.zip cs).foldl (fun tmps p => tmps.setIfInBounds p.1 p.2) a.tmps, defers := [] }
  | [], [], cs, fr, fr', a, hds, ho, hf, hc => by
    simp only [putsF, Option.some.injEq] at ho
    simp only [concs, Option.some.injEq] at hc
    subst ho; subst hc
    exact ⟨rfl, ⟨hds.symm, hf.size, hf.val⟩⟩
  | t :: ts, v :: vs, cs, fr, fr', a, hds, ho, hf, hc => by
    simp only [putsF] at ho
    split at ho
    · rename_i fr1 hp
      simp only [concs] at hc
      split at hc
      · rename_i c cs' h1 h2
        simp only [Option.some.injEq] at hc
        subst hc
        obtain ⟨k1, k2⟩ := putsF_sound ts vs cs' fr1 fr' (a.put (some t) c) ((AFrame.put_ds hp).trans hds) ho (hf.put hp h1) h2
        exact ⟨by simp [k1], by simpa [Act.put] using k2⟩
      · cases hc
    · cases ho
  | [], _ :: _, cs, fr, fr', a, hds, ho, hf, hc => by simp [putsF] at ho
  | _ :: _, [], cs, fr, fr', a, hds, ho, hf, hc => by simp [putsF] at ho
theorem rounds_ok {P : Program} (hP : POk P) {call : CallFn} (hcall : CallOk P call) {m n : Nat} {ρ0 : Rho} {h0 : AHeap} {w0 : World} {lp D : Nat} {ps : Array Tmp} {as bo : Code} {fn : FuncId} {frL : AFrame} {aL : Act} (hnd1 : nodef as = true) (hnd2 : nodef bo = true) (hfL : FrRel ρ0 frL aL) (hds : frL.ds = []) :
    RoundOk P lp m (RR ρ0 h0 w0 lp D fun st pe => { state := st, pending := pe, fn := fn, tmps := aL.tmps, params := ps, assign := as, body := bo, defers := D }) (rdOf P call n ps as bo frL) := by
  intro args h v h' ρ w cargs hrd hr hargs
  unfold rdOf at hrd
  split at hrd
  case h_2 => cases hrd
  rename_i fr hput
  split at hrd
  case h_2 => cases hrd
  rename_i fr1 h1 has
  split at hrd
  case h_2 => cases hrd
  rename_i fr2 h2 hbo
  simp only [Option.some.injEq, Prod.mk.injEq] at hrd
  obtain ⟨rfl, rfl⟩ := hrd
  obtain ⟨hlen, hf⟩ := putsF_sound ps.toList args cargs frL fr aL hds hput (hfL.mono hr.st.ext) hargs
  have hy := run_yield (P := P) (args := cargs.toArray) hr.hl (by simp; simpa using hlen.symm)
  refine ⟨_, _, _, _, hy, roundIn_of_wpIn trivial ?_⟩
  have hft : ((ps.zip cargs.toArray).foldl (fun tmps (t, a) => tmps.setIfInBounds t a) aL.tmps) = (ps.toList.zip cargs).foldl (fun tmps p => tmps.setIfInBounds p.1 p.2) aL.tmps := by
    rw [← Array.foldl_toList, Array.toList_zip]
  rw [hft]
  refine aexec_soundIn lp (m - 1) hP hcall n as fr h .normal fr1 h1 ρ _ w _ hnd1 has hf hr.st.sim fun ρ1 a1 w1 hf1 hs1 => ?_
  have hr1 := hr.step hs1
  have hlt1 := lt_of_some hr1.hl
  have st2 := hr1.st.putObj_extra hr1.ul hr1.l0 (.loop { state := .busy, pending := none, fn := fn, tmps := aL.tmps, params := ps, assign := as, body := bo, defers := D })
  refine ⟨_, run_beginRound hr1.hl rfl, ?_⟩
  refine aexec_soundIn lp (m - 1) hP hcall n bo fr1 h1 .normal fr2 h2 ρ1 a1 _ _ hnd2 hbo hf1 st2.sim fun ρ3 a3 w3 hf3 hs3 => ?_
  have hl2 : (w1.putObj lp (.loop { state := .busy, pending := none, fn := fn, tmps := aL.tmps, params := ps, assign := as, body := bo, defers := D })).heap[lp]? = some (.loop { state := .busy, pending := none, fn := fn, tmps := aL.tmps, params := ps, assign := as, body := bo, defers := D }) := World.putObj_heap_same hlt1
  have hd2 := (World.putObj_heap_other (o := .loop { state := .busy, pending := none, fn := fn, tmps := aL.tmps, params := ps, assign := as, body := bo, defers := D }) hr1.ne).trans hr1.hd
  obtain ⟨p1, p2⟩ := hs3.beside hr1.ul (lt_of_some hl2)
  obtain ⟨q1, q2⟩ := hs3.beside hr1.ud (lt_of_some hd2)
  have hl3 := p1.trans hl2
  have st4 := (st2.trans hs3).putObj_extra p2 hr1.l0 (.loop { state := .ready, pending := none, fn := fn, tmps := aL.tmps, params := ps, assign := as, body := bo, defers := D })
  exact ⟨_, _, run_endRound none hl3, _, ρ3, rfl, rfl, hs1.ext.trans hs3.ext, ⟨st4, p2, q2, hr1.l0, hr1.d0, hr1.ne, World.putObj_heap_same (lt_of_some hl3), (World.putObj_heap_other hr1.ne).trans (q1.trans hd2)⟩⟩
end Go.Eng
