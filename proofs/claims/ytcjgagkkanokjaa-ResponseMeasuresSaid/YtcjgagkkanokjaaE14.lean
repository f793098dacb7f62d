/- The engine, part 14: whatever order is drawn. -/
import Derived.Test.YtcjgagkkanokjaaE13
namespace Go.Eng

def Li (listed : Array Bool) (i : Nat) : Prop := listed[i]? = some true

/-- An allocation that is done, behind the last effect that is done. -/
def Pend (ops : Array Oper) (F : Nat → AFrame) (listed : Array Bool) (e p : Nat) : Prop :=
  e ≤ p ∧ Li listed p ∧ ∃ o, ops[p]? = some o ∧ isAlloc o = true ∧ awanted ops (F p) o = some true

structure Inv (P : Program) (ops : Array Oper) (F : Nat → AFrame) (H : Nat → AHeap) (V : Nat → AV) (ρ0 : Rho) (w0 : World) (listed : Array Bool) (a : Act) (w : World) (ρ : Rho) (e : Nat) : Prop where
  lsz : listed.size = ops.size
  closed : Closed ops (Li listed)
  front : ∀ i o, ops[i]? = some o → isEff o = true → (Li listed i ↔ i < e)
  fr0 : e = 0 ∨ ∃ i o, e = i + 1 ∧ ops[i]? = some o ∧ isEff o = true
  ale : ∀ i o, ops[i]? = some o → isAlloc o = true → i < e → Li listed i
  step : Step ρ0 (H 0) w0 (res ρ (H e).next) (H e) w
  dom : ∀ b pl, ρ b = some pl → b < (H e).next ∨ ∃ p, Pend ops F listed e p ∧ b = (H p).next
  pend : ∀ p, Pend ops F listed e p → ∃ k ty cs m xs o, ops[p]? = some o ∧ palloc P (aeval (F p) (H p).glob) o.op = some (ty, cs, m) ∧ ρ (H p).next = some ⟨k, 0, xs.length⟩ ∧ concs (res ρ (H p).next) cs = some xs ∧ cs.all AV.one = true ∧
    w.heap[k]? = some (.cells xs.toArray ty (0, 0)) ∧ ¬ Use (res ρ (H e).next) (H e) k ∧ w0.heap.size ≤ k
  apart : ∀ p q, Pend ops F listed e p → Pend ops F listed e q → p ≠ q → ∀ pl pl', ρ (H p).next = some pl → ρ (H q).next = some pl' → pl.blk ≠ pl'.blk
  defers : a.defers = []
  asz : a.tmps.size = (F 0).n
  slot : ∀ t, (∃ j o c, Li listed j ∧ ops[j]? = some o ∧ o.dst = some t ∧ a.tmps[t]? = some c ∧ conc (res ρ (max (H (j + 1)).next (H e).next)) (V j) = some c) ∨
    ((∀ j o, Li listed j → ops[j]? = some o → o.dst ≠ some t) ∧ ∀ v, (F 0).get t = some v → ∃ c, a.tmps[t]? = some c ∧ conc (res ρ (H e).next) v = some c)

section
variable {P : Program} {call : CallFn} {ops : Array Oper} {M : List Nat} {F : Nat → AFrame} {H : Nat → AHeap} {V : Nat → AV} {ρ0 : Rho} {w0 : World}

theorem Inv.lt {listed : Array Bool} {a : Act} {w : World} {ρ : Rho} {e : Nat} (I : Inv P ops F H V ρ0 w0 listed a w ρ e) {i : Nat} (h : Li listed i) : i < ops.size := by
  rw [← I.lsz]; exact (Array.getElem?_eq_some_iff.1 h).1
theorem Inv.ele {listed : Array Bool} {a : Act} {w : World} {ρ : Rho} {e : Nat} (I : Inv P ops F H V ρ0 w0 listed a w ρ e) : e ≤ ops.size := by
  rcases I.fr0 with h | ⟨i, o, h, ho, _⟩
  · omega
  · have := (Array.getElem?_eq_some_iff.1 ho).1; omega

/-- Two operations that meet are in order. -/
theorem meets {ht : TextOk ops M} {i j : Nat} {oi oj : Oper} (hi : ops[i]? = some oi) (hj : ops[j]? = some oj) (hlt : j < i) :
    (∀ t, oj.dst = some t → oi.dst = some t → False) ∧ ((∀ t, oj.dst = some t → t ∈ oi.looksAt ops → bit M i j = true) ∧ (∀ t, oi.dst = some t → t ∈ oj.looksAt ops → bit M i j = true) ∧
      (isEff oi = true → isEff oj = true → bit M i j = true) ∧ (isEff oi = true → isAlloc oj = true → bit M i j = true)) := by
  have h := ht.pair i j oi oj hi hj hlt
  simp only [pairOk, Bool.and_eq_true, Bool.not_eq_true', Bool.or_eq_true] at h
  obtain ⟨h1, h2⟩ := h
  refine ⟨(fun t ha hb => by rw [sameDst_true.2 ⟨t, ha, hb⟩] at h1; cases h1), ?_⟩
  rcases h2 with h2 | ⟨⟨h2, h3⟩, h4⟩
  · exact ⟨fun _ _ _ => h2, fun _ _ _ => h2, fun _ _ => h2, fun _ _ => h2⟩
  · refine ⟨fun t ha hb => ?_, fun t ha hb => ?_, fun ha hb => ?_, fun ha hb => ?_⟩
    · rw [ha] at h2; simp [hasDst, hb] at h2
    · rw [ha] at h3; simp [hasDst, hb] at h3
    · simp [ha, hb] at h4
    · simp [ha, hb] at h4

/-- What a slot that the next operation looks at holds. -/
theorem Inv.operand {listed : Array Bool} {a : Act} {w : World} {ρ : Rho} {e : Nat} (I : Inv P ops F H V ρ0 w0 listed a w ρ e) (hl : Lex P call ops M F H V) {i : Nat} {o : Oper} (ho : ops[i]? = some o) (hn : ¬ Li listed i)
    (hpre : ∀ ed ∈ o.after, binds ed = true → Li listed ed.on) {t : Tmp} (ht : t ∈ o.looksAt ops) {v : AV} (hv : (F i).get t = some v) : ∃ c, a.tmps[t]? = some c ∧ conc (res ρ (max (H i).next (H e).next)) v = some c := by
  have hi := (Array.getElem?_eq_some_iff.1 ho).1
  have hb := fun k hk hbit => Closed.bits hl.text I.closed (fun _ h => I.lt h) i o ho hpre k hk hbit
  rcases hl.fget i (by omega) t with ⟨j, oj, hj, hoj, hd, hg⟩ | ⟨hnone, hg⟩
  · have hjl : Li listed j := hb j hj ((meets (ht := hl.text) ho hoj hj).2.1 t hd ht)
    rw [hg] at hv
    simp only [Option.some.injEq] at hv
    subst hv
    rcases I.slot t with ⟨j', o', c, h1, h2, h3, h4, h5⟩ | ⟨h1, _⟩
    · have : j' = j := by
        rcases Nat.lt_trichotomy j' j with h | h | h
        · exact ((meets (ht := hl.text) hoj h2 h).1 t h3 hd).elim
        · exact h
        · exact ((meets (ht := hl.text) h2 hoj h).1 t hd h3).elim
      subst this
      refine ⟨c, h4, conc_mono (res_ext ?_) _ _ h5⟩
      have := hl.nx (j' + 1) i (by omega) (by omega)
      omega
    · exact absurd hd (h1 j oj hjl hoj)
  · rcases I.slot t with ⟨j', o', c, h1, h2, h3, h4, h5⟩ | ⟨_, h2⟩
    · exfalso
      have hji : j' ≠ i := fun h => hn (h ▸ h1)
      rcases Nat.lt_or_ge j' i with h | h
      · exact hnone j' o' h h2 h3
      · have hlt : i < j' := by omega
        have hbit := (meets (ht := hl.text) h2 ho hlt).2.2.1 t h3 ht
        exact hn (Closed.bits hl.text I.closed (fun _ h => I.lt h) j' o' h2 (fun ed he hbe => I.closed j' o' h2 h1 ed he hbe) i hlt hbit)
    · rw [hg] at hv
      obtain ⟨c, h3, h4⟩ := h2 v hv
      exact ⟨c, h3, conc_mono (res_ext (by omega)) _ _ h4⟩

/-- The operands that an operation looks at, and no others. -/
def evAt (ops : Array Oper) (fr : AFrame) (g : Nat) (o : Oper) (x : Operand) : Option AV :=
  match x with
  | .tmp t => if t ∈ o.looksAt ops then fr.get t else none
  | x => aeval fr g x
theorem evAt_eq {fr : AFrame} {g : Nat} {o : Oper} : ∀ x ∈ o.op.operands, aeval fr g x = evAt ops fr g o x := by
  intro x hx
  cases x with
  | tmp t =>
    have : t ∈ o.looksAt ops := by
      unfold Oper.looksAt
      exact List.mem_append_left _ (List.mem_filterMap.2 ⟨.tmp t, by simpa using hx, rfl⟩)
    simp [evAt, aeval, this]
  | _ => rfl
theorem Inv.evRel {listed : Array Bool} {a : Act} {w : World} {ρ : Rho} {e : Nat} (I : Inv P ops F H V ρ0 w0 listed a w ρ e) (hl : Lex P call ops M F H V) {i : Nat} {o : Oper} (ho : ops[i]? = some o) (hn : ¬ Li listed i)
    (hpre : ∀ ed ∈ o.after, binds ed = true → Li listed ed.on) : EvRel (res ρ (max (H i).next (H e).next)) (evAt ops (F i) (H i).glob o) a.eval := by
  have hi := (Array.getElem?_eq_some_iff.1 ho).1
  intro x v hv
  cases x with
  | tmp t =>
    simp only [evAt] at hv
    split at hv
    · rename_i ht
      obtain ⟨c, h1, h2⟩ := I.operand hl ho hn hpre ht hv
      rw [h2]; simp [Act.eval, h1]
    · cases hv
  | const u => exact conc_ofValue hv
  | global g =>
    simp only [evAt, aeval] at hv
    cases hb : Nat.blt g (H i).glob with
    | false => simp [hb] at hv
    | true =>
      simp [hb] at hv
      subst hv
      have hlt := blt_true.1 hb
      rw [hl.gb i (by omega), ← hl.gb e I.ele] at hlt
      obtain ⟨en, he⟩ := I.step.sim.glob g hlt
      have he2 := res_ext (ρ := ρ) (show (H e).next ≤ max (H i).next (H e).next by omega) _ _ he
      simp [conc, he2, Act.eval]
  | func f => simp only [evAt, aeval, Option.some.injEq] at hv; subst hv; simp [conc, concs, Act.eval]
theorem Inv.wanted {listed : Array Bool} {a : Act} {w : World} {ρ : Rho} {e : Nat} (I : Inv P ops F H V ρ0 w0 listed a w ρ e) (hl : Lex P call ops M F H V) {i : Nat} {o : Oper} (ho : ops[i]? = some o) (hn : ¬ Li listed i)
    (hpre : ∀ ed ∈ o.after, binds ed = true → Li listed ed.on) {b : Bool} (hb : awanted ops (F i) o = some b) : Region.wanted o (yielded ops a.tmps) = b := by
  unfold awanted at hb
  unfold Region.wanted
  cases hg : o.guard with
  | none => simp [hg] at hb; simp [hb]
  | some jw =>
    obtain ⟨j, want⟩ := jw
    simp only [hg] at hb
    cases hd : (ops[j]?).bind (·.dst) with
    | none => simp [hd] at hb
    | some d =>
      simp only [hd] at hb
      cases hv : (F i).get d with
      | none => simp [hv] at hb
      | some v =>
        have hlook : d ∈ o.looksAt ops := by
          unfold Oper.looksAt
          refine List.mem_append_right _ ?_
          simp [hg, hd]
        obtain ⟨c, h1, h2⟩ := I.operand hl ho hn hpre hlook hv
        cases v <;> simp [hv] at hb
        · subst hb
          rw [conc_bool h2] at h1
          simp [yielded, hd, h1]
        · subst hb
          obtain ⟨x, _, rfl⟩ := conc_tuple h2
          simp [yielded, hd, h1]

/-- The slots behind an operation. -/
theorem slots_put {listed : Array Bool} {a : Act} {w : World} {ρ ρ' : Rho} {e e' : Nat} (I : Inv P ops F H V ρ0 w0 listed a w ρ e) (hl : Lex P call ops M F H V) {i : Nat} {o : Oper} (ho : ops[i]? = some o) {c : Value}
    (hext : Ext ρ ρ') (hee : (H e).next ≤ (H e').next) (hc : conc (res ρ' (max (H (i + 1)).next (H e').next)) (V i) = some c) :
    ∀ t, (∃ j o c', Li (listed.setIfInBounds i true) j ∧ ops[j]? = some o ∧ o.dst = some t ∧ (a.put (ops[i]?.bind (·.dst)) c).tmps[t]? = some c' ∧ conc (res ρ' (max (H (j + 1)).next (H e').next)) (V j) = some c') ∨
      ((∀ j o, Li (listed.setIfInBounds i true) j → ops[j]? = some o → o.dst ≠ some t) ∧ ∀ v, (F 0).get t = some v → ∃ c', (a.put (ops[i]?.bind (·.dst)) c).tmps[t]? = some c' ∧ conc (res ρ' (H e').next) v = some c') := by
  have hi := (Array.getElem?_eq_some_iff.1 ho).1
  have hset : ∀ j, Li listed j → Li (listed.setIfInBounds i true) j := fun j hj => by
    unfold Li at *
    by_cases h : i = j
    · subst h; rw [Array.getElem?_setIfInBounds_self_of_lt (by rw [I.lsz]; exact hi)]
    · rw [Array.getElem?_setIfInBounds_ne h]; exact hj
  have hseti : Li (listed.setIfInBounds i true) i := by unfold Li; rw [Array.getElem?_setIfInBounds_self_of_lt (by rw [I.lsz]; exact hi)]
  have hback : ∀ j, Li (listed.setIfInBounds i true) j → j = i ∨ Li listed j := fun j hj => by
    by_cases h : i = j
    · exact .inl h.symm
    · unfold Li at hj; rw [Array.getElem?_setIfInBounds_ne h] at hj; exact .inr hj
  intro t
  simp only [ho, Option.bind_some]
  by_cases hd : o.dst = some t
  · refine .inl ⟨i, o, c, hseti, ho, hd, ?_, hc⟩
    rw [hd]
    simp only [Act.put]
    have hp := (hl.at_ i o ho).put
    rw [hd] at hp
    rw [Array.getElem?_setIfInBounds_self_of_lt]
    rw [I.asz, ← hl.fn i (by omega)]
    exact (AFrame.put_lt hp).1
  · have hsame : (a.put o.dst c).tmps[t]? = a.tmps[t]? := by
      cases hdd : o.dst with
      | none => rfl
      | some d => simp only [Act.put]; exact Array.getElem?_setIfInBounds_ne (fun h => hd (by rw [hdd, h]))
    rw [hsame]
    rcases I.slot t with ⟨j, oj, c', h1, h2, h3, h4, h5⟩ | ⟨h1, h2⟩
    · exact .inl ⟨j, oj, c', hset j h1, h2, h3, h4, conc_mono ((res_mono hext _).trans (res_ext (by omega))) _ _ h5⟩
    · refine .inr ⟨fun j oj hj hoj hdj => ?_, fun v hv => ?_⟩
      · rcases hback j hj with rfl | hj
        · rw [ho] at hoj; cases hoj; exact hd hdj
        · exact h1 j oj hj hoj hdj
      · obtain ⟨c', h3, h4⟩ := h2 v hv
        exact ⟨c', h3, conc_mono ((res_mono hext _).trans (res_ext hee)) _ _ h4⟩

end

end Go.Eng
