/- The engine, part 15: each operation, whenever it comes up. -/
import Derived.Test.YtcjgagkkanokjaaE14
namespace Go.Eng
section
variable {P : Program} {call : CallFn} {ops : Array Oper} {M : List Nat} {F : Nat → AFrame} {H : Nat → AHeap} {V : Nat → AV} {ρ0 : Rho} {w0 : World}

theorem li_set {listed : Array Bool} {i : Nat} (hi : i < listed.size) (j : Nat) : Li (listed.setIfInBounds i true) j ↔ j = i ∨ Li listed j := by
  unfold Li
  by_cases h : i = j
  · subst h; rw [Array.getElem?_setIfInBounds_self_of_lt hi]; simp
  · rw [Array.getElem?_setIfInBounds_ne h]
    constructor
    · exact .inr
    · rintro (h' | h')
      · exact absurd h'.symm h
      · exact h'
theorem closed_set {listed : Array Bool} {i : Nat} (hi : i < listed.size) (hc : Closed ops (Li listed)) {o : Oper} (ho : ops[i]? = some o) (hpre : ∀ ed ∈ o.after, binds ed = true → Li listed ed.on) : Closed ops (Li (listed.setIfInBounds i true)) := by
  intro j oj hoj hj ed he hb
  rw [li_set hi] at hj ⊢
  rcases hj with rfl | hj
  · rw [ho] at hoj; cases hoj; exact .inr (hpre ed he hb)
  · exact .inr (hc j oj hoj hj ed he hb)
theorem put_asz {a : Act} {n : Nat} (h : a.tmps.size = n) (d : Option Tmp) (c : Value) : (a.put d c).tmps.size = n := by
  cases d <;> simp [Act.put, h]
theorem put_defers {a : Act} (h : a.defers = []) (d : Option Tmp) (c : Value) : (a.put d c).defers = [] := by
  cases d <;> simp [Act.put, h]

theorem pend_mono {listed : Array Bool} {i : Nat} (hi : i < listed.size) {e p : Nat} (h : Pend ops F listed e p) : Pend ops F (listed.setIfInBounds i true) e p :=
  ⟨h.1, (li_set hi p).2 (.inr h.2.1), h.2.2⟩
theorem pend_back {listed : Array Bool} {i : Nat} (hi : i < listed.size) {e p : Nat} (h : Pend ops F (listed.setIfInBounds i true) e p) : p = i ∨ Pend ops F listed e p := by
  rcases (li_set hi p).1 h.2.1 with h1 | h1
  · exact .inl h1
  · exact .inr ⟨h.1, h1, h.2.2⟩

/-- An operation that leaves the world alone, and no new block. -/
theorem Inv.light {listed : Array Bool} {a : Act} {w : World} {ρ : Rho} {e : Nat} (I : Inv P ops F H V ρ0 w0 listed a w ρ e) (hl : Lex P call ops M F H V) {i : Nat} {o : Oper} (ho : ops[i]? = some o)
    (hpre : ∀ ed ∈ o.after, binds ed = true → Li listed ed.on) (hk : isEff o = false) (hka : isAlloc o = true → awanted ops (F i) o = some false)
    {c : Value} (hc : conc (res ρ (max (H (i + 1)).next (H e).next)) (V i) = some c) :
    Inv P ops F H V ρ0 w0 (listed.setIfInBounds i true) (a.put (ops[i]?.bind (·.dst)) c) w ρ e := by
  have hi := (Array.getElem?_eq_some_iff.1 ho).1
  have hil : i < listed.size := by rw [I.lsz]; exact hi
  have hback : ∀ p, Pend ops F (listed.setIfInBounds i true) e p → Pend ops F listed e p := fun p hp => by
    rcases pend_back hil hp with rfl | h
    · obtain ⟨_, _, o', ho', h1, h2⟩ := hp
      rw [ho] at ho'; cases ho'
      rw [hka h1] at h2; cases h2
    · exact h
  refine ⟨by simp [I.lsz], closed_set hil I.closed ho hpre, ?_, I.fr0, fun j oj hoj ha hje => (li_set hil j).2 (.inr (I.ale j oj hoj ha hje)), I.step, ?_, fun p hp => I.pend p (hback p hp), fun p q hp hq => I.apart p q (hback p hp) (hback q hq),
    put_defers I.defers _ _, put_asz I.asz _ _, slots_put I hl ho (Ext.refl ρ) (Nat.le_refl _) hc⟩
  · intro j oj hoj hj
    rw [li_set hil]
    constructor
    · rintro (rfl | h)
      · rw [ho] at hoj; cases hoj; rw [hk] at hj; cases hj
      · exact (I.front j oj hoj hj).1 h
    · intro h; exact .inr ((I.front j oj hoj hj).2 h)
  · intro b pl hb
    rcases I.dom b pl hb with h | ⟨p, hp, h⟩
    · exact .inl h
    · exact .inr ⟨p, pend_mono hil hp, h⟩

/-- What comes behind an effect that is done is not done ahead of what must come before. -/
theorem Inv.alloc_behind {listed : Array Bool} {a : Act} {w : World} {ρ : Rho} {e : Nat} (I : Inv P ops F H V ρ0 w0 listed a w ρ e) {i : Nat} {o : Oper} (ho : ops[i]? = some o) (hn : ¬ Li listed i) (ha : isAlloc o = true) : e ≤ i := by
  rcases Nat.lt_or_ge i e with h | h
  · exact absurd (I.ale i o ho ha h) hn
  · exact h

/-- A new block. -/
theorem Inv.alloc {listed : Array Bool} {a : Act} {w : World} {ρ : Rho} {e : Nat} (I : Inv P ops F H V ρ0 w0 listed a w ρ e) (hl : Lex P call ops M F H V) {i : Nat} {o : Oper} (ho : ops[i]? = some o) (hn : ¬ Li listed i)
    (hpre : ∀ ed ∈ o.after, binds ed = true → Li listed ed.on) (hw : awanted ops (F i) o = some true) (hka : isAlloc o = true) {ty : TypeId} {cs : List AV} {m : Mk} (hm : palloc P (aeval (F i) (H i).glob) o.op = some (ty, cs, m)) (hv : V i = m.abs (H i).next) (hh : H (i + 1) = (H i).new (.cells ty cs (some 0))) :
    ∃ c w' ρ', (execOp a.eval o).run P w = .ok (.value c) w' ∧ Inv P ops F H V ρ0 w0 (listed.setIfInBounds i true) (a.put (ops[i]?.bind (·.dst)) c) w' ρ' e := by
  have hi := (Array.getElem?_eq_some_iff.1 ho).1
  have hil : i < listed.size := by rw [I.lsz]; exact hi
  have hei := I.alloc_behind ho hn hka
  have hne := hl.nx e i hei (by omega)
  have hev := I.evRel hl ho hn hpre
  rw [Nat.max_eq_left hne] at hev
  have hm' := hm
  rw [palloc_congr (evAt_eq (ops := ops) (fr := F i) (g := (H i).glob) (o := o))] at hm'
  obtain ⟨xs, hx, h1, hmk, hrun⟩ := palloc_sound (P := P) hm' hev
  have hnk : isEff o = false := by cases he : isEff o with | false => rfl | true => rw [kind_alloc] at hka; rw [kind_eff] at he; rw [hka] at he; cases he
  -- ids of new blocks
  have hidlt : ∀ p, Pend ops F listed e p → p < i → (H p).next < (H i).next := fun p hp hpi => by
    obtain ⟨_, _, o', ho', ha', hw'⟩ := hp
    have := hl.nx (p + 1) i (by omega) (by omega)
    have h2 : (H (p + 1)).next = (H p).next + 1 := by
      cases hl.did ho' with
      | skip hw2 _ _ => rw [hw'] at hw2; cases hw2
      | pure _ hk _ _ => rw [kind_alloc] at ha'; rw [ha'] at hk; cases hk
      | load _ hk _ => rw [kind_alloc] at ha'; rw [ha'] at hk; cases hk
      | alloc _ _ ty cs m _ _ hh => rw [hh]; rfl
      | eff _ hk _ => rw [kind_alloc] at ha'; rw [ha'] at hk; cases hk
    omega
  have hidgt : ∀ p, Pend ops F listed e p → i < p → (H i).next < (H p).next := fun p hp hpi => by
    have hps := (Array.getElem?_eq_some_iff.1 hp.2.2.choose_spec.1).1
    have := hl.nx (i + 1) p (by omega) (by omega)
    rw [hh] at this
    simp at this
    omega
  have hfresh : ρ (H i).next = none := by
    cases hr : ρ (H i).next with
    | none => rfl
    | some pl =>
      rcases I.dom _ _ hr with h | ⟨p, hp, h⟩
      · omega
      · have hpi : p ≠ i := fun h => hn (h ▸ hp.2.1)
        rcases Nat.lt_or_ge p i with h' | h'
        · have := hidlt p hp h'; omega
        · have := hidgt p hp (by omega); omega
  have hext : Ext ρ (upd ρ (H i).next ⟨w.heap.size, 0, xs.length⟩) := Ext.upd _ hfresh
  have hrese : ∀ N, N ≤ (H i).next → res (upd ρ (H i).next ⟨w.heap.size, 0, xs.length⟩) N = res ρ N := fun N hN => by
    funext b
    unfold res
    split
    · rw [upd_other]; omega
    · rfl
  have hinext : (H (i + 1)).next = (H i).next + 1 := by rw [hh]; rfl
  refine ⟨_, _, upd ρ (H i).next ⟨w.heap.size, 0, xs.length⟩, hrun w, ?_⟩
  have hown : ∀ p, Pend ops F listed e p → ∃ k l, ρ (H p).next = some ⟨k, 0, l⟩ ∧ k < w.heap.size := fun p hp => by
    obtain ⟨k, ty, cs, m, xs, o', _, _, h3, _, _, h6, _⟩ := I.pend p hp
    exact ⟨k, _, h3, (Array.getElem?_eq_some_iff.1 h6).1⟩
  refine ⟨by simp [I.lsz], closed_set hil I.closed ho hpre, ?_, I.fr0, fun j oj hoj ha hje => (li_set hil j).2 (.inr (I.ale j oj hoj ha hje)), ?_, ?_, ?_, ?_,
    put_defers I.defers _ _, put_asz I.asz _ _, slots_put I hl ho hext (Nat.le_refl _) ?_⟩
  · intro j oj hoj hj
    rw [li_set hil]
    constructor
    · rintro (rfl | h)
      · rw [ho] at hoj; cases hoj; rw [hnk] at hj; cases hj
      · exact (I.front j oj hoj hj).1 h
    · intro h; exact .inr ((I.front j oj hoj hj).2 h)
  · rw [hrese _ hne]
    exact I.step.push _
  · intro b pl hb
    by_cases hbi : b = (H i).next
    · exact .inr ⟨i, ⟨hei, (li_set hil i).2 (.inl rfl), o, ho, hka, hw⟩, hbi⟩
    · rw [upd_other _ _ _ hbi] at hb
      rcases I.dom b pl hb with h | ⟨p, hp, h⟩
      · exact .inl h
      · exact .inr ⟨p, pend_mono hil hp, h⟩
  · intro p hp
    by_cases hpi : p = i
    · subst hpi
      refine ⟨w.heap.size, ty, cs, m, xs, o, ho, hm, upd_same _ _ _, ?_, h1, heap_push_new _, ?_, I.step.keep.size⟩
      · rw [hrese _ (Nat.le_refl _)]; exact hx
      · rw [hrese _ hne]
        rintro ⟨b, pl, hlv, hb, hk⟩
        obtain ⟨pl', h1, h2⟩ := I.step.sim.obj b hlv
        rw [hb] at h1; cases h1
        have := h2.lt hlv
        omega
    · have hp' : Pend ops F listed e p := (pend_back hil hp).resolve_left hpi
      obtain ⟨k, ty', cs', m', xs', o', g1, g2, g3, g4, g5, g6, g7, g8⟩ := I.pend p hp'
      refine ⟨k, ty', cs', m', xs', o', g1, g2, hext _ _ g3, concs_mono (res_mono hext _) _ _ g4, g5, ?_, ?_, g8⟩
      · rw [heap_push _ _ (Array.getElem?_eq_some_iff.1 g6).1]; exact g6
      · rw [hrese _ hne]; exact g7
  · intro p q hp hq hpq pl pl' h1 h2
    by_cases hpi : p = i
    · subst hpi
      have hq' : Pend ops F listed e q := (pend_back hil hq).resolve_left (Ne.symm hpq)
      rw [upd_same] at h1; cases h1
      obtain ⟨k, l, h3, h4⟩ := hown q hq'
      rw [hext _ _ h3] at h2; cases h2
      exact Nat.ne_of_gt h4
    · have hp' : Pend ops F listed e p := (pend_back hil hp).resolve_left hpi
      obtain ⟨k, l, h3, h4⟩ := hown p hp'
      rw [hext _ _ h3] at h1; cases h1
      by_cases hqi : q = i
      · subst hqi
        rw [upd_same] at h2; cases h2
        exact Nat.ne_of_lt h4
      · have hq' : Pend ops F listed e q := (pend_back hil hq).resolve_left hqi
        obtain ⟨k', l', h5, h6⟩ := hown q hq'
        rw [hext _ _ h5] at h2; cases h2
        exact I.apart p q hp' hq' hpq _ _ h3 h5
  · rw [hv]
    refine Mk.conc (endc := xs.length) ?_ hmk
    exact res_of (by omega) (upd_same _ _ _)

/-- The blocks that lie ahead of operation i are taken into the heap. -/
theorem Inv.flush {listed : Array Bool} {a : Act} {w : World} {ρ : Rho} {e : Nat} (I : Inv P ops F H V ρ0 w0 listed a w ρ e) (hl : Lex P call ops M F H V) {i : Nat} (hei : e ≤ i) (hin : i ≤ ops.size)
    (hne : ∀ x ox, e ≤ x → x < i → ops[x]? = some ox → isEff ox = false) (hal : ∀ x ox, x < i → ops[x]? = some ox → isAlloc ox = true → Li listed x) :
    Step ρ0 (H 0) w0 (res ρ (H i).next) (H i) w ∧ ∀ p, i ≤ p → Pend ops F listed e p → ∀ pl, ρ (H p).next = some pl → ¬ Use (res ρ (H i).next) (H i) pl.blk := by
  have key : ∀ d, e + d ≤ i → Step ρ0 (H 0) w0 (res ρ (H (e + d)).next) (H (e + d)) w ∧ ∀ p, e + d ≤ p → Pend ops F listed e p → ∀ pl, ρ (H p).next = some pl → ¬ Use (res ρ (H (e + d)).next) (H (e + d)) pl.blk := by
    intro d
    induction d with
    | zero =>
      intro _
      refine ⟨I.step, fun p _ hp pl hpl => ?_⟩
      obtain ⟨k, ty', cs', m', xs', o', g1, g2, g3, g4, g5, g6, g7, g8⟩ := I.pend p hp
      rw [g3] at hpl; cases hpl
      exact g7
    | succ d ih =>
      intro hd
      obtain ⟨hst, hus⟩ := ih (by omega)
      have hx : e + d < ops.size := by omega
      have ho := ops_at hx
      have hnx := hne (e + d) _ (by omega) (by omega) ho
      have same : H (e + d + 1) = H (e + d) → _ := fun hh => (show Step ρ0 (H 0) w0 (res ρ (H (e + (d + 1))).next) (H (e + (d + 1))) w ∧ ∀ p, e + (d + 1) ≤ p → Pend ops F listed e p → ∀ pl, ρ (H p).next = some pl → ¬ Use (res ρ (H (e + (d + 1))).next) (H (e + (d + 1))) pl.blk by
        rw [show e + (d + 1) = e + d + 1 by omega, hh]
        exact ⟨hst, fun p hp hpp pl hpl => hus p (by omega) hpp pl hpl⟩)
      cases hl.did ho with
      | skip _ _ hh => exact same hh
      | pure _ _ _ hh => exact same hh
      | load _ _ hh => exact same hh
      | eff _ hk _ => rw [← kind_eff] at hk; rw [hnx] at hk; cases hk
      | alloc hw hk ty cs m hm hv hh =>
        have hka := kind_alloc.2 hk
        have hp : Pend ops F listed e (e + d) := ⟨by omega, hal (e + d) _ (by omega) ho hka, _, ho, hka, hw⟩
        obtain ⟨k, ty', cs', m', xs', o', g1, g2, g3, g4, g5, g6, g7, g8⟩ := I.pend _ hp
        rw [ho] at g1; cases g1
        rw [hm] at g2; cases g2
        have hfree := hus (e + d) (Nat.le_refl _) hp _ g3
        have hupd : upd (res ρ (H (e + d)).next) (H (e + d)).next ⟨k, 0, xs'.length⟩ = res ρ (H (e + (d + 1))).next := by
          funext b
          rw [show e + (d + 1) = e + d + 1 by omega, show (H (e + d + 1)).next = (H (e + d)).next + 1 by rw [hh]; rfl]
          unfold upd res
          by_cases hb : b = (H (e + d)).next
          · rw [if_pos hb, if_pos (by omega), hb, g3]
          · rw [if_neg hb]
            by_cases hb2 : b < (H (e + d)).next
            · rw [if_pos hb2, if_pos (by omega)]
            · rw [if_neg hb2, if_neg (by omega)]
        have hxl := concs_length _ _ g4
        have hsim := hst.sim.add (.cells ty cs (some 0)) ⟨k, 0, xs'.length⟩ ⟨xs'.toArray, (0, 0), xs', g6, by simp, by simp; omega, g5, concs_mono (Ext.upd _ hst.sim.fresh) _ _ g4, fun j x hj => by simpa using hj, fun f hf => by simp⟩ hfree
        rw [hupd, ← hh] at hsim
        have hextd : Ext (res ρ (H (e + d)).next) (res ρ (H (e + (d + 1))).next) := by rw [← hupd]; exact Ext.upd _ hst.sim.fresh
        have hblk : ∀ (Q : AObj → Bool), (∀ b pl, Q ((H (e + d + 1)).get b) = true → res ρ (H (e + (d + 1))).next b = some pl → pl.blk = k ∨ (Q ((H (e + d)).get b) = true ∧ res ρ (H (e + d)).next b = some pl)) := by
          intro Q b pl hQ hb
          rw [← hupd] at hb
          by_cases hbn : b = (H (e + d)).next
          · subst hbn
            rw [upd_same] at hb; cases hb
            exact .inl rfl
          · rw [upd_other _ _ _ hbn] at hb
            rw [hh, AHeap.get_new, if_neg (Ne.symm hbn)] at hQ
            exact .inr ⟨hQ, hb⟩
        refine ⟨⟨hst.ext.trans hextd, hsim, ⟨hst.keep.size, hst.keep.os, hst.keep.tape, hst.keep.output, fun k' hk' hno => ⟨(hst.keep.old k' hk' hno).1, ?_⟩, fun k' hk' hno => ?_⟩, ?_, ?_⟩, fun q hq hqp pl hpl => ?_⟩
        · rintro ⟨b, pl, hQ, hb, hbk⟩
          rcases hblk AObj.writes b pl hQ hb with h | ⟨h1, h2⟩
          · omega
          · exact (hst.keep.old k' hk' hno).2 ⟨b, pl, h1, h2, hbk⟩
        · rintro ⟨b, pl, hQ, hb, hbk⟩
          rcases hblk AObj.live b pl hQ hb with h | ⟨h1, h2⟩
          · omega
          · exact hst.keep.use k' hk' hno ⟨b, pl, h1, h2, hbk⟩
        · exact Nat.le_trans hst.nx (hl.nx _ _ (by omega) (by omega))
        · rw [hl.gb _ (by omega)]
        · rintro ⟨b, pl', hQ, hb, hbk⟩
          rcases hblk AObj.live b pl' hQ hb with h | ⟨h1, h2⟩
          · have := I.apart q (e + d) hqp hp (by omega) _ _ hpl g3
            simp only at this
            omega
          · exact hus q (by omega) hqp pl hpl ⟨b, pl', h1, h2, hbk⟩
  have := key (i - e) (by omega)
  rw [show e + (i - e) = i by omega] at this
  exact this

/-- An effect: what is known behind it. -/
theorem Inv.eff {listed : Array Bool} {a : Act} {w w' : World} {ρ ρ1 : Rho} {e : Nat} (I : Inv P ops F H V ρ0 w0 listed a w ρ e) (hl : Lex P call ops M F H V) {i : Nat} {o : Oper} (ho : ops[i]? = some o) (hn : ¬ Li listed i)
    (hpre : ∀ ed ∈ o.after, binds ed = true → Li listed ed.on) (hk : isEff o = true) (hei : e ≤ i) (hfl : Step ρ0 (H 0) w0 (res ρ (H i).next) (H i) w)
    (hfree : ∀ p, i ≤ p → Pend ops F listed e p → ∀ pl, ρ (H p).next = some pl → ¬ Use (res ρ (H i).next) (H i) pl.blk) {c : Value} (hc : conc ρ1 (V i) = some c) (hst : Step (res ρ (H i).next) (H i) w ρ1 (H (i + 1)) w')
    (hall : ∀ x ox, x < i → ops[x]? = some ox → isAlloc ox = true ∨ isEff ox = true → Li listed x) :
    Inv P ops F H V ρ0 w0 (listed.setIfInBounds i true) (a.put (ops[i]?.bind (·.dst)) c) w' (fun b => if b < (H (i + 1)).next then ρ1 b else ρ b) (i + 1) := by
  have hi := (Array.getElem?_eq_some_iff.1 ho).1
  have hil : i < listed.size := by rw [I.lsz]; exact hi
  have hnx := (hl.at_ i o ho).nx
  obtain ⟨ρ', hρ'⟩ : ∃ ρ' : Rho, ρ' = fun b => if b < (H (i + 1)).next then ρ1 b else ρ b := ⟨_, rfl⟩
  rw [← hρ']
  have hnal : isAlloc o = false := by cases he : isAlloc o with | false => rfl | true => rw [kind_alloc] at he; rw [kind_eff] at hk; rw [he] at hk; cases hk
  have hres : res ρ' (H (i + 1)).next = ρ1 := by
    funext b
    unfold res
    split
    · rename_i hb; rw [hρ']; simp only; rw [if_pos hb]
    · rename_i hb
      cases hr : ρ1 b with
      | none => rfl
      | some pl => exact absurd (hst.sim.rng b pl hr) hb
  have hidgt : ∀ p, Pend ops F listed e p → i < p → (H (i + 1)).next ≤ (H p).next := fun p hp hpi => by
    have hps := (Array.getElem?_eq_some_iff.1 hp.2.2.choose_spec.1).1
    exact hl.nx (i + 1) p (by omega) (by omega)
  have hidlt : ∀ p, Pend ops F listed e p → p < i → (H p).next < (H i).next := fun p hp hpi => by
    obtain ⟨_, _, o', ho', ha', hw'⟩ := hp
    have := hl.nx (p + 1) i (by omega) (by omega)
    have h2 : (H (p + 1)).next = (H p).next + 1 := by
      cases hl.did ho' with
      | skip hw2 _ _ => rw [hw'] at hw2; cases hw2
      | pure _ hk _ _ => rw [kind_alloc] at ha'; rw [ha'] at hk; cases hk
      | load _ hk _ => rw [kind_alloc] at ha'; rw [ha'] at hk; cases hk
      | alloc _ _ ty cs m _ _ hh => rw [hh]; rfl
      | eff _ hk _ => rw [kind_alloc] at ha'; rw [ha'] at hk; cases hk
    omega
  have hpi : ∀ p, Pend ops F listed e p → p ≠ i := fun p hp h => hn (h ▸ hp.2.1)
  have hext : Ext ρ ρ' := fun b pl hb => by
    rw [hρ']
    simp only
    rcases I.dom b pl hb with h | ⟨p, hp, h⟩
    · have := hl.nx e i hei (by omega)
      rw [if_pos (by omega)]
      exact hst.ext b pl (res_of (by omega) hb)
    · rcases Nat.lt_or_ge p i with h' | h'
      · have := hidlt p hp h'
        rw [if_pos (by omega)]
        exact hst.ext b pl (res_of (by omega) hb)
      · have := hidgt p hp (by have := hpi p hp; omega)
        rw [if_neg (by omega)]
        exact hb
  have hback : ∀ p, Pend ops F (listed.setIfInBounds i true) (i + 1) p → Pend ops F listed e p ∧ i < p := fun p hp => by
    have hge := hp.1
    rcases (li_set hil p).1 hp.2.1 with h | h
    · omega
    · exact ⟨⟨by omega, h, hp.2.2⟩, by omega⟩
  refine ⟨by simp [I.lsz], closed_set hil I.closed ho hpre, ?_, .inr ⟨i, o, rfl, ho, hk⟩, ?_, ?_, ?_, ?_, ?_, put_defers I.defers _ _, put_asz I.asz _ _, slots_put I hl ho hext (hl.nx e (i + 1) (by omega) (by omega)) ?_⟩
  · intro j oj hoj hj
    rw [li_set hil]
    constructor
    · rintro (rfl | h)
      · omega
      · have := (I.front j oj hoj hj).1 h; omega
    · intro h
      by_cases hji : j = i
      · exact .inl hji
      · exact .inr (hall j oj (by omega) hoj (.inr hj))
  · intro j oj hoj ha hj
    refine (li_set hil j).2 ?_
    by_cases hji : j = i
    · exact .inl hji
    · exact .inr (hall j oj (by omega) hoj (.inl ha))
  · rw [hres]
    exact hfl.trans hst
  · intro b pl hb
    rw [hρ'] at hb
    simp only at hb
    split at hb
    · rename_i h; exact .inl h
    · rename_i hnb
      rcases I.dom b pl hb with h | ⟨p, hp, h⟩
      · have := hl.nx e (i + 1) (by omega) (by omega); omega
      · rcases Nat.lt_or_ge p i with h' | h'
        · have := hidlt p hp h'; omega
        · have hlt : i < p := by have := hpi p hp; omega
          exact .inr ⟨p, ⟨by omega, (li_set hil p).2 (.inr hp.2.1), hp.2.2⟩, h⟩
  · intro p hp
    obtain ⟨hp', hlt⟩ := hback p hp
    obtain ⟨k, ty', cs', m', xs', o', g1, g2, g3, g4, g5, g6, g7, g8⟩ := I.pend p hp'
    have hus := hfree p (by omega) hp' _ g3
    have hklt := (Array.getElem?_eq_some_iff.1 g6).1
    refine ⟨k, ty', cs', m', xs', o', g1, g2, hext _ _ g3, concs_mono (res_mono hext _) _ _ g4, g5, ?_, ?_, g8⟩
    · rw [(hst.keep.old k hklt (fun h => hus h.use)).1]; exact g6
    · rw [hres]; exact hst.keep.use k hklt hus
  · intro p q hp hq hpq pl pl' h1 h2
    obtain ⟨hp', _⟩ := hback p hp
    obtain ⟨hq', _⟩ := hback q hq
    obtain ⟨k, _, _, _, xs1, _, _, _, g3, _⟩ := I.pend p hp'
    obtain ⟨k', _, _, _, xs2, _, _, _, g3', _⟩ := I.pend q hq'
    rw [hext _ _ g3] at h1; cases h1
    rw [hext _ _ g3'] at h2; cases h2
    exact I.apart p q hp' hq' hpq _ _ g3 g3'
  · rw [Nat.max_self, hres]; exact hc

/-- All is done. -/
theorem Inv.done {listed : Array Bool} {a : Act} {w : World} {ρ : Rho} {e : Nat} (I : Inv P ops F H V ρ0 w0 listed a w ρ e) (hl : Lex P call ops M F H V) (hall : ∀ i, i < ops.size → Li listed i) :
    ∃ ρ', FrRel ρ' (F ops.size) a ∧ Step ρ0 (H 0) w0 ρ' (H ops.size) w := by
  have hle := I.ele
  obtain ⟨hst, _⟩ := I.flush hl hle (Nat.le_refl _) (fun x ox hx hxn hox => by
      cases he : isEff ox with
      | false => rfl
      | true => have := (I.front x ox hox he).1 (hall x hxn); omega) (fun x ox hx hox _ => hall x hx)
  refine ⟨_, ⟨I.defers, by rw [I.asz, hl.fn _ (Nat.le_refl _)], fun t v hv => ?_⟩, hst⟩
  rcases hl.fget ops.size (Nat.le_refl _) t with ⟨j, oj, hj, hoj, hd, hg⟩ | ⟨hnone, hg⟩
  · rw [hg] at hv
    simp only [Option.some.injEq] at hv
    subst hv
    rcases I.slot t with ⟨j', o', c, h1, h2, h3, h4, h5⟩ | ⟨h1, _⟩
    · have hjj : j' = j := by
        rcases Nat.lt_trichotomy j' j with h | h | h
        · exact ((meets (ht := hl.text) hoj h2 h).1 t h3 hd).elim
        · exact h
        · exact ((meets (ht := hl.text) h2 hoj h).1 t hd h3).elim
      subst hjj
      refine ⟨c, h4, conc_mono (res_ext ?_) _ _ h5⟩
      have h6 := hl.nx (j' + 1) ops.size (by omega) (Nat.le_refl _)
      have h7 := hl.nx e ops.size hle (Nat.le_refl _)
      omega
    · exact absurd hd (h1 j oj (hall j hj) hoj)
  · rw [hg] at hv
    rcases I.slot t with ⟨j', o', c, h1, h2, h3, h4, h5⟩ | ⟨_, h2⟩
    · exact absurd h3 (hnone j' o' (I.lt h1) h2)
    · obtain ⟨c, h3, h4⟩ := h2 v hv
      exact ⟨c, h3, conc_mono (res_ext (hl.nx e ops.size hle (Nat.le_refl _))) _ _ h4⟩

/-- One operation that comes up. -/
theorem Inv.one (hP : POk P) (hcall : CallOk P call) (hl : Lex P call ops M F H V) {Q : Exit → Act → World → Prop} {listed : Array Bool} {a : Act} {w : World} {ρ : Rho} {e : Nat} (I : Inv P ops F H V ρ0 w0 listed a w ρ e) {i : Nat} {o : Oper} (ho : ops[i]? = some o) (hn : ¬ Li listed i)
    (hpre : ∀ ed ∈ o.after, binds ed = true → Li listed ed.on) {K : Act → World → Prop} (hK : ∀ a' w' ρ' e', Inv P ops F H V ρ0 w0 (listed.setIfInBounds i true) a' w' ρ' e' → K a' w') : wpOp P ops Q i K a w := by
  have hi := (Array.getElem?_eq_some_iff.1 ho).1
  have hbits := Closed.bits hl.text I.closed (fun _ h => I.lt h) i o ho hpre
  have hev := I.evRel hl ho hn hpre
  have hbd : ops[i]?.bind (·.dst) = o.dst := by rw [ho]; rfl
  unfold wpOp
  simp only [ho]
  -- an effect's side
  have effs : isEff o = true → e ≤ i ∧ (∀ x ox, x < i → ops[x]? = some ox → isAlloc ox = true ∨ isEff ox = true → Li listed x) ∧
      (Step ρ0 (H 0) w0 (res ρ (H i).next) (H i) w ∧ ∀ p, i ≤ p → Pend ops F listed e p → ∀ pl, ρ (H p).next = some pl → ¬ Use (res ρ (H i).next) (H i) pl.blk) := by
    intro hk
    have hei : e ≤ i := by
      rcases Nat.lt_or_ge i e with h | h
      · exact absurd ((I.front i o ho hk).2 h) hn
      · exact h
    have hall : ∀ x ox, x < i → ops[x]? = some ox → isAlloc ox = true ∨ isEff ox = true → Li listed x := fun x ox hx hox h => by
      have hm := (meets (ht := hl.text) ho hox hx).2.2.2
      rcases h with h | h
      · exact hbits x hx (hm.2 hk h)
      · exact hbits x hx (hm.1 hk h)
    refine ⟨hei, hall, I.flush hl hei (by omega) (fun x ox hx hxi hox => ?_) (fun x ox hx hox ha => hall x ox hx hox (.inl ha))⟩
    cases he : isEff ox with
    | false => rfl
    | true => have := (I.front x ox hox he).1 (hall x ox hxi hox (.inr he)); omega
  cases hl.did ho with
  | skip hw hv hh =>
    rw [I.wanted hl ho hn hpre hw, if_neg (by simp)]
    rw [← hbd]
    cases hk : isEff o with
    | false =>
      exact hK _ _ _ _ (I.light hl ho hpre hk (fun _ => hw) (c := undef) (by rw [hv]; simp [conc, concs, undef]))
    | true =>
      obtain ⟨hei, hall, hfl, hfree⟩ := effs hk
      exact hK _ _ _ _ (I.eff hl ho hn hpre hk hei hfl hfree (c := undef) (ρ1 := res ρ (H i).next) (by rw [hv]; simp [conc, concs, undef]) (by rw [hh]; exact Step.refl hfl.sim) hall)
  | pure hw hk hv hh =>
    rw [I.wanted hl ho hn hpre hw, if_pos rfl]
    rw [ppure_congr (evAt_eq (ops := ops) (fr := F i) (g := (H i).glob) (o := o))] at hv
    obtain ⟨c, h1, h2⟩ := ppure_sound hv hev
    refine .inl ?_
    unfold Oper.wp
    rw [h2 w]
    simp only [Oper.upon]
    rw [← hbd]
    refine hK _ _ _ _ (I.light hl ho hpre (by unfold isEff; rw [hk]) (fun h => by rw [kind_alloc, hk] at h; cases h) ?_)
    rw [hh]; exact h1
  | load hw hk hh =>
    rw [I.wanted hl ho hn hpre hw, if_pos rfl]
    have hld := hl.load i o ho (kind_load.2 hk) hw e (I.fr0.imp id fun ⟨x, ox, h1, h2, h3⟩ => ⟨x, ox, h1, h2, h3⟩) (fun x ox hox hx => ⟨fun hxi hb => ?_, fun hxi hb => ?_⟩)
    · rw [pload_congr (evAt_eq (ops := ops) (fr := F i) (g := (H i).glob) (o := o))] at hld
      obtain ⟨c, h1, h2⟩ := pload_sound2 (ρ := res ρ (H e).next) (w := w) hld hev I.step.sim (fun b pl pl' ha hb => by
        have := (res_some ha).2
        have h3 := (res_some hb).2
        rw [this] at h3; cases h3; rfl)
      refine .inl ?_
      unfold Oper.wp
      rw [h2]
      simp only [Oper.upon]
      rw [← hbd]
      refine hK _ _ _ _ (I.light hl ho hpre (by unfold isEff; rw [hk]) (fun h => by rw [kind_alloc, hk] at h; cases h) ?_)
      exact conc_mono (res_ext (by omega)) _ _ h1
    · exact (I.front x ox hox hx).1 (hbits x hxi hb)
    · rcases Nat.lt_or_ge x e with h | h
      · exfalso
        have hxl := (I.front x ox hox hx).2 h
        exact hn (Closed.bits hl.text I.closed (fun _ h => I.lt h) x ox hox (fun ed he hbe => I.closed x ox hox hxl ed he hbe) i hxi hb)
      · exact h
  | alloc hw hk ty cs m hm hv hh =>
    rw [I.wanted hl ho hn hpre hw, if_pos rfl]
    obtain ⟨c, w', ρ', h1, h2⟩ := I.alloc hl ho hn hpre hw (kind_alloc.2 hk) hm hv hh
    refine .inl ?_
    unfold Oper.wp
    rw [h1]
    simp only [Oper.upon]
    rw [← hbd]
    exact hK _ _ _ _ h2
  | eff hw hk hv =>
    rw [I.wanted hl ho hn hpre hw, if_pos rfl]
    have hke := kind_eff.2 hk
    obtain ⟨hei, hall, hfl, hfree⟩ := effs hke
    rw [Nat.max_eq_left (hl.nx e i hei (by omega))] at hev
    rw [aop_congr (evAt_eq (ops := ops) (fr := F i) (g := (H i).glob) (o := o))] at hv
    refine .inl (aop_sound hP hcall hv hev hfl.sim fun c w' ρ1 hc hst => ?_)
    rw [← hbd]
    exact hK _ _ _ _ (I.eff hl ho hn hpre hke hei hfl hfree hc hst hall)

/-- Whatever order comes. -/
theorem Inv.any (hP : POk P) (hcall : CallOk P call) (hl : Lex P call ops M F H V) {Q : Exit → Act → World → Prop} (hq : ∀ ρ' a' w', FrRel ρ' (F ops.size) a' → Step ρ0 (H 0) w0 ρ' (H ops.size) w' → Q .normal a' w') :
    ∀ (fuel : Nat) (listed : Array Bool) (a : Act) (w : World) (ρ : Rho) (e : Nat), Inv P ops F H V ρ0 w0 listed a w ρ e → listed.toList.count false = fuel → wpAny P .any ops Q fuel listed a w := by
  have getF : ∀ (listed : Array Bool) (j : Nat), listed.getD j false = true → Li listed j := fun listed j h => by
    unfold Li
    rcases Nat.lt_or_ge j listed.size with h' | h'
    · simp [h'] at h ⊢; exact h
    · simp [Array.getElem?_eq_none h'] at h
  have ready : ∀ (listed : Array Bool), listed.size = ops.size → Region.ready .any ops listed = [] → ∀ i, i < ops.size → Li listed i := by
    intro listed hsz hr i
    induction i using Nat.strongRecOn with
    | _ i ih =>
      intro hi
      have ho := ops_at hi
      by_cases hL : Li listed i
      · exact hL
      · exfalso
        have : i ∈ Region.ready .any ops listed := by
          unfold Region.ready
          refine List.mem_filter.2 ⟨by simp [hi], ?_⟩
          have hf : listed.getD i true = false := by
            have h' : i < listed.size := by omega
            simp only [Array.getD_eq_getD_getElem?]
            unfold Li at hL
            rw [Array.getElem?_eq_getElem h'] at hL ⊢
            cases hb : listed[i] with
            | false => rfl
            | true => rw [hb] at hL; exact absurd rfl hL
          simp only [hf, Bool.not_false, Bool.true_and, ho, Option.map_some, Option.getD_some, Array.all_eq_true_iff_forall_mem]
          intro ed hed
          cases hb : Region.binds .any ed with
          | false => rfl
          | true =>
            have hlt := hl.text.lex i _ ho ed hed hb
            have := ih ed.on hlt (by omega)
            unfold Li at this
            simp [this]
        rw [hr] at this
        cases this
  intro fuel
  induction fuel with
  | zero =>
    intro listed a w ρ e I hf
    have hall : ∀ i, i < ops.size → Li listed i := fun i hi => by
      unfold Li
      have h' : i < listed.size := by rw [I.lsz]; exact hi
      rw [Array.getElem?_eq_getElem h']
      have hm : listed[i] ∈ listed.toList := by simp
      have := List.count_eq_zero.1 hf
      cases hb : listed[i] with
      | true => rfl
      | false => rw [hb] at hm; exact absurd hm this
    refine ⟨?_, ?_⟩
    · unfold Region.ready
      rw [List.filter_eq_nil_iff]
      intro i hi
      have := hall i (by simpa using hi)
      unfold Li at this
      simp [this]
    · obtain ⟨ρ', h1, h2⟩ := I.done hl hall
      exact hq ρ' a w h1 h2
  | succ fuel ih =>
    intro listed a w ρ e I hf
    refine ⟨fun hr => ?_, fun i hi => ?_⟩
    · have hall := ready listed I.lsz hr
      obtain ⟨ρ', h1, h2⟩ := I.done hl hall
      exact hq ρ' a w h1 h2
    · unfold Region.ready at hi
      obtain ⟨hr, hi2⟩ := List.mem_filter.1 hi
      have hin : i < ops.size := by simpa using hr
      have ho := ops_at hin
      have hil : i < listed.size := by rw [I.lsz]; exact hin
      simp only [ho, Option.map_some, Option.getD_some, Bool.and_eq_true, Array.all_eq_true_iff_forall_mem] at hi2
      have hfl : listed[i]? = some false := by
        have h1 := hi2.1
        rw [Array.getElem?_eq_getElem hil]
        cases hb : listed[i] with
        | false => rfl
        | true => simp [hb, hil] at h1
      refine I.one hP hcall hl ho (fun hL => by unfold Li at hL; rw [hfl] at hL; cases hL) (fun ed hed hb => ?_) (fun a' w' ρ' e' I' => ih _ a' w' ρ' e' I' ?_)
      · have := hi2.2 ed hed
        have hb' : Region.binds .any ed = true := hb
        rw [hb'] at this
        exact getF listed ed.on (by simpa using this)
      · have hli : i < listed.toList.length := by simpa using hil
        have hg : listed.toList[i] = false := by
          have := hfl
          rw [Array.getElem?_eq_getElem hil] at this
          simpa using this
        simp only [Array.toList_setIfInBounds]
        rw [List.count_set hli]
        simp [hg, hf]

end

/-! ### the records pay -/
theorem window_of {M : List Nat} {l s : Nat} : ∀ (L : List Oper) (e0 : Nat), (∀ e oe, L[e]? = some oe → isEff oe = true → (e0 + e < l → bit M l (e0 + e) = true → e0 + e < s) ∧ (l < e0 + e → bit M (e0 + e) l = true → s ≤ e0 + e)) → window M l s L e0 = true
  | [], _, _ => rfl
  | o :: r, e0, h => by
    simp only [window, Bool.and_eq_true]
    refine ⟨?_, window_of r (e0 + 1) fun e oe he hoe => by have := h (e + 1) oe (by simpa using he) hoe; rwa [show e0 + (e + 1) = e0 + 1 + e by omega] at this⟩
    cases ho : isEff o with
    | false => rfl
    | true =>
      obtain ⟨h1, h2⟩ := h 0 o rfl ho
      simp only [Nat.add_zero] at h1 h2
      simp only [Bool.not_true, Bool.false_or, Bool.and_eq_true, Bool.or_eq_true, Bool.not_eq_true']
      constructor
      · by_cases hc : e0 < l ∧ bit M l e0 = true
        · exact .inr (blt_true.2 (h1 hc.1 hc.2))
        · left
          rw [Bool.and_eq_false_iff]
          by_cases hlt : e0 < l
          · right; cases hb : bit M l e0 with
            | false => rfl
            | true => exact absurd ⟨hlt, hb⟩ hc
          · left; cases hb : Nat.blt e0 l with
            | false => rfl
            | true => exact absurd (blt_true.1 hb) hlt
      · by_cases hc : l < e0 ∧ bit M e0 l = true
        · exact .inr (Nat.ble_eq ▸ h2 hc.1 hc.2)
        · left
          rw [Bool.and_eq_false_iff]
          by_cases hlt : l < e0
          · right; cases hb : bit M e0 l with
            | false => rfl
            | true => exact absurd ⟨hlt, hb⟩ hc
          · left; cases hb : Nat.blt l e0 with
            | false => rfl
            | true => exact absurd (blt_true.1 hb) hlt
theorem states_mem : ∀ (L : List Oper) (tr : List Rec) (i0 : Nat) (hl : AHeap), tr.length = L.length → ∀ j o, L[j]? = some o → isEff o = true → (i0 + j + 1, stH tr hl (j + 1)) ∈ states L tr i0 hl
  | [], _, _, _, _, j, o, hj, _ => by simp at hj
  | o :: r, [], _, _, hlen, _, _, _, _ => by simp at hlen
  | o :: r, rec :: tr, i0, hl, hlen, j, oj, hj, he => by
    simp only [states]
    cases j with
    | zero =>
      simp at hj; subst hj
      rw [if_pos he]
      refine List.mem_cons.2 (.inl ?_)
      cases tr with
      | nil => rfl
      | cons rec2 tr => rfl
    | succ j =>
      have ih := states_mem r tr (i0 + 1) hl (by simpa using hlen) j oj (by simpa using hj) he
      have e : (i0 + (j + 1) + 1, stH (rec :: tr) hl (j + 1 + 1)) = (i0 + 1 + j + 1, stH tr hl (j + 1)) := by
        simp only [stH, List.getElem?_cons_succ, Prod.mk.injEq, and_true]
        omega
      rw [e]
      split
      · exact List.mem_cons_of_mem _ ih
      · exact ih
theorem loadsOk_at {P : Program} {ops : Array Oper} {M : List Nat} {sts : List (Nat × AHeap)} : ∀ (L : List Oper) (tr : List Rec) (i0 : Nat), loadsOk P ops M sts L tr i0 = true → tr.length = L.length → ∀ i o rec, L[i]? = some o → tr[i]? = some rec → loadOk P ops M sts (i0 + i) o rec = true
  | [], _, _, _, _, i, o, rec, hi, _ => by simp at hi
  | o :: r, [], _, _, hlen, _, _, _, _, _ => by simp at hlen
  | o :: r, rec :: tr, i0, h, hlen, i, oi, ri, hi, hr => by
    simp only [loadsOk, Bool.and_eq_true] at h
    cases i with
    | zero => simp at hi hr; subst hi; subst hr; exact h.1
    | succ i =>
      have := loadsOk_at r tr (i0 + 1) h.2 (by simpa using hlen) i oi ri (by simpa using hi) (by simpa using hr)
      rwa [show i0 + (i + 1) = i0 + 1 + i by omega]
theorem still_at : ∀ (L : List Oper), still L = true → ∀ (i : Nat) (o : Oper), L[i]? = some o → isEff o = false ∧ isAlloc o = false
  | [], _, i, o, hi => by simp at hi
  | o :: r, h, i, oi, hi => by
    simp only [still, Bool.and_eq_true, Bool.not_eq_true'] at h
    cases i with
    | zero => simp at hi; subst hi; exact h.1
    | succ i => exact still_at r h.2 i oi (by simpa using hi)

/-- **A region that draws its order.** -/
theorem adraw_sound {P : Program} (hP : POk P) {call : CallFn} (hcall : CallOk P call) {ops : Array Oper} {fr fr' : AFrame} {h h' : AHeap} {id : Nat} {Q : Exit → Act → World → Prop} {ρ : Rho} {a : Act} {w : World}
    (ho : adraw P call ops fr h = some (fr', h')) (hf : FrRel ρ fr a) (hs : Sim ρ h w) (hq : ∀ ρ' a' w', FrRel ρ' fr' a' → Step ρ h w ρ' h' w' → Q .normal a' w') : (Code.region id ops true).wp P Q a w := by
  unfold adraw at ho
  split at ho
  · rename_i hd
    split at ho
    · rename_i tr fr2 h2 htr
      split at ho
      · rename_i hld
        cases ho
        obtain ⟨k1, k2, k3, k4⟩ := adops_trace ops.toList fr fr' h h' tr htr
        have hlen : tr.length = ops.size := by simpa using k1
        have ht := TextOk.of hd
        have hat : ∀ (i : Nat) (o : Oper), ops[i]? = some o → LexAt P call ops (stF tr fr') (stH tr h') (stV tr) i o := fun i o hi => k4 i o (by simpa using hi)
        have hlex0 : ∀ (i : Nat) (o : Oper), ops[i]? = some o → ∃ rec, tr[i]? = some rec ∧ stF tr fr' i = rec.fr ∧ stH tr h' i = rec.h ∧ stV tr i = rec.v := fun i o hi => by
          have hlt := (Array.getElem?_eq_some_iff.1 hi).1
          have hr : tr[i]? = some tr[i] := by simp [hlen, hlt]
          exact ⟨_, hr, by simp [stF, hr], by simp [stH, hr], by simp [stV, hr]⟩
        have hl : Lex P call ops (masks ops) (stF tr fr') (stH tr h') (stV tr) := by
          refine ⟨ht, hat, fun l o hol hlo hw s hsx hwin => ?_⟩
          obtain ⟨rec, hrec, e1, e2, e3⟩ := hlex0 l o hol
          rw [Bool.or_eq_true] at hld
          rcases hld with hst | hld
          · have hstill := still_at ops.toList hst
            have hs0 : s = 0 := by
              rcases hsx with h | ⟨e, oe, _, h2, h3⟩
              · exact h
              · have := (hstill e oe (by simpa using h2)).1; rw [h3] at this; cases this
            have hH : ∀ i, i ≤ ops.size → stH tr h' i = stH tr h' 0 := by
              intro i
              induction i with
              | zero => intro _; rfl
              | succ i ih =>
                intro hi
                have hoi := ops_at (ops := ops) (i := i) (by omega)
                have hne := hstill i _ (by rw [Array.getElem?_toList]; exact hoi)
                have hstep := (hat i _ hoi).step
                unfold astep at hstep
                rw [← ih (by omega)]
                split at hstep
                · unfold aop at hstep
                  split at hstep
                  · split at hstep
                    · simp only [Option.some.injEq, Prod.mk.injEq] at hstep; exact hstep.2.symm
                    · cases hstep
                  · split at hstep
                    · simp only [Option.some.injEq, Prod.mk.injEq] at hstep; exact hstep.2.symm
                    · cases hstep
                  · rename_i hk; have := kind_alloc.2 hk; rw [hne.2] at this; cases this
                  · rename_i hk; have := kind_eff.2 hk; rw [hne.1] at this; cases this
                · simp only [Option.some.injEq, Prod.mk.injEq] at hstep; exact hstep.2.symm
                · cases hstep
            have hlt := (Array.getElem?_eq_some_iff.1 hol).1
            have hstep := (hat l o hol).step
            unfold astep at hstep
            rw [hw] at hstep
            simp only at hstep
            unfold aop at hstep
            rw [kind_load.1 hlo] at hstep
            simp only at hstep
            split at hstep
            · rename_i v hv
              simp only [Option.some.injEq, Prod.mk.injEq] at hstep
              rw [hs0, ← hH l (by omega), ← hstep.1]
              exact hv
            · cases hstep
          · have hok := loadsOk_at ops.toList tr 0 hld (by simpa using hlen) l o rec (by simpa using hol) hrec
            simp only [Nat.zero_add] at hok
            unfold loadOk at hok
            rw [if_pos hlo] at hok
            rw [e1] at hw
            rw [hw] at hok
            simp only [List.all_eq_true] at hok
            have hmem : (s, stH tr h' s) ∈ ((0, h) :: states ops.toList tr 0 h') := by
              rcases hsx with h0 | ⟨e, oe, h1, h2, h3⟩
              · subst h0; rw [k3]; exact List.mem_cons_self
              · subst h1
                have := states_mem ops.toList tr 0 h' (by simpa using hlen) e oe (by simpa using h2) h3
                simp only [Nat.zero_add] at this
                exact List.mem_cons_of_mem _ this
            have hok2 := hok _ hmem
            have hwd := window_of (M := masks ops) (l := l) (s := s) ops.toList 0 (fun e oe he hoe => by
              simp only [Nat.zero_add]
              exact hwin e oe (by simpa using he) hoe)
            simp only [hwd, Bool.not_true, Bool.false_or] at hok2
            rw [e1, e2, e3]
            split at hok2
            · rename_i v hv
              rw [hv, avEq_eq _ _ hok2]
            · cases hok2
        have hn : stF tr fr' ops.size = fr' := by unfold stF; rw [List.getElem?_eq_none (by omega)]
        have hhn : stH tr h' ops.size = h' := by unfold stH; rw [List.getElem?_eq_none (by omega)]
        have hs' : Sim ρ h { w with drawn := w.drawn + 1 } := hs.of_heap rfl
        refine wp_region_any hP.mixed (Inv.any (ρ0 := ρ) (w0 := { w with drawn := w.drawn + 1 }) hP hcall hl (fun ρ' a' w' h1 h2 => hq ρ' a' w' (hn ▸ h1) ?_) ops.size (Array.replicate ops.size false) a _ ρ 0 ?_ (by simp))
        · rw [hhn, k3] at h2
          exact (Step.draw hs (w.drawn + 1)).trans h2
        · have hno : ∀ i, ¬ Li (Array.replicate ops.size false) i := fun i hi => by
            unfold Li at hi
            rw [Array.getElem?_replicate] at hi
            split at hi <;> simp at hi
          have hres : res ρ (stH tr h' 0).next = ρ := by rw [k3]; exact hs.res_eq
          refine ⟨by simp, fun i o _ hi => absurd hi (hno i), fun i o _ _ => ⟨fun hi => absurd hi (hno i), fun hi => by omega⟩, .inl rfl, fun i o _ _ hi => by omega, ?_, ?_, fun p hp => absurd hp.2.1 (hno p), fun p q hp => absurd hp.2.1 (hno p), hf.defers, ?_, ?_⟩
          · rw [hres, k3]; exact Step.refl hs'
          · intro b pl hb
            left
            rw [k3]; exact hs.rng b pl hb
          · rw [k2]; exact hf.size
          · intro t
            refine .inr ⟨fun j o hj => absurd hj (hno j), fun v hv => ?_⟩
            rw [hres]
            rw [k2] at hv
            exact hf.val t v hv
      · cases ho
    · cases ho
  · cases ho

end Go.Eng
