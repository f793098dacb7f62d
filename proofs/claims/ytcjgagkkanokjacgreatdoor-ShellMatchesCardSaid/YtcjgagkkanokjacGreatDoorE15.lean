/- The engine, part 15: each operation, whenever it comes up. -/
import Derived.Test.YtcjgagkkanokjacGreatDoorE13
namespace Go.Eng
section
variable {P : Program} {call : CallFn} {ops : Array Oper} {M : List Nat} {F : Nat → AFrame} {H : Nat → AHeap} {V : Nat → AV} {ρ0 : Rho} {w0 : World}

theorem li_set {listed : Array Bool} {i : Nat} (hi : i < listed.size) (j : Nat) : Li (listed.setIfInBounds i true) j ↔ j = i ∨ Li listed j := by
  unfold Li
  by_cases h : i = j
  · subst h; rw [Array.getElem?_setIfInBounds_self_of_lt hi]; simp
  · rw [Array.getElem?_setIfInBounds_ne h]
    constructor
    · exact .inr
    · rintro (h' | h')
      · exact absurd h'.symm h
      · exact h'
theorem closed_set {listed : Array Bool} {i : Nat} (hi : i < listed.size) (hc : Closed ops (Li listed)) {o : Oper} (ho : ops[i]? = some o) (hpre : ∀ ed ∈ o.after, binds ed = true → Li listed ed.on) : Closed ops (Li (listed.setIfInBounds i true)) := by
  intro j oj hoj hj ed he hb
  rw [li_set hi] at hj ⊢
  rcases hj with rfl | hj
  · rw [ho] at hoj; cases hoj; exact .inr (hpre ed he hb)
  · exact .inr (hc j oj hoj hj ed he hb)
theorem put_asz {a : Act} {n : Nat} (h : a.tmps.size = n) (d : Option Tmp) (c : Value) : (a.put d c).tmps.size = n := by
  cases d <;> simp [Act.put, h]
theorem put_defers {a : Act} {ds : List Deferred} (h : a.defers = ds) (d : Option Tmp) (c : Value) : (a.put d c).defers = ds := by
  cases d <;> simp [Act.put, h]

theorem pend_mono {listed : Array Bool} {i : Nat} (hi : i < listed.size) {e p : Nat} (h : Pend ops F listed e p) : Pend ops F (listed.setIfInBounds i true) e p :=
  ⟨h.1, (li_set hi p).2 (.inr h.2.1), h.2.2⟩
theorem pend_back {listed : Array Bool} {i : Nat} (hi : i < listed.size) {e p : Nat} (h : Pend ops F (listed.setIfInBounds i true) e p) : p = i ∨ Pend ops F listed e p := by
  rcases (li_set hi p).1 h.2.1 with h1 | h1
  · exact .inl h1
  · exact .inr ⟨h.1, h1, h.2.2⟩

/-- An operation that leaves the world alone, and no new block. -/
theorem Inv.light {listed : Array Bool} {a : Act} {w : World} {ρ : Rho} {e : Nat} (I : Inv P ops F H V ρ0 w0 listed a w ρ e) (hl : Lex P call ops M F H V) {i : Nat} {o : Oper} (ho : ops[i]? = some o)
    (hpre : ∀ ed ∈ o.after, binds ed = true → Li listed ed.on) (hk : isEff o = false) (hka : isAlloc o = true → awanted ops (F i) o = some false)
    {c : Value} (hc : conc (res ρ (max (H (i + 1)).next (H e).next)) (V i) = some c) :
    Inv P ops F H V ρ0 w0 (listed.setIfInBounds i true) (a.put (ops[i]?.bind (·.dst)) c) w ρ e := by
  have hi := (Array.getElem?_eq_some_iff.1 ho).1
  have hil : i < listed.size := by rw [I.lsz]; exact hi
  have hback : ∀ p, Pend ops F (listed.setIfInBounds i true) e p → Pend ops F listed e p := fun p hp => by
    rcases pend_back hil hp with rfl | h
    · obtain ⟨_, _, o', ho', h1, h2⟩ := hp
      rw [ho] at ho'; cases ho'
      rw [hka h1] at h2; cases h2
    · exact h
  refine ⟨by simp [I.lsz], closed_set hil I.closed ho hpre, ?_, I.fr0, fun j oj hoj ha hje => (li_set hil j).2 (.inr (I.ale j oj hoj ha hje)), I.step, ?_, fun p hp => I.pend p (hback p hp), fun p q hp hq => I.apart p q (hback p hp) (hback q hq),
    put_defers I.defers _ _, put_asz I.asz _ _, slots_put I hl ho (Ext.refl ρ) (Nat.le_refl _) hc⟩
  · intro j oj hoj hj
    rw [li_set hil]
    constructor
    · rintro (rfl | h)
      · rw [ho] at hoj; cases hoj; rw [hk] at hj; cases hj
      · exact (I.front j oj hoj hj).1 h
    · intro h; exact .inr ((I.front j oj hoj hj).2 h)
  · intro b pl hb
    rcases I.dom b pl hb with h | ⟨p, hp, h⟩
    · exact .inl h
    · exact .inr ⟨p, pend_mono hil hp, h⟩

/-- What comes behind an effect that is done is not done ahead of what must come before. -/
theorem Inv.alloc_behind {listed : Array Bool} {a : Act} {w : World} {ρ : Rho} {e : Nat} (I : Inv P ops F H V ρ0 w0 listed a w ρ e) {i : Nat} {o : Oper} (ho : ops[i]? = some o) (hn : ¬ Li listed i) (ha : isAlloc o = true) : e ≤ i := by
  rcases Nat.lt_or_ge i e with h | h
  · exact absurd (I.ale i o ho ha h) hn
  · exact h

/-- A new block. -/
theorem Inv.alloc {listed : Array Bool} {a : Act} {w : World} {ρ : Rho} {e : Nat} (I : Inv P ops F H V ρ0 w0 listed a w ρ e) (hl : Lex P call ops M F H V) {i : Nat} {o : Oper} (ho : ops[i]? = some o) (hn : ¬ Li listed i)
    (hpre : ∀ ed ∈ o.after, binds ed = true → Li listed ed.on) (hw : awanted ops (F i) o = some true) (hka : isAlloc o = true) {ty : TypeId} {cs : List AV} {m : Mk} (hm : palloc P (aeval (F i) (H i).glob) o.op = some (ty, cs, m)) (hv : V i = m.abs (H i).next) (hh : H (i + 1) = (H i).new (.cells ty cs (some 0))) :
    ∃ c w' ρ', (execOp a.eval o).run P w = .ok (.value c) w' ∧ Inv P ops F H V ρ0 w0 (listed.setIfInBounds i true) (a.put (ops[i]?.bind (·.dst)) c) w' ρ' e := by
  have hi := (Array.getElem?_eq_some_iff.1 ho).1
  have hil : i < listed.size := by rw [I.lsz]; exact hi
  have hei := I.alloc_behind ho hn hka
  have hne := hl.nx e i hei (by omega)
  have hev := I.evRel hl ho hn hpre
  rw [Nat.max_eq_left hne] at hev
  have hm' := hm
  rw [palloc_congr (evAt_eq (ops := ops) (fr := F i) (g := (H i).glob) (o := o))] at hm'
  obtain ⟨xs, hx, h1, hmk, hrun⟩ := palloc_sound (P := P) hm' hev
  have hnk : isEff o = false := by cases he : isEff o with | false => rfl | true => rw [kind_alloc] at hka; rw [kind_eff] at he; rw [hka] at he; cases he
  -- ids of new blocks
  have hidlt : ∀ p, Pend ops F listed e p → p < i → (H p).next < (H i).next := fun p hp hpi => by
    obtain ⟨_, _, o', ho', ha', hw'⟩ := hp
    have := hl.nx (p + 1) i (by omega) (by omega)
    have h2 : (H (p + 1)).next = (H p).next + 1 := by
      cases hl.did ho' with
      | skip hw2 _ _ => rw [hw'] at hw2; cases hw2
      | pure _ hk _ _ => rw [kind_alloc] at ha'; rw [ha'] at hk; cases hk
      | load _ hk _ => rw [kind_alloc] at ha'; rw [ha'] at hk; cases hk
      | alloc _ _ ty cs m _ _ hh => rw [hh]; rfl
      | eff _ hk _ => rw [kind_alloc] at ha'; rw [ha'] at hk; cases hk
    omega
  have hidgt : ∀ p, Pend ops F listed e p → i < p → (H i).next < (H p).next := fun p hp hpi => by
    have hps := (Array.getElem?_eq_some_iff.1 hp.2.2.choose_spec.1).1
    have := hl.nx (i + 1) p (by omega) (by omega)
    rw [hh] at this
    simp at this
    omega
  have hfresh : ρ (H i).next = none := by
    cases hr : ρ (H i).next with
    | none => rfl
    | some pl =>
      rcases I.dom _ _ hr with h | ⟨p, hp, h⟩
      · omega
      · have hpi : p ≠ i := fun h => hn (h ▸ hp.2.1)
        rcases Nat.lt_or_ge p i with h' | h'
        · have := hidlt p hp h'; omega
        · have := hidgt p hp (by omega); omega
  have hext : Ext ρ (upd ρ (H i).next ⟨w.heap.size, 0, xs.length, none⟩) := Ext.upd _ hfresh
  have hrese : ∀ N, N ≤ (H i).next → res (upd ρ (H i).next ⟨w.heap.size, 0, xs.length, none⟩) N = res ρ N := fun N hN => by
    funext b
    unfold res
    split
    · rw [upd_other]; omega
    · rfl
  have hinext : (H (i + 1)).next = (H i).next + 1 := by rw [hh]; rfl
  refine ⟨_, _, upd ρ (H i).next ⟨w.heap.size, 0, xs.length, none⟩, hrun w, ?_⟩
  have hown : ∀ p, Pend ops F listed e p → ∃ k l, ρ (H p).next = some ⟨k, 0, l, none⟩ ∧ k < w.heap.size := fun p hp => by
    obtain ⟨k, ty, cs, m, xs, o', _, _, h3, _, _, h6, _⟩ := I.pend p hp
    exact ⟨k, _, h3, (Array.getElem?_eq_some_iff.1 h6).1⟩
  refine ⟨by simp [I.lsz], closed_set hil I.closed ho hpre, ?_, I.fr0, fun j oj hoj ha hje => (li_set hil j).2 (.inr (I.ale j oj hoj ha hje)), ?_, ?_, ?_, ?_,
    put_defers I.defers _ _, put_asz I.asz _ _, slots_put I hl ho hext (Nat.le_refl _) ?_⟩
  · intro j oj hoj hj
    rw [li_set hil]
    constructor
    · rintro (rfl | h)
      · rw [ho] at hoj; cases hoj; rw [hnk] at hj; cases hj
      · exact (I.front j oj hoj hj).1 h
    · intro h; exact .inr ((I.front j oj hoj hj).2 h)
  · rw [hrese _ hne]
    exact I.step.push _
  · intro b pl hb
    by_cases hbi : b = (H i).next
    · exact .inr ⟨i, ⟨hei, (li_set hil i).2 (.inl rfl), o, ho, hka, hw⟩, hbi⟩
    · rw [upd_other _ _ _ hbi] at hb
      rcases I.dom b pl hb with h | ⟨p, hp, h⟩
      · exact .inl h
      · exact .inr ⟨p, pend_mono hil hp, h⟩
  · intro p hp
    by_cases hpi : p = i
    · subst hpi
      refine ⟨w.heap.size, ty, cs, m, xs, o, ho, hm, upd_same _ _ _, ?_, h1, heap_push_new _, ?_, I.step.keep.size⟩
      · rw [hrese _ (Nat.le_refl _)]; exact hx
      · rw [hrese _ hne]
        rintro ⟨b, pl, hlv, hb, hk⟩
        obtain ⟨pl', h1, h2⟩ := I.step.sim.obj b hlv
        rw [hb] at h1; cases h1
        have := h2.lt hlv
        omega
    · have hp' : Pend ops F listed e p := (pend_back hil hp).resolve_left hpi
      obtain ⟨k, ty', cs', m', xs', o', g1, g2, g3, g4, g5, g6, g7, g8⟩ := I.pend p hp'
      refine ⟨k, ty', cs', m', xs', o', g1, g2, hext _ _ g3, concs_mono (res_mono hext _) _ _ g4, g5, ?_, ?_, g8⟩
      · rw [heap_push _ _ (Array.getElem?_eq_some_iff.1 g6).1]; exact g6
      · rw [hrese _ hne]; exact g7
  · intro p q hp hq hpq pl pl' h1 h2
    by_cases hpi : p = i
    · subst hpi
      have hq' : Pend ops F listed e q := (pend_back hil hq).resolve_left (Ne.symm hpq)
      rw [upd_same] at h1; cases h1
      obtain ⟨k, l, h3, h4⟩ := hown q hq'
      rw [hext _ _ h3] at h2; cases h2
      exact Nat.ne_of_gt h4
    · have hp' : Pend ops F listed e p := (pend_back hil hp).resolve_left hpi
      obtain ⟨k, l, h3, h4⟩ := hown p hp'
      rw [hext _ _ h3] at h1; cases h1
      by_cases hqi : q = i
      · subst hqi
        rw [upd_same] at h2; cases h2
        exact Nat.ne_of_lt h4
      · have hq' : Pend ops F listed e q := (pend_back hil hq).resolve_left hqi
        obtain ⟨k', l', h5, h6⟩ := hown q hq'
        rw [hext _ _ h5] at h2; cases h2
        exact I.apart p q hp' hq' hpq _ _ h3 h5
  · rw [hv]
    refine Mk.conc (endc := xs.length) ?_ hmk
    exact res_of (by omega) (upd_same _ _ _)

/-- The blocks that lie ahead of operation i are taken into the heap. -/
theorem Inv.flush {listed : Array Bool} {a : Act} {w : World} {ρ : Rho} {e : Nat} (I : Inv P ops F H V ρ0 w0 listed a w ρ e) (hl : Lex P call ops M F H V) {i : Nat} (hei : e ≤ i) (hin : i ≤ ops.size)
    (hne : ∀ x ox, e ≤ x → x < i → ops[x]? = some ox → isEff ox = false) (hal : ∀ x ox, x < i → ops[x]? = some ox → isAlloc ox = true → Li listed x) :
    Step ρ0 (H 0) w0 (res ρ (H i).next) (H i) w ∧ ∀ p, i ≤ p → Pend ops F listed e p → ∀ pl, ρ (H p).next = some pl → ¬ Use (res ρ (H i).next) (H i) pl.blk := by
  have key : ∀ d, e + d ≤ i → Step ρ0 (H 0) w0 (res ρ (H (e + d)).next) (H (e + d)) w ∧ ∀ p, e + d ≤ p → Pend ops F listed e p → ∀ pl, ρ (H p).next = some pl → ¬ Use (res ρ (H (e + d)).next) (H (e + d)) pl.blk := by
    intro d
    induction d with
    | zero =>
      intro _
      refine ⟨I.step, fun p _ hp pl hpl => ?_⟩
      obtain ⟨k, ty', cs', m', xs', o', g1, g2, g3, g4, g5, g6, g7, g8⟩ := I.pend p hp
      rw [g3] at hpl; cases hpl
      exact g7
    | succ d ih =>
      intro hd
      obtain ⟨hst, hus⟩ := ih (by omega)
      have hx : e + d < ops.size := by omega
      have ho := ops_at hx
      have hnx := hne (e + d) _ (by omega) (by omega) ho
      have same : H (e + d + 1) = H (e + d) → _ := fun hh => (show Step ρ0 (H 0) w0 (res ρ (H (e + (d + 1))).next) (H (e + (d + 1))) w ∧ ∀ p, e + (d + 1) ≤ p → Pend ops F listed e p → ∀ pl, ρ (H p).next = some pl → ¬ Use (res ρ (H (e + (d + 1))).next) (H (e + (d + 1))) pl.blk by
        rw [show e + (d + 1) = e + d + 1 by omega, hh]
        exact ⟨hst, fun p hp hpp pl hpl => hus p (by omega) hpp pl hpl⟩)
      cases hl.did ho with
      | skip _ _ hh => exact same hh
      | pure _ _ _ hh => exact same hh
      | load _ _ hh => exact same hh
      | eff _ hk _ => rw [← kind_eff] at hk; rw [hnx] at hk; cases hk
      | alloc hw hk ty cs m hm hv hh =>
        have hka := kind_alloc.2 hk
        have hp : Pend ops F listed e (e + d) := ⟨by omega, hal (e + d) _ (by omega) ho hka, _, ho, hka, hw⟩
        obtain ⟨k, ty', cs', m', xs', o', g1, g2, g3, g4, g5, g6, g7, g8⟩ := I.pend _ hp
        rw [ho] at g1; cases g1
        rw [hm] at g2; cases g2
        have hfree := hus (e + d) (Nat.le_refl _) hp _ g3
        have hupd : upd (res ρ (H (e + d)).next) (H (e + d)).next ⟨k, 0, xs'.length, none⟩ = res ρ (H (e + (d + 1))).next := by
          funext b
          rw [show e + (d + 1) = e + d + 1 by omega, show (H (e + d + 1)).next = (H (e + d)).next + 1 by rw [hh]; rfl]
          unfold upd res
          by_cases hb : b = (H (e + d)).next
          · rw [if_pos hb, if_pos (by omega), hb, g3]
          · rw [if_neg hb]
            by_cases hb2 : b < (H (e + d)).next
            · rw [if_pos hb2, if_pos (by omega)]
            · rw [if_neg hb2, if_neg (by omega)]
        have hxl := concs_length _ _ g4
        have hsim := hst.sim.add (.cells ty cs (some 0)) ⟨k, 0, xs'.length, none⟩ ⟨xs'.toArray, (0, 0), xs', g6, by simp, by simp; omega, g5, concs_mono (Ext.upd _ hst.sim.fresh) _ _ g4, fun j x hj => by simpa using hj, fun f hf => ⟨by simp, fun _ => rfl⟩⟩ hfree
        rw [hupd, ← hh] at hsim
        have hextd : Ext (res ρ (H (e + d)).next) (res ρ (H (e + (d + 1))).next) := by rw [← hupd]; exact Ext.upd _ hst.sim.fresh
        have hblk : ∀ (Q : AObj → Bool), (∀ b pl, Q ((H (e + d + 1)).get b) = true → res ρ (H (e + (d + 1))).next b = some pl → pl.blk = k ∨ (Q ((H (e + d)).get b) = true ∧ res ρ (H (e + d)).next b = some pl)) := by
          intro Q b pl hQ hb
          rw [← hupd] at hb
          by_cases hbn : b = (H (e + d)).next
          · subst hbn
            rw [upd_same] at hb; cases hb
            exact .inl rfl
          · rw [upd_other _ _ _ hbn] at hb
            rw [hh, AHeap.get_new, if_neg (Ne.symm hbn)] at hQ
            exact .inr ⟨hQ, hb⟩
        refine ⟨⟨hst.ext.trans hextd, hsim, ⟨hst.keep.size, hst.keep.os, hst.keep.tape, hst.keep.output, fun k' hk' hno => ⟨(hst.keep.old k' hk' hno).1, ?_⟩, fun k' hk' hno => ?_⟩, ?_, ?_⟩, fun q hq hqp pl hpl => ?_⟩
        · rintro ⟨b, pl, hQ, hb, hbk⟩
          rcases hblk AObj.writes b pl hQ hb with h | ⟨h1, h2⟩
          · omega
          · exact (hst.keep.old k' hk' hno).2 ⟨b, pl, h1, h2, hbk⟩
        · rintro ⟨b, pl, hQ, hb, hbk⟩
          rcases hblk AObj.live b pl hQ hb with h | ⟨h1, h2⟩
          · omega
          · exact hst.keep.use k' hk' hno ⟨b, pl, h1, h2, hbk⟩
        · exact Nat.le_trans hst.nx (hl.nx _ _ (by omega) (by omega))
        · rw [hl.gb _ (by omega)]
        · rintro ⟨b, pl', hQ, hb, hbk⟩
          rcases hblk AObj.live b pl' hQ hb with h | ⟨h1, h2⟩
          · have := I.apart q (e + d) hqp hp (by omega) _ _ hpl g3
            simp only at this
            omega
          · exact hus q (by omega) hqp pl hpl ⟨b, pl', h1, h2, hbk⟩
  have := key (i - e) (by omega)
  rw [show e + (i - e) = i by omega] at this
  exact this

/-- An effect: what is known behind it. -/
theorem Inv.eff {listed : Array Bool} {a : Act} {w w' : World} {ρ ρ1 : Rho} {e : Nat} (I : Inv P ops F H V ρ0 w0 listed a w ρ e) (hl : Lex P call ops M F H V) {i : Nat} {o : Oper} (ho : ops[i]? = some o) (hn : ¬ Li listed i)
    (hpre : ∀ ed ∈ o.after, binds ed = true → Li listed ed.on) (hk : isEff o = true) (hei : e ≤ i) (hfl : Step ρ0 (H 0) w0 (res ρ (H i).next) (H i) w)
    (hfree : ∀ p, i ≤ p → Pend ops F listed e p → ∀ pl, ρ (H p).next = some pl → ¬ Use (res ρ (H i).next) (H i) pl.blk) {c : Value} (hc : conc ρ1 (V i) = some c) (hst : Step (res ρ (H i).next) (H i) w ρ1 (H (i + 1)) w')
    (hall : ∀ x ox, x < i → ops[x]? = some ox → isAlloc ox = true ∨ isEff ox = true → Li listed x) :
    Inv P ops F H V ρ0 w0 (listed.setIfInBounds i true) (a.put (ops[i]?.bind (·.dst)) c) w' (fun b => if b < (H (i + 1)).next then ρ1 b else ρ b) (i + 1) := by
  have hi := (Array.getElem?_eq_some_iff.1 ho).1
  have hil : i < listed.size := by rw [I.lsz]; exact hi
  have hnx := (hl.at_ i o ho).nx
  obtain ⟨ρ', hρ'⟩ : ∃ ρ' : Rho, ρ' = fun b => if b < (H (i + 1)).next then ρ1 b else ρ b := ⟨_, rfl⟩
  rw [← hρ']
  have hnal : isAlloc o = false := by cases he : isAlloc o with | false => rfl | true => rw [kind_alloc] at he; rw [kind_eff] at hk; rw [he] at hk; cases hk
  have hres : res ρ' (H (i + 1)).next = ρ1 := by
    funext b
    unfold res
    split
    · rename_i hb; rw [hρ']; simp only; rw [if_pos hb]
    · rename_i hb
      cases hr : ρ1 b with
      | none => rfl
      | some pl => exact absurd (hst.sim.rng b pl hr) hb
  have hidgt : ∀ p, Pend ops F listed e p → i < p → (H (i + 1)).next ≤ (H p).next := fun p hp hpi => by
    have hps := (Array.getElem?_eq_some_iff.1 hp.2.2.choose_spec.1).1
    exact hl.nx (i + 1) p (by omega) (by omega)
  have hidlt : ∀ p, Pend ops F listed e p → p < i → (H p).next < (H i).next := fun p hp hpi => by
    obtain ⟨_, _, o', ho', ha', hw'⟩ := hp
    have := hl.nx (p + 1) i (by omega) (by omega)
    have h2 : (H (p + 1)).next = (H p).next + 1 := by
      cases hl.did ho' with
      | skip hw2 _ _ => rw [hw'] at hw2; cases hw2
      | pure _ hk _ _ => rw [kind_alloc] at ha'; rw [ha'] at hk; cases hk
      | load _ hk _ => rw [kind_alloc] at ha'; rw [ha'] at hk; cases hk
      | alloc _ _ ty cs m _ _ hh => rw [hh]; rfl
      | eff _ hk _ => rw [kind_alloc] at ha'; rw [ha'] at hk; cases hk
    omega
  have hpi : ∀ p, Pend ops F listed e p → p ≠ i := fun p hp h => hn (h ▸ hp.2.1)
  have hext : Ext ρ ρ' := fun b pl hb => by
    rw [hρ']
    simp only
    rcases I.dom b pl hb with h | ⟨p, hp, h⟩
    · have := hl.nx e i hei (by omega)
      rw [if_pos (by omega)]
      exact hst.ext b pl (res_of (by omega) hb)
    · rcases Nat.lt_or_ge p i with h' | h'
      · have := hidlt p hp h'
        rw [if_pos (by omega)]
        exact hst.ext b pl (res_of (by omega) hb)
      · have := hidgt p hp (by have := hpi p hp; omega)
        rw [if_neg (by omega)]
        exact hb
  have hback : ∀ p, Pend ops F (listed.setIfInBounds i true) (i + 1) p → Pend ops F listed e p ∧ i < p := fun p hp => by
    have hge := hp.1
    rcases (li_set hil p).1 hp.2.1 with h | h
    · omega
    · exact ⟨⟨by omega, h, hp.2.2⟩, by omega⟩
  refine ⟨by simp [I.lsz], closed_set hil I.closed ho hpre, ?_, .inr ⟨i, o, rfl, ho, hk⟩, ?_, ?_, ?_, ?_, ?_, put_defers I.defers _ _, put_asz I.asz _ _, slots_put I hl ho hext (hl.nx e (i + 1) (by omega) (by omega)) ?_⟩
  · intro j oj hoj hj
    rw [li_set hil]
    constructor
    · rintro (rfl | h)
      · omega
      · have := (I.front j oj hoj hj).1 h; omega
    · intro h
      by_cases hji : j = i
      · exact .inl hji
      · exact .inr (hall j oj (by omega) hoj (.inr hj))
  · intro j oj hoj ha hj
    refine (li_set hil j).2 ?_
    by_cases hji : j = i
    · exact .inl hji
    · exact .inr (hall j oj (by omega) hoj (.inl ha))
  · rw [hres]
    exact hfl.trans hst
  · intro b pl hb
    rw [hρ'] at hb
    simp only at hb
    split at hb
    · rename_i h; exact .inl h
    · rename_i hnb
      rcases I.dom b pl hb with h | ⟨p, hp, h⟩
      · have := hl.nx e (i + 1) (by omega) (by omega); omega
      · rcases Nat.lt_or_ge p i with h' | h'
        · have := hidlt p hp h'; omega
        · have hlt : i < p := by have := hpi p hp; omega
          exact .inr ⟨p, ⟨by omega, (li_set hil p).2 (.inr hp.2.1), hp.2.2⟩, h⟩
  · intro p hp
    obtain ⟨hp', hlt⟩ := hback p hp
    obtain ⟨k, ty', cs', m', xs', o', g1, g2, g3, g4, g5, g6, g7, g8⟩ := I.pend p hp'
    have hus := hfree p (by omega) hp' _ g3
    have hklt := (Array.getElem?_eq_some_iff.1 g6).1
    refine ⟨k, ty', cs', m', xs', o', g1, g2, hext _ _ g3, concs_mono (res_mono hext _) _ _ g4, g5, ?_, ?_, g8⟩
    · rw [(hst.keep.old k hklt (fun h => hus h.use)).1]; exact g6
    · rw [hres]; exact hst.keep.use k hklt hus
  · intro p q hp hq hpq pl pl' h1 h2
    obtain ⟨hp', _⟩ := hback p hp
    obtain ⟨hq', _⟩ := hback q hq
    obtain ⟨k, _, _, _, xs1, _, _, _, g3, _⟩ := I.pend p hp'
    obtain ⟨k', _, _, _, xs2, _, _, _, g3', _⟩ := I.pend q hq'
    rw [hext _ _ g3] at h1; cases h1
    rw [hext _ _ g3'] at h2; cases h2
    exact I.apart p q hp' hq' hpq _ _ g3 g3'
  · rw [Nat.max_self, hres]; exact hc

/-- All is done. -/
theorem Inv.done {listed : Array Bool} {a : Act} {w : World} {ρ : Rho} {e : Nat} (I : Inv P ops F H V ρ0 w0 listed a w ρ e) (hl : Lex P call ops M F H V) (hall : ∀ i, i < ops.size → Li listed i) :
    ∃ ρ', FrRel ρ' (F ops.size) a ∧ Step ρ0 (H 0) w0 ρ' (H ops.size) w := by
  have hle := I.ele
  obtain ⟨hst, _⟩ := I.flush hl hle (Nat.le_refl _) (fun x ox hx hxn hox => by
      cases he : isEff ox with
      | false => rfl
      | true => have := (I.front x ox hox he).1 (hall x hxn); omega) (fun x ox hx hox _ => hall x hx)
  refine ⟨_, ⟨I.defers.trans (hl.fd _ (Nat.le_refl _)).symm, by rw [I.asz, hl.fn _ (Nat.le_refl _)], fun t v hv => ?_⟩, hst⟩
  rcases hl.fget ops.size (Nat.le_refl _) t with ⟨j, oj, hj, hoj, hd, hg⟩ | ⟨hnone, hg⟩
  · rw [hg] at hv
    simp only [Option.some.injEq] at hv
    subst hv
    rcases I.slot t with ⟨j', o', c, h1, h2, h3, h4, h5⟩ | ⟨h1, _⟩
    · have hjj : j' = j := by
        rcases Nat.lt_trichotomy j' j with h | h | h
        · exact ((meets (ht := hl.text) hoj h2 h).1 t h3 hd).elim
        · exact h
        · exact ((meets (ht := hl.text) h2 hoj h).1 t hd h3).elim
      subst hjj
      refine ⟨c, h4, conc_mono (res_ext ?_) _ _ h5⟩
      have h6 := hl.nx (j' + 1) ops.size (by omega) (Nat.le_refl _)
      have h7 := hl.nx e ops.size hle (Nat.le_refl _)
      omega
    · exact absurd hd (h1 j oj (hall j hj) hoj)
  · rw [hg] at hv
    rcases I.slot t with ⟨j', o', c, h1, h2, h3, h4, h5⟩ | ⟨_, h2⟩
    · exact absurd h3 (hnone j' o' (I.lt h1) h2)
    · obtain ⟨c, h3, h4⟩ := h2 v hv
      exact ⟨c, h3, conc_mono (res_ext (hl.nx e ops.size hle (Nat.le_refl _))) _ _ h4⟩

/-- One operation that comes up. -/
theorem Inv.one (hP : POk P) (hcall : CallOk P call) (hl : Lex P call ops M F H V) {Q : Exit → Act → World → Prop} {listed : Array Bool} {a : Act} {w : World} {ρ : Rho} {e : Nat} (I : Inv P ops F H V ρ0 w0 listed a w ρ e) {i : Nat} {o : Oper} (ho : ops[i]? = some o) (hn : ¬ Li listed i)
    (hpre : ∀ ed ∈ o.after, binds ed = true → Li listed ed.on) {K : Act → World → Prop} (hK : ∀ a' w' ρ' e', Inv P ops F H V ρ0 w0 (listed.setIfInBounds i true) a' w' ρ' e' → K a' w') : wpOp P ops Q i K a w := by
  have hi := (Array.getElem?_eq_some_iff.1 ho).1
  have hbits := Closed.bits hl.text I.closed (fun _ h => I.lt h) i o ho hpre
  have hev := I.evRel hl ho hn hpre
  have hbd : ops[i]?.bind (·.dst) = o.dst := by rw [ho]; rfl
  unfold wpOp
  simp only [ho]
  -- an effect's side
  have effs : isEff o = true → e ≤ i ∧ (∀ x ox, x < i → ops[x]? = some ox → isAlloc ox = true ∨ isEff ox = true → Li listed x) ∧
      (Step ρ0 (H 0) w0 (res ρ (H i).next) (H i) w ∧ ∀ p, i ≤ p → Pend ops F listed e p → ∀ pl, ρ (H p).next = some pl → ¬ Use (res ρ (H i).next) (H i) pl.blk) := by
    intro hk
    have hei : e ≤ i := by
      rcases Nat.lt_or_ge i e with h | h
      · exact absurd ((I.front i o ho hk).2 h) hn
      · exact h
    have hall : ∀ x ox, x < i → ops[x]? = some ox → isAlloc ox = true ∨ isEff ox = true → Li listed x := fun x ox hx hox h => by
      have hm := (meets (ht := hl.text) ho hox hx).2.2.2
      rcases h with h | h
      · exact hbits x hx (hm.2 hk h)
      · exact hbits x hx (hm.1 hk h)
    refine ⟨hei, hall, I.flush hl hei (by omega) (fun x ox hx hxi hox => ?_) (fun x ox hx hox ha => hall x ox hx hox (.inl ha))⟩
    cases he : isEff ox with
    | false => rfl
    | true => have := (I.front x ox hox he).1 (hall x ox hxi hox (.inr he)); omega
  cases hl.did ho with
  | skip hw hv hh =>
    rw [I.wanted hl ho hn hpre hw, if_neg (by simp)]
    rw [← hbd]
    cases hk : isEff o with
    | false =>
      exact hK _ _ _ _ (I.light hl ho hpre hk (fun _ => hw) (c := undef) (by rw [hv]; simp [conc, concs, undef]))
    | true =>
      obtain ⟨hei, hall, hfl, hfree⟩ := effs hk
      exact hK _ _ _ _ (I.eff hl ho hn hpre hk hei hfl hfree (c := undef) (ρ1 := res ρ (H i).next) (by rw [hv]; simp [conc, concs, undef]) (by rw [hh]; exact Step.refl hfl.sim) hall)
  | pure hw hk hv hh =>
    rw [I.wanted hl ho hn hpre hw, if_pos rfl]
    rw [ppure_congr (evAt_eq (ops := ops) (fr := F i) (g := (H i).glob) (o := o))] at hv
    obtain ⟨c, h1, h2⟩ := ppure_sound hv hev
    refine .inl ?_
    unfold Oper.wp
    rw [h2 w]
    simp only [Oper.upon]
    rw [← hbd]
    refine hK _ _ _ _ (I.light hl ho hpre (by unfold isEff; rw [hk]) (fun h => by rw [kind_alloc, hk] at h; cases h) ?_)
    rw [hh]; exact h1
  | load hw hk hh =>
    rw [I.wanted hl ho hn hpre hw, if_pos rfl]
    have hld := hl.load i o ho (kind_load.2 hk) hw e (I.fr0.imp id fun ⟨x, ox, h1, h2, h3⟩ => ⟨x, ox, h1, h2, h3⟩) (fun x ox hox hx => ⟨fun hxi hb => ?_, fun hxi hb => ?_⟩)
    · rw [pload_congr (evAt_eq (ops := ops) (fr := F i) (g := (H i).glob) (o := o))] at hld
      obtain ⟨c, h1, h2⟩ := pload_sound2 (ρ := res ρ (H e).next) (w := w) hld hev I.step.sim (fun b pl pl' ha hb => by
        have := (res_some ha).2
        have h3 := (res_some hb).2
        rw [this] at h3; cases h3; rfl)
      refine .inl ?_
      unfold Oper.wp
      rw [h2]
      simp only [Oper.upon]
      rw [← hbd]
      refine hK _ _ _ _ (I.light hl ho hpre (by unfold isEff; rw [hk]) (fun h => by rw [kind_alloc, hk] at h; cases h) ?_)
      exact conc_mono (res_ext (by omega)) _ _ h1
    · exact (I.front x ox hox hx).1 (hbits x hxi hb)
    · rcases Nat.lt_or_ge x e with h | h
      · exfalso
        have hxl := (I.front x ox hox hx).2 h
        exact hn (Closed.bits hl.text I.closed (fun _ h => I.lt h) x ox hox (fun ed he hbe => I.closed x ox hox hxl ed he hbe) i hxi hb)
      · exact h
  | alloc hw hk ty cs m hm hv hh =>
    rw [I.wanted hl ho hn hpre hw, if_pos rfl]
    obtain ⟨c, w', ρ', h1, h2⟩ := I.alloc hl ho hn hpre hw (kind_alloc.2 hk) hm hv hh
    refine .inl ?_
    unfold Oper.wp
    rw [h1]
    simp only [Oper.upon]
    rw [← hbd]
    exact hK _ _ _ _ h2
  | eff hw hk hv =>
    rw [I.wanted hl ho hn hpre hw, if_pos rfl]
    have hke := kind_eff.2 hk
    obtain ⟨hei, hall, hfl, hfree⟩ := effs hke
    rw [Nat.max_eq_left (hl.nx e i hei (by omega))] at hev
    rw [aop_congr (evAt_eq (ops := ops) (fr := F i) (g := (H i).glob) (o := o))] at hv
    refine .inl (aop_sound hP hcall hv hev hfl.sim fun c w' ρ1 hc hst => ?_)
    rw [← hbd]
    exact hK _ _ _ _ (I.eff hl ho hn hpre hke hei hfl hfree hc hst hall)

/-- Whatever order comes. -/
theorem Inv.any (hP : POk P) (hcall : CallOk P call) (hl : Lex P call ops M F H V) {Q : Exit → Act → World → Prop} (hq : ∀ ρ' a' w', FrRel ρ' (F ops.size) a' → Step ρ0 (H 0) w0 ρ' (H ops.size) w' → Q .normal a' w') :
    ∀ (fuel : Nat) (listed : Array Bool) (a : Act) (w : World) (ρ : Rho) (e : Nat), Inv P ops F H V ρ0 w0 listed a w ρ e → listed.toList.count false = fuel → wpAny P .any ops Q fuel listed a w := by
  have getF : ∀ (listed : Array Bool) (j : Nat), listed.getD j false = true → Li listed j := fun listed j h => by
    unfold Li
    rcases Nat.lt_or_ge j listed.size with h' | h'
    · simp [h'] at h ⊢; exact h
    · simp [Array.getElem?_eq_none h'] at h
  have ready : ∀ (listed : Array Bool), listed.size = ops.size → Region.ready .any ops listed = [] → ∀ i, i < ops.size → Li listed i := by
    intro listed hsz hr i
    induction i using Nat.strongRecOn with
    | _ i ih =>
      intro hi
      have ho := ops_at hi
      by_cases hL : Li listed i
      · exact hL
      · exfalso
        have : i ∈ Region.ready .any ops listed := by
          unfold Region.ready
          refine List.mem_filter.2 ⟨by simp [hi], ?_⟩
          have hf : listed.getD i true = false := by
            have h' : i < listed.size := by omega
            simp only [Array.getD_eq_getD_getElem?]
            unfold Li at hL
            rw [Array.getElem?_eq_getElem h'] at hL ⊢
            cases hb : listed[i] with
            | false => rfl
            | true => rw [hb] at hL; exact absurd rfl hL
          simp only [hf, Bool.not_false, Bool.true_and, ho, Option.map_some, Option.getD_some, Array.all_eq_true_iff_forall_mem]
          intro ed hed
          cases hb : Region.binds .any ed with
          | false => rfl
          | true =>
            have hlt := hl.text.lex i _ ho ed hed hb
            have := ih ed.on hlt (by omega)
            unfold Li at this
            simp [this]
        rw [hr] at this
        cases this
  intro fuel
  induction fuel with
  | zero =>
    intro listed a w ρ e I hf
    have hall : ∀ i, i < ops.size → Li listed i := fun i hi => by
      unfold Li
      have h' : i < listed.size := by rw [I.lsz]; exact hi
      rw [Array.getElem?_eq_getElem h']
      have hm : listed[i] ∈ listed.toList := by simp
      have := List.count_eq_zero.1 hf
      cases hb : listed[i] with
      | true => rfl
      | false => rw [hb] at hm; exact absurd hm this
    refine ⟨?_, ?_⟩
    · unfold Region.ready
      rw [List.filter_eq_nil_iff]
      intro i hi
      have := hall i (by simpa using hi)
      unfold Li at this
      simp [this]
    · obtain ⟨ρ', h1, h2⟩ := I.done hl hall
      exact hq ρ' a w h1 h2
  | succ fuel ih =>
    intro listed a w ρ e I hf
    refine ⟨fun hr => ?_, fun i hi => ?_⟩
    · have hall := ready listed I.lsz hr
      obtain ⟨ρ', h1, h2⟩ := I.done hl hall
      exact hq ρ' a w h1 h2
    · unfold Region.ready at hi
      obtain ⟨hr, hi2⟩ := List.mem_filter.1 hi
      have hin : i < ops.size := by simpa using hr
      have ho := ops_at hin
      have hil : i < listed.size := by rw [I.lsz]; exact hin
      simp only [ho, Option.map_some, Option.getD_some, Bool.and_eq_true, Array.all_eq_true_iff_forall_mem] at hi2
      have hfl : listed[i]? = some false := by
        have h1 := hi2.1
        rw [Array.getElem?_eq_getElem hil]
        cases hb : listed[i] with
        | false => rfl
        | true => simp [hb, hil] at h1
      refine I.one hP hcall hl ho (fun hL => by unfold Li at hL; rw [hfl] at hL; cases hL) (fun ed hed hb => ?_) (fun a' w' ρ' e' I' => ih _ a' w' ρ' e' I' ?_)
      · have := hi2.2 ed hed
        have hb' : Region.binds .any ed = true := hb
        rw [hb'] at this
        exact getF listed ed.on (by simpa using this)
      · have hli : i < listed.toList.length := by simpa using hil
        have hg : listed.toList[i] = false := by
          have := hfl
          rw [Array.getElem?_eq_getElem hil] at this
          simpa using this
        simp only [Array.toList_setIfInBounds]
        rw [List.count_set hli]
        simp [hg, hf]

end

/-! ### the records pay -/
theorem window_of {M : List Nat} {l s : Nat} : ∀ (L : List Oper) (e0 : Nat), (∀ e oe, L[e]? = some oe → isEff oe = true → (e0 + e < l → bit M l (e0 + e) = true → e0 + e < s) ∧ (l < e0 + e → bit M (e0 + e) l = true → s ≤ e0 + e)) → window M l s L e0 = true
  | [], _, _ => rfl
  | o :: r, e0, h => by
    simp only [window, Bool.and_eq_true]
    refine ⟨?_, window_of r (e0 + 1) fun e oe he hoe => by have := h (e + 1) oe (by simpa using he) hoe; rwa [show e0 + (e + 1) = e0 + 1 + e by omega] at this⟩
    cases ho : isEff o with
    | false => rfl
    | true =>
      obtain ⟨h1, h2⟩ := h 0 o rfl ho
      simp only [Nat.add_zero] at h1 h2
      simp only [Bool.not_true, Bool.false_or, Bool.and_eq_true, Bool.or_eq_true, Bool.not_eq_true']
      constructor
      · by_cases hc : e0 < l ∧ bit M l e0 = true
        · exact .inr (blt_true.2 (h1 hc.1 hc.2))
        · left
          rw [Bool.and_eq_false_iff]
          by_cases hlt : e0 < l
          · right; cases hb : bit M l e0 with
            | false => rfl
            | true => exact absurd ⟨hlt, hb⟩ hc
          · left; cases hb : Nat.blt e0 l with
            | false => rfl
            | true => exact absurd (blt_true.1 hb) hlt
      · by_cases hc : l < e0 ∧ bit M e0 l = true
        · exact .inr (Nat.ble_eq ▸ h2 hc.1 hc.2)
        · left
          rw [Bool.and_eq_false_iff]
          by_cases hlt : l < e0
          · right; cases hb : bit M e0 l with
            | false => rfl
            | true => exact absurd ⟨hlt, hb⟩ hc
          · left; cases hb : Nat.blt l e0 with
            | false => rfl
            | true => exact absurd (blt_true.1 hb) hlt
theorem states_mem : ∀ (L : List Oper) (tr : List Rec) (i0 : Nat) (hl : AHeap), tr.length = L.length → ∀ j o, L[j]? = some o → isEff o = true → (i0 + j + 1, stH tr hl (j + 1)) ∈ states L tr i0 hl
  | [], _, _, _, _, j, o, hj, _ => by simp at hj
  | o :: r, [], _, _, hlen, _, _, _, _ => by simp at hlen
  | o :: r, rec :: tr, i0, hl, hlen, j, oj, hj, he => by
    simp only [states]
    cases j with
    | zero =>
      simp at hj; subst hj
      rw [if_pos he]
      refine List.mem_cons.2 (.inl ?_)
      cases tr with
      | nil => rfl
      | cons rec2 tr => rfl
    | succ j =>
      have ih := states_mem r tr (i0 + 1) hl (by simpa using hlen) j oj (by simpa using hj) he
      have e : (i0 + (j + 1) + 1, stH (rec :: tr) hl (j + 1 + 1)) = (i0 + 1 + j + 1, stH tr hl (j + 1)) := by
        simp only [stH, List.getElem?_cons_succ, Prod.mk.injEq, and_true]
        omega
      rw [e]
      split
      · exact List.mem_cons_of_mem _ ih
      · exact ih
theorem loadsOk_at {P : Program} {ops : Array Oper} {M : List Nat} {sts : List (Nat × AHeap)} : ∀ (L : List Oper) (tr : List Rec) (i0 : Nat), loadsOk P ops M sts L tr i0 = true → tr.length = L.length → ∀ i o rec, L[i]? = some o → tr[i]? = some rec → loadOk P ops M sts (i0 + i) o rec = true
  | [], _, _, _, _, i, o, rec, hi, _ => by simp at hi
  | o :: r, [], _, _, hlen, _, _, _, _, _ => by simp at hlen
  | o :: r, rec :: tr, i0, h, hlen, i, oi, ri, hi, hr => by
    simp only [loadsOk, Bool.and_eq_true] at h
    cases i with
    | zero => simp at hi hr; subst hi; subst hr; exact h.1
    | succ i =>
      have := loadsOk_at r tr (i0 + 1) h.2 (by simpa using hlen) i oi ri (by simpa using hi) (by simpa using hr)
      rwa [show i0 + (i + 1) = i0 + 1 + i by omega]
theorem still_at : ∀ (L : List Oper), still L = true → ∀ (i : Nat) (o : Oper), L[i]? = some o → isEff o = false ∧ isAlloc o = false
  | [], _, i, o, hi => by simp at hi
  | o :: r, h, i, oi, hi => by
    simp only [still, Bool.and_eq_true, Bool.not_eq_true'] at h
    cases i with
    | zero => simp at hi; subst hi; exact h.1
    | succ i => exact still_at r h.2 i oi (by simpa using hi)

/-- **A region that draws its order.** -/
theorem adrawE_sound {P : Program} (hP : POk P) {call : CallFn} (hcall : CallOk P call) {ops : Array Oper} {fr fr' : AFrame} {h h' : AHeap} {Q : Exit → Act → World → Prop} {ρ : Rho} {a : Act} {w : World}
    (ho : adrawE P call ops fr h = some (fr', h')) (hf : FrRel ρ fr a) (hs : Sim ρ h w) (hq : ∀ ρ' a' w', FrRel ρ' fr' a' → Step ρ h w ρ' h' w' → Q .normal a' w') : wpAny P .any ops Q ops.size (Array.replicate ops.size false) a { w with drawn := w.drawn + 1 } := by
  unfold adrawE at ho
  split at ho
  · rename_i hd
    split at ho
    · rename_i tr fr2 h2 htr
      split at ho
      · rename_i hld
        cases ho
        obtain ⟨k1, k2, k3, k4⟩ := adops_trace ops.toList fr fr' h h' tr htr
        have hlen : tr.length = ops.size := by simpa using k1
        have ht := TextOk.of hd
        have hat : ∀ (i : Nat) (o : Oper), ops[i]? = some o → LexAt P call ops (stF tr fr') (stH tr h') (stV tr) i o := fun i o hi => k4 i o (by simpa using hi)
        have hlex0 : ∀ (i : Nat) (o : Oper), ops[i]? = some o → ∃ rec, tr[i]? = some rec ∧ stF tr fr' i = rec.fr ∧ stH tr h' i = rec.h ∧ stV tr i = rec.v := fun i o hi => by
          have hlt := (Array.getElem?_eq_some_iff.1 hi).1
          have hr : tr[i]? = some tr[i] := by simp [hlen, hlt]
          exact ⟨_, hr, by simp [stF, hr], by simp [stH, hr], by simp [stV, hr]⟩
        have hl : Lex P call ops (masks ops) (stF tr fr') (stH tr h') (stV tr) := by
          refine ⟨ht, hat, fun l o hol hlo hw s hsx hwin => ?_⟩
          obtain ⟨rec, hrec, e1, e2, e3⟩ := hlex0 l o hol
          rw [Bool.or_eq_true] at hld
          rcases hld with hst | hld
          · have hstill := still_at ops.toList hst
            have hs0 : s = 0 := by
              rcases hsx with h | ⟨e, oe, _, h2, h3⟩
              · exact h
              · have := (hstill e oe (by simpa using h2)).1; rw [h3] at this; cases this
            have hH : ∀ i, i ≤ ops.size → stH tr h' i = stH tr h' 0 := by
              intro i
              induction i with
              | zero => intro _; rfl
              | succ i ih =>
                intro hi
                have hoi := ops_at (ops := ops) (i := i) (by omega)
                have hne := hstill i _ (by rw [Array.getElem?_toList]; exact hoi)
                have hstep := (hat i _ hoi).step
                unfold astep at hstep
                rw [← ih (by omega)]
                split at hstep
                · unfold aop at hstep
                  split at hstep
                  · split at hstep
                    · simp only [Option.some.injEq, Prod.mk.injEq] at hstep; exact hstep.2.symm
                    · cases hstep
                  · split at hstep
                    · simp only [Option.some.injEq, Prod.mk.injEq] at hstep; exact hstep.2.symm
                    · cases hstep
                  · rename_i hk; have := kind_alloc.2 hk; rw [hne.2] at this; cases this
                  · rename_i hk; have := kind_eff.2 hk; rw [hne.1] at this; cases this
                · simp only [Option.some.injEq, Prod.mk.injEq] at hstep; exact hstep.2.symm
                · cases hstep
            have hlt := (Array.getElem?_eq_some_iff.1 hol).1
            have hstep := (hat l o hol).step
            unfold astep at hstep
            rw [hw] at hstep
            simp only at hstep
            unfold aop at hstep
            rw [kind_load.1 hlo] at hstep
            simp only at hstep
            split at hstep
            · rename_i v hv
              simp only [Option.some.injEq, Prod.mk.injEq] at hstep
              rw [hs0, ← hH l (by omega), ← hstep.1]
              exact hv
            · cases hstep
          · have hok := loadsOk_at ops.toList tr 0 hld (by simpa using hlen) l o rec (by simpa using hol) hrec
            simp only [Nat.zero_add] at hok
            unfold loadOk at hok
            rw [if_pos hlo] at hok
            rw [e1] at hw
            rw [hw] at hok
            simp only [List.all_eq_true] at hok
            have hmem : (s, stH tr h' s) ∈ ((0, h) :: states ops.toList tr 0 h') := by
              rcases hsx with h0 | ⟨e, oe, h1, h2, h3⟩
              · subst h0; rw [k3]; exact List.mem_cons_self
              · subst h1
                have := states_mem ops.toList tr 0 h' (by simpa using hlen) e oe (by simpa using h2) h3
                simp only [Nat.zero_add] at this
                exact List.mem_cons_of_mem _ this
            have hok2 := hok _ hmem
            have hwd := window_of (M := masks ops) (l := l) (s := s) ops.toList 0 (fun e oe he hoe => by
              simp only [Nat.zero_add]
              exact hwin e oe (by simpa using he) hoe)
            simp only [hwd, Bool.not_true, Bool.false_or] at hok2
            rw [e1, e2, e3]
            split at hok2
            · rename_i v hv
              rw [hv, avEq_eq _ _ hok2]
            · cases hok2
        have hn : stF tr fr' ops.size = fr' := by unfold stF; rw [List.getElem?_eq_none (by omega)]
        have hhn : stH tr h' ops.size = h' := by unfold stH; rw [List.getElem?_eq_none (by omega)]
        have hs' : Sim ρ h { w with drawn := w.drawn + 1 } := hs.of_heap rfl
        refine Inv.any (ρ0 := ρ) (w0 := { w with drawn := w.drawn + 1 }) hP hcall hl (fun ρ' a' w' h1 h2 => hq ρ' a' w' (hn ▸ h1) ?_) ops.size (Array.replicate ops.size false) a _ ρ 0 ?_ (by simp)
        · rw [hhn, k3] at h2
          exact (Step.draw hs (w.drawn + 1)).trans h2
        · have hno : ∀ i, ¬ Li (Array.replicate ops.size false) i := fun i hi => by
            unfold Li at hi
            rw [Array.getElem?_replicate] at hi
            split at hi <;> simp at hi
          have hres : res ρ (stH tr h' 0).next = ρ := by rw [k3]; exact hs.res_eq
          refine ⟨by simp, fun i o _ hi => absurd hi (hno i), fun i o _ _ => ⟨fun hi => absurd hi (hno i), fun hi => by omega⟩, .inl rfl, fun i o _ _ hi => by omega, ?_, ?_, fun p hp => absurd hp.2.1 (hno p), fun p q hp => absurd hp.2.1 (hno p), hf.defers.trans (by first | rw [k2] | rw [k1] | simp [*]), ?_, ?_⟩
          · rw [hres, k3]; exact Step.refl hs'
          · intro b pl hb
            left
            rw [k3]; exact hs.rng b pl hb
          · rw [k2]; exact hf.size
          · intro t
            refine .inr ⟨fun j o hj => absurd hj (hno j), fun v hv => ?_⟩
            rw [hres]
            rw [k2] at hv
            exact hf.val t v hv
      · cases ho
    · cases ho
  · cases ho

/-! ### another order of the text -/
theorem pos_le : ∀ (σ : List Nat) (i : Nat), pos σ i ≤ σ.length
  | [], _ => Nat.le_refl _
  | j :: r, i => by
    simp only [pos]
    cases Nat.beq j i
    · have := pos_le r i; simp only [cond_false, List.length_cons]; omega
    · simp
theorem pos_mem : ∀ (σ : List Nat) (i : Nat), i ∈ σ → pos σ i < σ.length ∧ σ[pos σ i]? = some i
  | [], i, h => by cases h
  | j :: r, i, h => by
    simp only [pos]
    by_cases e : j = i
    · subst e; simp
    · rw [beq_false.2 e]
      have := pos_mem r i (by rcases List.mem_cons.1 h with h | h; exact absurd h.symm e; exact h)
      simpa using this
theorem pos_not : ∀ (σ : List Nat) (i : Nat), i ∉ σ → pos σ i = σ.length
  | [], i, _ => rfl
  | j :: r, i, h => by
    simp only [List.mem_cons, not_or] at h
    simp only [pos]
    rw [beq_false.2 (Ne.symm h.1)]
    simp [pos_not r i h.2]
theorem nthO_eq : ∀ (l : List Oper) (i : Nat), nthO l i = l[i]?
  | [], i => by simp [nthO]
  | o :: r, 0 => by simp [nthO]
  | o :: r, i + 1 => by simp [nthO, nthO_eq r i]
theorem permL_at (l : List Oper) (π : Nat → Nat) : ∀ (σ : List Nat), (∀ i ∈ σ, i < l.length) → (permL l π σ).length = σ.length ∧ ∀ k : Nat, (permL l π σ)[k]? = (σ[k]?).bind fun (i : Nat) => (l[i]?).map (rnO π)
  | [], _ => ⟨rfl, fun k => by simp [permL]⟩
  | i :: r, h => by
    have hi := h i (by simp)
    obtain ⟨h1, h2⟩ := permL_at l π r fun j hj => h j (by simp [hj])
    have e : nthO l i = some l[i] := by rw [nthO_eq, List.getElem?_eq_getElem hi]
    simp only [permL, e]
    refine ⟨by simp [h1], fun k => ?_⟩
    cases k with
    | zero => simp [List.getElem?_eq_getElem hi]
    | succ k => simpa using h2 k
structure PermOk (ops ops' : Array Oper) (π : Nat → Nat) : Prop where
  size : ops'.size = ops.size
  at_ : ∀ i, ops'[π i]? = (ops[i]?).map (rnO π)
  lt : ∀ i, i < ops.size ↔ π i < ops.size
  inv : ∀ k, k < ops.size → ∃ i, i < ops.size ∧ π i = k
  inj : ∀ i j, i < ops.size → j < ops.size → π i = π j → i = j
theorem PermOk.of {ops : Array Oper} {σ : List Nat} (h : isPerm σ ops.size = true) : PermOk ops (permOps ops σ) (pos σ) := by
  simp only [isPerm, Bool.and_eq_true, beq_true, List.all_eq_true, List.mem_range] at h
  obtain ⟨⟨⟨h1, h2⟩, h3⟩, h4⟩ := h
  have hlt : ∀ i ∈ σ, i < ops.size := fun i hi => by have := h2 i hi; simp only [Nat.blt, Nat.ble_eq] at this; exact this
  have hmem : ∀ i, i < ops.size → i ∈ σ := fun i hi => by have := h3 i hi; simpa using this
  obtain ⟨p1, p2⟩ := permL_at ops.toList (pos σ) σ (fun i hi => by simpa using hlt i hi)
  refine ⟨by simp [permOps, p1, h1], fun i => ?_, fun i => ⟨fun hi => ?_, fun hi => ?_⟩, fun k hk => ?_, fun i j hi hj e => ?_⟩
  · have := p2 (pos σ i)
    simp only [permOps, List.getElem?_toArray]
    rw [this]
    by_cases hi : i < ops.size
    · rw [(pos_mem σ i (hmem i hi)).2]; simp
    · rw [pos_not σ i (fun hm => hi (hlt i hm))]
      simp [Array.getElem?_eq_none (Nat.le_of_not_lt hi)]
  · have := (pos_mem σ i (hmem i hi)).1; omega
  · rcases Nat.lt_or_ge i ops.size with h | h
    · exact h
    · rw [pos_not σ i (fun hm => absurd (hlt i hm) (by omega))] at hi; omega
  · have := h4 k hk
    rw [List.getElem?_eq_getElem (by omega)] at this
    exact ⟨σ[k]'(by omega), hlt _ (List.getElem_mem _), by simpa using this⟩
  · have h5 := (pos_mem σ i (hmem i hi)).2
    have h6 := (pos_mem σ j (hmem j hj)).2
    rw [e, h6] at h5
    exact (Option.some.inj h5).symm
theorem rnO_wp {P : Program} {π : Nat → Nat} {o : Oper} {a : Act} {w : World} {K : Act → World → Prop} {Q : Exit → Act → World → Prop} : (rnO π o).wp P a w K Q = o.wp P a w K Q := rfl
theorem rnO_asks {P : Program} {π : Nat → Nat} {o : Oper} {a : Act} {w : World} : (rnO π o).asks P a w = o.asks P a w := rfl
theorem PermOk.wanted {ops ops' : Array Oper} {π : Nat → Nat} (hp : PermOk ops ops' π) (o : Oper) (tmps : Array Value) : Region.wanted (rnO π o) (yielded ops' tmps) = Region.wanted o (yielded ops tmps) := by
  have hy : ∀ j, yielded ops' tmps (π j) = yielded ops tmps j := fun j => by
    unfold yielded
    rw [hp.at_ j]
    cases ops[j]? <;> rfl
  unfold Region.wanted rnO
  cases hg : o.guard with
  | none => simp
  | some g => obtain ⟨j, b⟩ := g; simp only [hy]
theorem PermOk.ready {ops ops' : Array Oper} {π : Nat → Nat} (hp : PermOk ops ops' π) {md : Region.Mode} {listed listed' : Array Bool} (hl : ∀ i, listed'[π i]? = listed[i]?) (i : Nat) :
    i ∈ Region.ready md ops listed ↔ π i ∈ Region.ready md ops' listed' := by
  unfold Region.ready
  simp only [List.mem_filter, List.mem_range, hp.size, ← hp.lt i, hp.at_ i]
  have hg : ∀ (j : Nat) (d : Bool), listed'.getD (π j) d = listed.getD j d := fun j d => by simp only [Array.getD_eq_getD_getElem?, hl]
  rw [hg]
  cases ops[i]? with
  | none => simp
  | some o =>
    simp only [Option.map_some, Option.getD_some]
    have : (rnO π o).after.all (fun e => !Region.binds md e || listed'.getD e.on false) = o.after.all (fun e => !Region.binds md e || listed.getD e.on false) := by
      unfold rnO
      simp only
      rw [← Array.all_toList, ← Array.all_toList, Array.toList_map, List.all_map]
      congr 1
      funext e
      simp only [Function.comp, rnE, hg]
      rfl
    rw [this]
theorem wpAny_perm {P : Program} {md : Region.Mode} {ops ops' : Array Oper} {π : Nat → Nat} (hp : PermOk ops ops' π) {Q : Exit → Act → World → Prop} : ∀ (fuel : Nat) (listed listed' : Array Bool) (a : Act) (w : World), listed.size = ops.size → listed'.size = ops.size → (∀ i, listed'[π i]? = listed[i]?) →
    wpAny P md ops' Q fuel listed' a w → wpAny P md ops Q fuel listed a w := by
  intro fuel
  induction fuel with
  | zero =>
    intro listed listed' a w _ _ hl h
    refine ⟨List.eq_nil_iff_forall_not_mem.2 fun i hi => ?_, h.2⟩
    have := (hp.ready hl i).1 hi
    rw [h.1] at this; cases this
  | succ fuel ih =>
    intro listed listed' a w hs hs' hl h
    refine ⟨fun hr => h.1 (List.eq_nil_iff_forall_not_mem.2 fun k hk => ?_), fun i hi => ?_⟩
    · have hk2 : k < ops.size := by
        unfold Region.ready at hk
        simp only [List.mem_filter, List.mem_range, hp.size] at hk
        exact hk.1
      obtain ⟨i, _, rfl⟩ := hp.inv k hk2
      have := (hp.ready hl i).2 hk
      rw [hr] at this; cases this
    · have hi2 : i < ops.size := by
        unfold Region.ready at hi
        simp only [List.mem_filter, List.mem_range] at hi
        exact hi.1
      have hop := h.2 (π i) ((hp.ready hl i).1 hi)
      have hl' : ∀ j, (listed'.setIfInBounds (π i) true)[π j]? = (listed.setIfInBounds i true)[j]? := fun j => by
        by_cases e : i = j
        · subst e
          rw [Array.getElem?_setIfInBounds_self_of_lt (by rw [hs']; exact (hp.lt i).1 hi2), Array.getElem?_setIfInBounds_self_of_lt (by omega)]
        · rw [Array.getElem?_setIfInBounds_ne (fun e2 => ?_), Array.getElem?_setIfInBounds_ne e, hl]
          by_cases hj : j < ops.size
          · exact e (hp.inj i j hi2 hj e2)
          · have h1 := (hp.lt i).1 hi2
            have h2 := mt (hp.lt j).2 hj
            omega
      unfold wpOp at hop ⊢
      rw [hp.at_ i] at hop
      cases ho : ops[i]? with
      | none => rw [ho] at hop; simp only [Option.map_none] at hop; exact ih _ _ _ _ (by simpa using hs) (by simpa using hs') hl' hop
      | some o =>
        rw [ho] at hop
        simp only [Option.map_some] at hop ⊢
        rw [hp.wanted] at hop
        split at hop
        · rename_i hw
          rw [if_pos hw]
          rw [rnO_wp, rnO_asks] at hop
          exact hop.imp (Oper.wp_mono fun a w hx => ih _ _ _ _ (by simpa using hs) (by simpa using hs') hl' hx) id
        · rename_i hw
          rw [if_neg hw]
          exact ih _ _ _ _ (by simpa using hs) (by simpa using hs') hl' hop
/-- **A region that draws its order.** -/
theorem adrawAny_sound {P : Program} (hP : POk P) {call : CallFn} (hcall : CallOk P call) {ops : Array Oper} {fr fr' : AFrame} {h h' : AHeap} {Q : Exit → Act → World → Prop} {ρ : Rho} {a : Act} {w : World}
    (ho : adraw P call ops fr h = some (fr', h')) (hf : FrRel ρ fr a) (hs : Sim ρ h w) (hq : ∀ ρ' a' w', FrRel ρ' fr' a' → Step ρ h w ρ' h' w' → Q .normal a' w') : wpAny P .any ops Q ops.size (Array.replicate ops.size false) a { w with drawn := w.drawn + 1 } := by
  unfold adraw at ho
  have hE := adrawE_sound hP hcall ho hf hs hq
  unfold effOps at hE
  split at hE
  · exact hE
  · split at hE
    · rename_i hperm
      have hp := PermOk.of hperm
      rw [hp.size] at hE
      refine wpAny_perm hp _ _ _ _ _ (by simp) (by simp) (fun i => ?_) hE
      simp only [Array.getElem?_replicate]
      have := hp.lt i
      by_cases hi : i < ops.size
      · rw [if_pos hi, if_pos (this.1 hi)]
      · rw [if_neg hi, if_neg (mt this.2 hi)]
    · exact hE

theorem adraw_sound {P : Program} (hP : POk P) {call : CallFn} (hcall : CallOk P call) {ops : Array Oper} {fr fr' : AFrame} {h h' : AHeap} {id : Nat} {Q : Exit → Act → World → Prop} {ρ : Rho} {a : Act} {w : World}
    (ho : adraw P call ops fr h = some (fr', h')) (hf : FrRel ρ fr a) (hs : Sim ρ h w) (hq : ∀ ρ' a' w', FrRel ρ' fr' a' → Step ρ h w ρ' h' w' → Q .normal a' w') : (Code.region id ops true).wp P Q a w :=
  wp_region_any hP.mixed (adrawAny_sound hP hcall ho hf hs hq)

end Go.Eng
/- The engine, part 16: code and calls: what the engine's run says of the model's. -/
namespace Go.Eng

def AEx.to : AEx → Exit
  | .normal => .normal
  | .exit id => .exit id
  | .ret => .ret

theorem code_mono {P : Program} {c : Code} {Q Q' : Exit → Act → World → Prop} {a : Act} {w : World} (h : c.wp P Q a w) (hq : ∀ e a w, Q e a w → Q' e a w) : c.wp P Q' a w := wp_mono h hq

theorem aexec_sound {P : Program} (hP : POk P) {call : CallFn} (hcall : CallOk P call) (n : Nat) : ∀ (c : Code) (fr : AFrame) (h : AHeap) (e : AEx) (fr' : AFrame) (h' : AHeap) (ρ : Rho) (a : Act) (w : World) (Q : Exit → Act → World → Prop),
    aexec P call n c fr h = some (e, fr', h') → FrRel ρ fr a → Sim ρ h w → (∀ ρ' a' w', FrRel ρ' fr' a' → Step ρ h w ρ' h' w' → Q e.to a' w') → c.wp P Q a w := by
  intro c
  induction c with
  | skip =>
    intro fr h e fr' h' ρ a w Q ho hf hs hq
    simp only [aexec, Option.some.injEq, Prod.mk.injEq] at ho
    obtain ⟨rfl, rfl, rfl⟩ := ho
    exact wp_skip (hq ρ a w hf (Step.refl hs))
  | label l =>
    intro fr h e fr' h' ρ a w Q ho hf hs hq
    simp only [aexec, Option.some.injEq, Prod.mk.injEq] at ho
    obtain ⟨rfl, rfl, rfl⟩ := ho
    exact wp_label (hq ρ a w hf (Step.refl hs))
  | region id ops draw =>
    intro fr h e fr' h' ρ a w Q ho hf hs hq
    simp only [aexec] at ho
    split at ho
    · rename_i fr1 h1 hr
      simp only [Option.some.injEq, Prod.mk.injEq] at ho
      obtain ⟨rfl, rfl, rfl⟩ := ho
      cases draw with
      | true =>
        rw [if_pos rfl] at hr
        exact adraw_sound hP hcall hr hf hs hq
      | false =>
        rw [if_neg (by simp)] at hr
        exact wp_region_list (aops_sound hP hcall ops.toList fr _ h _ ρ a w hr hf hs hq)
    · cases ho
  | seq x y ihx ihy =>
    intro fr h e fr' h' ρ a w Q ho hf hs hq
    simp only [aexec] at ho
    split at ho
    · rename_i fr1 h1 hx
      refine wp_seq (ihx fr h .normal fr1 h1 ρ a w _ hx hf hs fun ρ1 a1 w1 hf1 hs1 => ?_)
      exact ihy fr1 h1 e fr' h' ρ1 a1 w1 Q ho hf1 hs1.sim fun ρ2 a2 w2 hf2 hs2 => hq ρ2 a2 w2 hf2 (hs1.trans hs2)
    · rename_i id fr1 h1 hx
      simp only [Option.some.injEq, Prod.mk.injEq] at ho
      obtain ⟨rfl, rfl, rfl⟩ := ho
      exact wp_seq (ihx fr h (.exit id) fr1 h1 ρ a w _ hx hf hs fun ρ1 a1 w1 hf1 hs1 => hq ρ1 a1 w1 hf1 hs1)
    · rename_i fr1 h1 hx
      simp only [Option.some.injEq, Prod.mk.injEq] at ho
      obtain ⟨rfl, rfl, rfl⟩ := ho
      exact wp_seq (ihx fr h .ret fr1 h1 ρ a w _ hx hf hs fun ρ1 a1 w1 hf1 hs1 => hq ρ1 a1 w1 hf1 hs1)
    · cases ho
  | cond c x y ihx ihy =>
    intro fr h e fr' h' ρ a w Q ho hf hs hq
    simp only [aexec] at ho
    split at ho
    · rename_i b hc
      have hb := conc_bool (aeval_sound hf hs c _ hc)
      split at ho
      · exact wp_cond_true hb (ihx fr h e fr' h' ρ a w Q ho hf hs hq)
      · exact wp_cond_false hb (ihy fr h e fr' h' ρ a w Q ho hf hs hq)
    · cases ho
  | block id c ih =>
    intro fr h e fr' h' ρ a w Q ho hf hs hq
    simp only [aexec] at ho
    refine wp_block ?_
    split at ho
    · rename_i fr1 h1 hx
      simp only [Option.some.injEq, Prod.mk.injEq] at ho
      obtain ⟨rfl, rfl, rfl⟩ := ho
      exact ih fr h .normal fr1 h1 ρ a w _ hx hf hs fun ρ1 a1 w1 hf1 hs1 => hq ρ1 a1 w1 hf1 hs1
    · rename_i id' fr1 h1 hx
      refine ih fr h (.exit id') fr1 h1 ρ a w _ hx hf hs fun ρ1 a1 w1 hf1 hs1 => ?_
      split at ho
      · rename_i hid
        simp only [Option.some.injEq, Prod.mk.injEq] at ho
        obtain ⟨rfl, rfl, rfl⟩ := ho
        show if id' = id then Q .normal a1 w1 else Q (.exit id') a1 w1
        rw [if_pos hid]
        exact hq ρ1 a1 w1 hf1 hs1
      · rename_i hid
        simp only [Option.some.injEq, Prod.mk.injEq] at ho
        obtain ⟨rfl, rfl, rfl⟩ := ho
        show if id' = id then Q .normal a1 w1 else Q (.exit id') a1 w1
        rw [if_neg hid]
        exact hq ρ1 a1 w1 hf1 hs1
    · rename_i fr1 h1 hx
      simp only [Option.some.injEq, Prod.mk.injEq] at ho
      obtain ⟨rfl, rfl, rfl⟩ := ho
      exact ih fr h .ret fr1 h1 ρ a w _ hx hf hs fun ρ1 a1 w1 hf1 hs1 => hq ρ1 a1 w1 hf1 hs1
    · cases ho
  | loop c ih =>
    intro fr h e fr' h' ρ a w Q ho hf hs hq
    simp only [aexec] at ho
    have key : ∀ (k : Nat) (fr : AFrame) (h : AHeap) (ρ : Rho) (a : Act) (w : World), aiter (fun fr h => aexec P call n c fr h) k fr h = some (e, fr', h') → FrRel ρ fr a → Sim ρ h w →
        (∀ ρ' a' w', FrRel ρ' fr' a' → Step ρ h w ρ' h' w' → Q e.to a' w') → Code.rounds P c Q k a w := by
      intro k
      induction k with
      | zero => intro fr h ρ a w ho; simp [aiter] at ho
      | succ k ihk =>
        intro fr h ρ a w ho hf hs hq
        rw [rounds_succ]
        simp only [aiter] at ho
        split at ho
        · rename_i fr1 h1 hx
          exact ih fr h .normal fr1 h1 ρ a w _ hx hf hs fun ρ1 a1 w1 hf1 hs1 =>
            ihk fr1 h1 ρ1 a1 w1 ho hf1 hs1.sim fun ρ2 a2 w2 hf2 hs2 => hq ρ2 a2 w2 hf2 (hs1.trans hs2)
        · rename_i id fr1 h1 hx
          simp only [Option.some.injEq, Prod.mk.injEq] at ho
          obtain ⟨rfl, rfl, rfl⟩ := ho
          exact ih fr h (.exit id) fr1 h1 ρ a w _ hx hf hs fun ρ1 a1 w1 hf1 hs1 => hq ρ1 a1 w1 hf1 hs1
        · rename_i fr1 h1 hx
          simp only [Option.some.injEq, Prod.mk.injEq] at ho
          obtain ⟨rfl, rfl, rfl⟩ := ho
          exact ih fr h .ret fr1 h1 ρ a w _ hx hf hs fun ρ1 a1 w1 hf1 hs1 => hq ρ1 a1 w1 hf1 hs1
        · cases ho
    exact wp_loop_rounds n (key n fr h ρ a w ho hf hs hq)
  | exit id =>
    intro fr h e fr' h' ρ a w Q ho hf hs hq
    simp only [aexec, Option.some.injEq, Prod.mk.injEq] at ho
    obtain ⟨rfl, rfl, rfl⟩ := ho
    exact wp_exit (hq ρ a w hf (Step.refl hs))
  | ret =>
    intro fr h e fr' h' ρ a w Q ho hf hs hq
    simp only [aexec, Option.some.injEq, Prod.mk.injEq] at ho
    obtain ⟨rfl, rfl, rfl⟩ := ho
    exact wp_ret (hq ρ a w hf (Step.refl hs))
  | rangeFunc f ps as bo _ _ => intro fr h e fr' h' ρ a w Q ho; simp [aexec] at ho
  | scope c _ => intro fr h e fr' h' ρ a w Q ho; simp [aexec] at ho
  | goto l => intro fr h e fr' h' ρ a w Q ho; simp [aexec] at ho
  | refuse s => intro fr h e fr' h' ρ a w Q ho; simp [aexec] at ho

/-! ### results -/
theorem ares_sound {P : Program} {ρ : Rho} {fr : AFrame} {h : AHeap} {a : Act} {w : World} (hf : FrRel ρ fr a) (hs : Sim ρ h w) : ∀ (l : List ResultVar) (vs : List AV), ares P fr h l = some vs →
    ∃ cs, concs ρ vs = some cs ∧ (l.mapM fun | .tmp t => pure (a.tmps.getD t undef) | .cell x t => do loadVar t (← asAddr (a.tmps.getD x undef)) : Sem (List Value)).run P w = .ok cs w
  | [], vs, h => by simp only [ares, Option.some.injEq] at h; subst h; exact ⟨[], rfl, by simp⟩
  | .tmp t :: r, vs, hv => by
    simp only [ares] at hv
    split at hv
    · rename_i v l h1 h2
      cases hv
      obtain ⟨c, h3, h4⟩ := hf.val t v h1
      obtain ⟨cs, h5, h6⟩ := ares_sound hf hs r l h2
      refine ⟨c :: cs, concs_cons_mk h4 h5, ?_⟩
      simp only [List.mapM_cons, Sem.run_bind, Sem.run_pure, Result.andThen_ok, h6]
      simp [h3]
    · cases hv
  | .cell x t :: r, vs, hv => by
    simp only [ares] at hv
    split at hv
    · rename_i p h0
      split at hv
      · rename_i v l h1 h2
        cases hv
        obtain ⟨cp, h3, h4⟩ := hf.val x p h0
        obtain ⟨c, h7, h8⟩ := aload_sound (P := P) h1 h4 hs
        obtain ⟨cs, h5, h6⟩ := ares_sound hf hs r l h2
        refine ⟨c :: cs, concs_cons_mk h7 h5, ?_⟩
        have hcp : ∃ ad, cp = .pointer (some ad) := by
          cases p <;> simp only [aload] at h1 <;> try (cases h1; done)
          obtain ⟨pl, _, hh⟩ := conc_ptr h4
          exact ⟨_, hh⟩
        obtain ⟨ad, rfl⟩ := hcp
        have h8' : (loadVar t ad).run P w = .ok c w := by simpa [Instr.loadAt, Instr.sureAddr] using h8
        have hget : (asAddr (a.tmps.getD x undef)).run P w = .ok ad w := by
          have : a.tmps.getD x undef = .pointer (some ad) := by simp [h3]
          rw [this]; rfl
        simp only [List.mapM_cons, Sem.run_bind, hget, Result.andThen_ok, h8', h6, Sem.run_pure]
      · cases hv
    · cases hv
theorem results_sound {P : Program} {ρ : Rho} {fr : AFrame} {h : AHeap} {a : Act} {w : World} {fn : Func} {vs : List AV} (hf : FrRel ρ fr a) (hs : Sim ρ h w) (hv : ares P fr h fn.results.toList = some vs) :
    ∃ c, conc ρ (ares1 vs) = some c ∧ (results fn a.tmps).run P w = .ok c w := by
  obtain ⟨cs, h1, h2⟩ := ares_sound hf hs _ vs hv
  have hm : (fn.results.mapM fun | .tmp t => pure (a.tmps.getD t undef) | .cell x t => do loadVar t (← asAddr (a.tmps.getD x undef)) : Sem (Array Value)).run P w = .ok cs.toArray w := by
    have e : fn.results = fn.results.toList.toArray := by simp
    rw [e, List.mapM_toArray]
    simp only [Sem.run_map, h2, Result.andThen_ok]
  have hlen := concs_length _ _ h1
  by_cases h0 : vs.length = 1
  · obtain ⟨v, rfl⟩ : ∃ v, vs = [v] := List.length_eq_one_iff.1 h0
    obtain ⟨c, cr, hc, hcr, rfl⟩ := concs_cons h1
    simp [concs] at hcr; subst hcr
    refine ⟨c, hc, ?_⟩
    unfold results
    rw [Sem.run_bind]
    exact (congrArg (fun r => Result.andThen r fun vs w => Sem.run P (pure (if h : vs.size = 1 then vs[0] else .tuple vs) : Sem Value) w) hm).trans rfl
  · have e : ares1 vs = .tuple vs := by
      unfold ares1
      split
      · simp at h0
      · rfl
    refine ⟨.tuple cs.toArray, by rw [e]; exact conc_tuple_mk h1, ?_⟩
    unfold results
    rw [Sem.run_bind]
    refine (congrArg (fun r => Result.andThen r fun vs w => Sem.run P (pure (if h : vs.size = 1 then vs[0] else .tuple vs) : Sem Value) w) hm).trans ?_
    simp only [Result.andThen_ok, Sem.run_pure]
    rw [dif_neg (by simp; omega)]

theorem args0_get : ∀ (l : List AV) (i : Nat) (t : T AV) (j : Nat), T.get 6 (args0 l i t) j = if i ≤ j ∧ j < i + l.length then l[j - i]? else T.get 6 t j
  | [], i, t, j => by simp only [args0]; rw [if_neg (by simp)]
  | v :: r, i, t, j => by
    simp only [args0]
    rw [args0_get r (i + 1) _ j, T.get_set]
    simp only [List.length_cons]
    by_cases h : i = j
    · subst h
      rw [if_neg (by omega), if_pos rfl, if_pos (by omega)]
      simp
    · rw [if_neg h]
      by_cases h2 : i + 1 ≤ j ∧ j < i + 1 + r.length
      · rw [if_pos h2, if_pos (by omega)]
        have : j - i = (j - (i + 1)) + 1 := by omega
        rw [this, List.getElem?_cons_succ]
      · rw [if_neg h2, if_neg (by omega)]

theorem aops_ds {P : Program} {call : CallFn} {ops : Array Oper} : ∀ (l : List Oper) (fr fr' : AFrame) (h h' : AHeap), aops P call ops l fr h = some (fr', h') → fr'.ds = fr.ds
  | [], fr, fr', h, h', ho => by simp only [aops, Option.some.injEq, Prod.mk.injEq] at ho; rw [ho.1]
  | o :: r, fr, fr', h, h', ho => by
    simp only [aops] at ho
    split at ho
    · split at ho
      · rename_i fr1 hp; exact (aops_ds r _ _ _ _ ho).trans (AFrame.put_ds hp)
      · cases ho
    · cases ho
theorem adops_ds {P : Program} {call : CallFn} {ops : Array Oper} : ∀ (l : List Oper) (fr fr' : AFrame) (h h' : AHeap) (tr : List Rec), adops P call ops l fr h = some (tr, fr', h') → fr'.ds = fr.ds
  | [], fr, fr', h, h', tr, ho => by simp only [adops, Option.some.injEq, Prod.mk.injEq] at ho; rw [ho.2.1]
  | o :: r, fr, fr', h, h', tr, ho => by
    simp only [adops] at ho
    split at ho
    · split at ho
      · rename_i fr1 hp
        split at ho
        · split at ho
          · rename_i tr2 fr2 h2 hx
            simp only [Option.some.injEq, Prod.mk.injEq] at ho
            obtain ⟨_, rfl, _⟩ := ho
            exact (adops_ds r _ _ _ _ _ hx).trans (AFrame.put_ds hp)
          · cases ho
        · cases ho
      · cases ho
    · cases ho
theorem adraw_ds {P : Program} {call : CallFn} {ops : Array Oper} {fr fr' : AFrame} {h h' : AHeap} (ho : adraw P call ops fr h = some (fr', h')) : fr'.ds = fr.ds := by
  unfold adraw adrawE at ho
  split at ho
  · split at ho
    · rename_i tr f2 h2 hx
      split at ho
      · simp only [Option.some.injEq, Prod.mk.injEq] at ho
        obtain ⟨rfl, _⟩ := ho
        exact adops_ds _ _ _ _ _ _ hx
      · cases ho
    · cases ho
  · cases ho
theorem aexec_ds {P : Program} {call : CallFn} (n : Nat) : ∀ (c : Code) (fr : AFrame) (h : AHeap) (e : AEx) (fr' : AFrame) (h' : AHeap), aexec P call n c fr h = some (e, fr', h') → fr'.ds = fr.ds := by
  intro c
  induction c with
  | skip => intro fr h e fr' h' ho; simp only [aexec, Option.some.injEq, Prod.mk.injEq] at ho; rw [ho.2.1]
  | label l => intro fr h e fr' h' ho; simp only [aexec, Option.some.injEq, Prod.mk.injEq] at ho; rw [ho.2.1]
  | region id ops draw =>
    intro fr h e fr' h' ho
    simp only [aexec] at ho
    split at ho
    · rename_i fr1 h1 hr
      simp only [Option.some.injEq, Prod.mk.injEq] at ho
      obtain ⟨_, rfl, _⟩ := ho
      cases draw with
      | true => rw [if_pos rfl] at hr; exact adraw_ds hr
      | false => rw [if_neg (by simp)] at hr; exact aops_ds _ _ _ _ _ hr
    · cases ho
  | seq x y ihx ihy =>
    intro fr h e fr' h' ho
    simp only [aexec] at ho
    split at ho
    · rename_i fr1 h1 hx; exact (ihy _ _ _ _ _ ho).trans (ihx _ _ _ _ _ hx)
    · rename_i id fr1 h1 hx; simp only [Option.some.injEq, Prod.mk.injEq] at ho; obtain ⟨_, rfl, _⟩ := ho; exact ihx _ _ _ _ _ hx
    · rename_i fr1 h1 hx; simp only [Option.some.injEq, Prod.mk.injEq] at ho; obtain ⟨_, rfl, _⟩ := ho; exact ihx _ _ _ _ _ hx
    · cases ho
  | cond c x y ihx ihy =>
    intro fr h e fr' h' ho
    simp only [aexec] at ho
    split at ho
    · split at ho
      · exact ihx _ _ _ _ _ ho
      · exact ihy _ _ _ _ _ ho
    · cases ho
  | block id c ih =>
    intro fr h e fr' h' ho
    simp only [aexec] at ho
    split at ho
    · rename_i fr1 h1 hx; simp only [Option.some.injEq, Prod.mk.injEq] at ho; obtain ⟨_, rfl, _⟩ := ho; exact ih _ _ _ _ _ hx
    · rename_i id' fr1 h1 hx
      split at ho
      · simp only [Option.some.injEq, Prod.mk.injEq] at ho; obtain ⟨_, rfl, _⟩ := ho; exact ih _ _ _ _ _ hx
      · simp only [Option.some.injEq, Prod.mk.injEq] at ho; obtain ⟨_, rfl, _⟩ := ho; exact ih _ _ _ _ _ hx
    · rename_i fr1 h1 hx; simp only [Option.some.injEq, Prod.mk.injEq] at ho; obtain ⟨_, rfl, _⟩ := ho; exact ih _ _ _ _ _ hx
    · cases ho
  | loop c ih =>
    intro fr h e fr' h' ho
    simp only [aexec] at ho
    have key : ∀ (k : Nat) (fr : AFrame) (h : AHeap), aiter (fun fr h => aexec P call n c fr h) k fr h = some (e, fr', h') → fr'.ds = fr.ds := by
      intro k
      induction k with
      | zero => intro fr h ho; simp [aiter] at ho
      | succ k ihk =>
        intro fr h ho
        simp only [aiter] at ho
        split at ho
        · rename_i fr1 h1 hx; exact (ihk _ _ ho).trans (ih _ _ _ _ _ hx)
        · rename_i id fr1 h1 hx; simp only [Option.some.injEq, Prod.mk.injEq] at ho; obtain ⟨_, rfl, _⟩ := ho; exact ih _ _ _ _ _ hx
        · rename_i fr1 h1 hx; simp only [Option.some.injEq, Prod.mk.injEq] at ho; obtain ⟨_, rfl, _⟩ := ho; exact ih _ _ _ _ _ hx
        · cases ho
    exact key n fr h ho
  | exit id => intro fr h e fr' h' ho; simp only [aexec, Option.some.injEq, Prod.mk.injEq] at ho; rw [ho.2.1]
  | ret => intro fr h e fr' h' ho; simp only [aexec, Option.some.injEq, Prod.mk.injEq] at ho; rw [ho.2.1]
  | rangeFunc f ps as bo _ _ => intro fr h e fr' h' ho; simp [aexec] at ho
  | scope c _ => intro fr h e fr' h' ho; simp [aexec] at ho
  | goto l => intro fr h e fr' h' ho; simp [aexec] at ho
  | refuse s => intro fr h e fr' h' ho; simp [aexec] at ho
theorem acall_sound {P : Program} [Orc] (hP : POk P) (hO : CallOk P Orc.call) : ∀ n, CallOk P (acall P n) := by
  intro n
  induction n with
  | zero => exact hO
  | succ n ih =>
    intro f args h r h' ρ w cargs ho hs hargs
    simp only [acall] at ho
    split at ho
    · rename_i hor; cases ho; exact hO f args h r h' ρ w cargs hor hs hargs
    simp only [abody] at ho
    split at ho
    case h_2 => cases ho
    rename_i fn hfn
    split at ho
    case h_2 => cases ho
    rename_i c hbody
    have hlen := concs_length _ _ hargs
    have hfr : FrRel ρ ⟨args.length + (fn.ntmps - args.length), args0 args 0 .nil, []⟩ { tmps := cargs.toArray ++ Array.replicate (fn.ntmps - cargs.toArray.size) undef, defers := [] } := by
      refine ⟨rfl, by simp [hlen], fun i v hv => ?_⟩
      simp only [AFrame.get] at hv
      rw [args0_get] at hv
      split at hv
      · rename_i hlt
        obtain ⟨c, h1, h2⟩ := concs_get _ _ _ _ hargs hv
        refine ⟨c, ?_, h2⟩
        rw [Array.getElem?_append]
        rw [if_pos (by simp; omega)]
        simpa using h1
      · rw [T.get_nil] at hv; cases hv
    have fin : ∀ (e : AEx) (fr' : AFrame) (h1 : AHeap), (e = .normal ∨ e = .ret) → aexec P (acall P n) n c ⟨args.length + (fn.ntmps - args.length), args0 args 0 .nil, []⟩ h = some (e, fr', h1) →
        (match ares P fr' h1 fn.results.toList with | some l => some (ares1 l, h1) | none => none) = some (r, h') →
        Calls P f cargs.toArray w fun e w' => ∃ c ρ', e = .returned c ∧ conc ρ' r = some c ∧ Step ρ h w ρ' h' w' := by
      intro e fr' h1 he hx hr
      split at hr
      · rename_i l hl
        simp only [Option.some.injEq, Prod.mk.injEq] at hr
        obtain ⟨rfl, rfl⟩ := hr
        refine calls_of_wp hfn hbody (aexec_sound hP ih n c _ h e fr' h1 ρ _ w _ hx hfr hs fun ρ' a' w' hf' hs' => ?_)
        obtain ⟨cv, h2, h3⟩ := results_sound (P := P) (fn := fn) hf' hs'.sim hl
        rcases he with rfl | rfl <;> exact ⟨hf'.defers.trans (aexec_ds n c _ h _ fr' h1 hx), cv, h3, cv, ρ', rfl, h2, hs'⟩
      · cases hr
    split at ho
    · rename_i fr' h1 hx; exact fin .normal fr' h1 (.inl rfl) hx ho
    · rename_i fr' h1 hx; exact fin .ret fr' h1 (.inr rfl) hx ho
    · cases ho

end Go.Eng
