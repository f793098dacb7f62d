/- Law 43: the program's Measure: the loop of the completions. -/
import Derived.Test.YtcjgagkkanokjaaL43E
namespace Go.Eng.L43
open Go.Proofs Go.Eng
theorem measN_le {rel comp : List Int} : ∀ {n m}, measN rel comp n = some m → n ≤ rel.length
  | 0, _, _ => Nat.zero_le _
  | n + 1, m, h => by
    simp only [measN] at h
    split at h
    · cases h
    · split at h
      · rename_i hc
        simp only [Bool.and_eq_true, decide_eq_true_eq] at hc
        exact hc.1
      · cases h
theorem comps_split (i : Nat) (last : Int) (l : List Ev) (k : Nat) : comps i last l = comps i last (l.take k) ++ comps i last (l.drop k) := by
  rw [← comps_append, List.take_append_drop]
/-- One more completion. -/
theorem measN_step {i : Nat} {last : Int} {l : List Ev} {R : List Int} {k : Nat} (hk : k < l.length) {m : Int} (hm : measN R (comps i last (l.take k)) (comps i last (l.take k)).length = some m) (hc : isComp i last l[k] = true) :
    measN R (comps i last (l.take (k + 1))) (comps i last (l.take (k + 1))).length =
      if decide ((comps i last (l.take k)).length < R.length) && !ilt l[k].tm (R.getD (comps i last (l.take k)).length 0) then some (mx m (val l[k].tm (R.getD (comps i last (l.take k)).length 0))) else none := by
  rw [comps_take hk, hc]
  simp only [if_true, List.length_append, List.length_singleton]
  simp only [measN, measN_comp _ (Nat.le_refl _), hm]
  simp [List.getD_eq_getElem?_getD]
theorem measN_skip {i : Nat} {last : Int} {l : List Ev} {k : Nat} (hk : k < l.length) (hc : isComp i last l[k] = false) : comps i last (l.take (k + 1)) = comps i last (l.take k) := by
  rw [comps_take hk, hc]; simp
theorem measN_fail {i : Nat} {last : Int} {l : List Ev} {R : List Int} {k : Nat} (hm : measN R (comps i last (l.take k)) (comps i last (l.take k)).length = none) : measN R (comps i last l) (comps i last l).length = none := by
  refine measN_none (n := (comps i last (l.take k)).length) ?_ _ (by rw [comps_split i last l k]; simp)
  rw [comps_split i last l k, measN_comp _ (Nat.le_refl _)]
  exact hm
theorem max2_two (k : IntKind) (a b : Int) : max2 (some [.int k a, .int k b]) = some (.int k (mx a b)) := by
  simp [max2, pminmax, pminmax.go, mx, ilt]
theorem ia30 {b o z len i : Nat} {c : Cap} (hi : i < len) : pindexAddr Try.prog 30 (.sl b o z len c) (.int .i64 (i : Int)) = some (.ptr b (o + i)) := by
  simp only [pindexAddr, nat?, sl30, sz2]
  simp [hi]
/-- A heap in which one old block may have changed. -/
def Ko (h h' : AHeap) (ob : Nat) : Prop := h.next ≤ h'.next ∧ ∀ c, c < h.next → c ≠ ob → h'.get c = h.get c

theorem m5_l4 {fr : AFrame} {h : AHeap} {tr y : AV} {evs : List Ev} {i n ob lo : Nat} {last : Int} {R : List Int} {cells : List AV} (hn : fr.n = 135) (ht : Sl h 6 tr (evs.map evc)) (hT2 : evs.length ≤ 5000) (h10 : fr.get 10 = some (.int .i64 (i : Nat)))
    (h9 : fr.get 9 = some (.sl ob 0 0 n (.at_ n))) (h12 : fr.get 12 = some (.int .i64 last)) (h13 : fr.get 13 = some y) (hg : Gr h 2 1 lo y (one R)) (h17 : fr.get 17 = some (.int .i64 0)) (h75 : fr.get 75 = some tr) (h76 : fr.get 76 = some (.int .i64 (evs.length : Nat)))
    (h77 : fr.get 77 = some (.int .i64 0)) (hob : ob < lo) (hobn : ob < h.next) (hoc : h.get ob = .cells 2 cells (some 0)) (hcl : cells.length = n) (hi : i < n) (hc0 : cells[i]? = some (.int .i64 0)) (htr : blk tr ≠ some ob) :
    AW Try.prog (bodyAt Try.f5 [1, 1, 1, 0, 1, 0, 0, 1, 1, 0, 0, 1, 1, 1, 1, 1, 1, 0]) fr h fun ex fr' h' => (ex = .exit 6 ∧ ∃ m, measN R (comps i last evs) (comps i last evs).length = some m ∧ h'.get ob = .cells 2 (cells.set i (.int .i64 m)) (some 0) ∧ Ko h h' ob) ∨
      (ex = .ret ∧ measN R (comps i last evs) (comps i last evs).length = none ∧ fr'.get 6 = some .nilsl ∧ fr'.get 7 = some (.int .i64 14) ∧ Ko h h' ob) := by
  refine AW_loop_fr (fun g fr' h' => ∃ k m, g = evs.length - k ∧ k ≤ evs.length ∧ fr'.get 77 = some (.int .i64 (k : Nat)) ∧ fr'.get 17 = some (.int .i64 ((comps i last (evs.take k)).length : Nat)) ∧ measN R (comps i last (evs.take k)) (comps i last (evs.take k)).length = some m ∧
      h'.get ob = .cells 2 (cells.set i (.int .i64 m)) (some 0) ∧ Ko h h' ob) evs.length
    ⟨0, 0, by simp, by omega, h77, h17, rfl, by rw [hoc, set_same hc0], Nat.le_refl _, fun _ _ _ => rfl⟩ ?_
  rintro J hJ g fr' h' ⟨k, m, rfl, hk, h77', h17', hm, hoc', hko⟩ hfr
  have hn' : fr'.n = 135 := hfr.1.trans hn
  have h9' := (hfr.2 9 (by kernel_rfl)).trans h9
  have h10' := (hfr.2 10 (by kernel_rfl)).trans h10
  have h12' := (hfr.2 12 (by kernel_rfl)).trans h12
  have h13' := (hfr.2 13 (by kernel_rfl)).trans h13
  have h75' := (hfr.2 75 (by kernel_rfl)).trans h75
  have h76' := (hfr.2 76 (by kernel_rfl)).trans h76
  clear hfr h9 h10 h12 h13 h75 h76 h77 h17
  have ht' : Sl h' 6 tr (evs.map evc) := ht.keep hko.1 fun b hb hlt => hko.2 b hlt fun e => htr (by rw [hb, e])
  have hg' : Gr h' 2 1 lo y (one R) := hg.mono hko.1 fun b hb => hko.2 b (hg.blk hb).2 (by have := (hg.blk hb).1; omega)
  have hlenR := hg'.sl.len sl30
  rw [one_len] at hlenR
  have hobn' : ob < h'.next := Nat.lt_of_lt_of_le hobn hko.1
  have hne : (h'.next = ob) = False := eq_false (by omega)
  have hw := wrap_nat k (by omega)
  simp [hn', h76', h77', kseq_normal]
  refine Br.mk (fun hb => ?_) (fun hb => ?_)
  · have hk : k < evs.length := by rw [ilt_true] at hb; omega
    obtain ⟨b, o, ha, hbn, hag, _⟩ := ht'.at sl26 sz29 k (by simpa using hk)
    have hag := hag ag29
    simp only [List.getElem_map] at hag
    have hstep := fun hc => measN_step (R := R) hk hm hc
    have hskip := fun hc => measN_skip (i := i) (last := last) hk hc
    generalize hee : evs[k] = e at *
    simp [hn', h75', h77', ha, hag, pal29, stc_all sz29]
    rw [kseq_normal, AW_seq, AW_seq, AW_region_f]
    refine OW_cut (fun fr2 h2 => fr2.n = 135 ∧ fr2.get 9 = fr'.get 9 ∧ fr2.get 10 = fr'.get 10 ∧ fr2.get 13 = fr'.get 13 ∧ fr2.get 17 = fr'.get 17 ∧ fr2.get 77 = fr'.get 77 ∧ fr2.get 19 = some (.ptr h'.next 0) ∧ fr2.get 100 = some (.bool (!isComp i last e)) ∧ Pres h' h2 ∧ h2.get h'.next = .cells 29 (evc e) (some 0)) ?_ ?_
    · simp [hn', h10', h12', fa29_1, fa29_3, fa29_4, fa29_5, atCells_one ag2, atCells_one ag3]
      repeat' (first | refine Br.mk (fun hb => ?_) (fun hb => ?_) | simp [*, fa29_1, fa29_3, fa29_4, fa29_5, atCells_one ag2, atCells_one ag3, isComp, ((Pres.refl h').new _).set (Nat.le_refl _) _])
    rintro fr2 h2 ⟨b1, b2, b3, b4, b5, b6, b7, b8, hp2, hbx⟩
    rw [h9'] at b2; rw [h10'] at b3; rw [h13'] at b4; rw [h17'] at b5; rw [h77'] at b6
    simp [b1, b8, kseq_normal]
    have hoc2 := (hp2.2 ob hobn').trans hoc'
    have hg2 := hg'.pres hp2
    have hko2 : Ko h h2 ob := ⟨Nat.le_trans hko.1 hp2.1, fun c hc hne => (hp2.2 c (Nat.lt_of_lt_of_le hc hko.1)).trans (hko.2 c hc hne)⟩
    have hnext : ∀ (fr3 : AFrame) (h3 : AHeap) (m3 : Int), fr3.n = 135 → fr3.get 17 = some (.int .i64 ((comps i last (evs.take (k + 1))).length : Nat)) →
        measN R (comps i last (evs.take (k + 1))) (comps i last (evs.take (k + 1))).length = some m3 → h3.get ob = .cells 2 (cells.set i (.int .i64 m3)) (some 0) → Ko h h3 ob →
        ∃ j, j < evs.length - k ∧ J j ((fr3.upd 132 (.int .i64 ((k + 1 : Nat) : Int))).upd 77 (.int .i64 ((k + 1 : Nat) : Int))) h3 := fun fr3 h3 m3 a1 a2 a3 a4 a5 =>
      ⟨evs.length - (k + 1), by omega, hJ _ _ _ ⟨k + 1, m3, rfl, by omega, by simp, by simp [a2], a3, a4, a5⟩⟩
    refine Br.mk (fun hc => ?_) (fun hc => ?_)
    · have hst := hstep hc
      refine AW_region_t _ _ _ _ _ (by kernel_rfl) ?_
      simp [b1, b4, b5, hlenR]
      have hdn := measN_le hm
      generalize hdd : (comps i last (evs.take k)).length = dn at *
      refine Br.mk (fun hz0 => ?_) (fun hz0 => ?_)
      · have hz := hz0
        rw [ieq_true] at hz
        have hz' : ¬ dn < R.length := by omega
        simp [hz0, b1, b4, b5, hlenR, kseq_normal]
        refine ⟨?_, hko2⟩
        refine measN_fail (k := k + 1) ?_
        rw [hst]
        simp [hz']
      · have hz := hz0
        rw [ieq_false] at hz
        have hz' : dn < R.length := by omega
        obtain ⟨b2', o2, ha2, hbn2, hv2⟩ := hg2.sl.at1 sl30 sz2 ag2 dn (by simpa [ints] using hz')
        have hv2 : atCells Try.prog 2 (h2.get b2') o2 = some (.int .i64 R[dn]) := by simpa [ints] using hv2
        have hgd : R.getD dn 0 = R[dn] := by simp [List.getD_eq_getElem?_getD, List.getElem?_eq_getElem hz']
        rw [hgd] at hst
        simp [hz0, b1, b4, b5, b7, hbx, fa29_0, atCells_one ag2, ha2, hv2, kseq_normal]
        refine Br.mk (fun hlt => ?_) (fun hlt => ?_)
        · simp [hlt, b1, kseq_normal]
          refine ⟨?_, hko2⟩
          refine measN_fail (k := k + 1) ?_
          rw [hst]
          simp [hlt]
        · simp [hlt, b1, kseq_normal]
          refine AW_region_t _ _ _ _ _ (by kernel_rfl) ?_
          have hci : (cells.set i (AV.int .i64 m))[i]? = some (.int .i64 m) := by rw [List.getElem?_set, if_pos rfl, if_pos (by omega)]
          have hst1 : ∀ v : Int, stc Try.prog 2 (.cells 2 (cells.set i (.int .i64 m)) (some 0)) i (.int .i64 v) = some (.cells 2 (cells.set i (.int .i64 v)) (some 0)) := fun v => by
            rw [stc_one sz2 (by rw [List.length_set]; omega) rfl rfl, List.set_set]
          have hwd : IntKind.i64.wrap ((dn : Int) + 1) = ((dn + 1 : Nat) : Int) := wrap_nat dn (by have := comps_len i last (evs.take k); rw [hdd] at this; simp at this; omega)
          have hcd : (comps i last (evs.take (k + 1))).length = dn + 1 := by rw [comps_take hk, hee, hc]; simp [hdd]
          simp [b1, b2, b3, b4, b5, b6, b7, hbx, fa29_0, atCells_one ag2, ha2, hv2, ia30 hi, hoc2, max2_two, hci, hst1, kseq_normal, hwd, hw]
          rw [kloop_normal]
          refine hnext _ _ (mx m (val e.tm R[dn])) (by simp [b1]) (by rw [hcd]; simp) (by rw [hst]; simp [hlt, hz']) (by simp [val]) ⟨?_, fun c hc hne => ?_⟩
          · simp; exact hko2.1
          · simp [Ne.symm hne]; exact hko2.2 c hc hne
    · simp [b1, b6, kseq_normal, hw]
      rw [kloop_normal]
      have e1 := hskip hc
      exact hnext fr2 h2 m b1 (by rw [e1]; exact b5) (by rw [e1]; exact hm) hoc2 hko2
  · have : k = evs.length := by rw [ilt_false] at hb; omega
    subst this
    rw [List.take_length] at hm
    simp [hn', kseq_normal]
    exact ⟨m, hm, hoc', hko⟩
end Go.Eng.L43
