/- Law 43: the reference's Measure: answers. -/
import Derived.Test.YtcjgagkkanokjaaL43H
namespace Go.Eng.L43
open Go.Proofs Go.Eng
theorem m6_l4 {fr : AFrame} {h : AHeap} {y w : AV} {lo : Nat} {R C : List Int} (hn : fr.n = 139) (h12 : fr.get 12 = some y) (h13 : fr.get 13 = some w) (hy : Gr h 2 1 lo y (one R)) (hw : Gr h 2 1 lo w (one C)) (hC : C.length ≤ 100000)
    (h17 : fr.get 17 = some (.int .i64 0)) (h18 : fr.get 18 = some (.int .i64 0)) :
    AW Try.prog (bodyAt Try.f6 [1, 1, 1, 0, 1, 0, 0, 1, 0, 0, 1, 1, 1, 1, 0, 1, 0]) fr h fun ex fr' h' => (ex = .exit 6 ∧ ∃ m, measN R C C.length = some m ∧ fr'.get 17 = some (.int .i64 m) ∧ h' = h) ∨
      (ex = .ret ∧ measN R C C.length = none ∧ fr'.get 6 = some .nilsl ∧ fr'.get 7 = some (.int .i64 14) ∧ h' = h) := by
  refine AW_loop_fr (fun g fr' h' => ∃ k m, g = C.length - k ∧ k ≤ C.length ∧ fr'.get 18 = some (.int .i64 (k : Nat)) ∧ fr'.get 17 = some (.int .i64 m) ∧ measN R C k = some m ∧ h' = h) C.length
    ⟨0, 0, by simp, by omega, h18, h17, rfl, rfl⟩ ?_
  rintro J hJ g fr' h' ⟨k, m, rfl, hk, h18', h17', hm, rfl⟩ hfr
  have hn' : fr'.n = 139 := hfr.1.trans hn
  have h12' := (hfr.2 12 (by kernel_rfl)).trans h12
  have h13' := (hfr.2 13 (by kernel_rfl)).trans h13
  clear hfr h12 h13 h17 h18
  have hlenC := hw.sl.len sl30
  have hlenR := hy.sl.len sl30
  rw [one_len] at hlenC hlenR
  have hww := wrap_nat k (by omega)
  simp [hn', h18', h13', hlenC, kseq_normal]
  refine Br.mk (fun hb => ?_) (fun hb => ?_)
  · have hk : k < C.length := by rw [ilt_true] at hb; omega
    have hst : measN R C (k + 1) = if decide (k < R.length) && !ilt C[k] (R.getD k 0) then some (mx m (val C[k] (R.getD k 0))) else none := by
      simp only [measN, hm]
      simp [List.getD_eq_getElem?_getD, List.getElem?_eq_getElem hk]
    refine AW_region_t _ _ _ _ _ (by kernel_rfl) ?_
    simp [hn', h18', h12', hlenR]
    refine Br.mk (fun hz0 => ?_) (fun hz0 => ?_)
    · have hz := hz0
      rw [ilt_true] at hz
      have hz' : k < R.length := by omega
      obtain ⟨b1, o1, ha1, _, hv1⟩ := hw.sl.at1 sl30 sz2 ag2 k (by simpa [ints] using hk)
      have hv1 : atCells Try.prog 2 (h'.get b1) o1 = some (.int .i64 C[k]) := by simpa [ints] using hv1
      obtain ⟨b2, o2, ha2, _, hv2⟩ := hy.sl.at1 sl30 sz2 ag2 k (by simpa [ints] using hz')
      have hv2 : atCells Try.prog 2 (h'.get b2) o2 = some (.int .i64 R[k]) := by simpa [ints] using hv2
      have hgd : R.getD k 0 = R[k] := by simp [List.getD_eq_getElem?_getD, List.getElem?_eq_getElem hz']
      rw [hgd] at hst
      simp [hz0, hn', h18', h12', h13', ha1, hv1, ha2, hv2, kseq_normal]
      refine Br.mk (fun hlt => ?_) (fun hlt => ?_)
      · simp [hlt, hn', kseq_normal]
        refine measN_none (n := k + 1) ?_ _ (by omega)
        rw [hst]
        simp [hlt]
      · simp [hlt, hn', kseq_normal]
        refine AW_region_t _ _ _ _ _ (by kernel_rfl) ?_
        simp [hn', h18', h17', h12', h13', ha1, hv1, ha2, hv2, kseq_normal]
        have hnext : measN R C (k + 1) = some (mx m (val C[k] R[k])) := by rw [hst]; simp [hlt, hz']
        refine Br.mk (fun hg => ?_) (fun hg => ?_)
        · simp [hn', h18', kseq_normal, hww]
          rw [kloop_normal]
          refine ⟨C.length - (k + 1), by omega, hJ _ _ _ ⟨k + 1, _, rfl, by omega, by simp, ?_, hnext, rfl⟩⟩
          simp [mx, val, hg]
        · simp [hn', h18', kseq_normal, hww]
          rw [kloop_normal]
          refine ⟨C.length - (k + 1), by omega, hJ _ _ _ ⟨k + 1, _, rfl, by omega, by simp, ?_, hnext, rfl⟩⟩
          simp [mx, val, hg, h17']
    · have hz := hz0
      rw [ilt_false] at hz
      have hz' : ¬ k < R.length := by omega
      simp [hz0, hn', h18', h12', hlenR, kseq_normal]
      refine measN_none (n := k + 1) ?_ _ (by omega)
      rw [hst]
      simp [hz']
  · have : k = C.length := by rw [ilt_false] at hb; omega
    subst this
    simp [hn', kseq_normal, h17', hm]
theorem m6_l1 {fr : AFrame} {h : AHeap} {x tr : AV} {ts : List Tk} {evs : List Ev} (hn : fr.n = 139) (hs : Sl h 6 x (ts.map tkc)) (hlen : ts.length ≤ 1000) (ht : Sl h 6 tr (evs.map evc)) (hT2 : evs.length ≤ 5000) (hev : ∀ e ∈ evs, 0 ≤ e.b ∧ e.b ≤ 20)
    (h1 : fr.get 1 = some x) (h2 : fr.get 2 = some tr) (h9 : fr.get 9 = some .nilsl) (h10 : fr.get 10 = some (.int .i64 0)) :
    AW Try.prog (bodyAt Try.f6 [1, 1, 1, 0, 1, 0]) fr h fun ex fr' h' => (ex = .exit 0 ∧ ∃ o z, outs ts evs ts.length = some o ∧ fr'.get 9 = some z ∧ Gr h' 2 1 h.next z (one o) ∧ Pres h h') ∨
      (ex = .ret ∧ outs ts evs ts.length = none ∧ fr'.get 6 = some .nilsl ∧ fr'.get 7 = some (.int .i64 14) ∧ Pres h h') := by
  refine AW_loop_fr (fun k fr' h' => ∃ i ol z, k = ts.length - i ∧ i ≤ ts.length ∧ outs ts evs i = some ol ∧ fr'.get 10 = some (.int .i64 (i : Nat)) ∧ fr'.get 9 = some z ∧ Gr h' 2 1 h.next z (one ol) ∧ Pres h h') ts.length
    ⟨0, [], .nilsl, by simp, by omega, rfl, h10, h9, Gr.nil _ _ _ _, Pres.refl _⟩ ?_
  rintro J hJ k fr' h' ⟨i, ol, z, rfl, hi, hol, h10', h9', hgz, hp⟩ hfr
  have hn' : fr'.n = 139 := hfr.1.trans hn
  have h1' := (hfr.2 1 (by kernel_rfl)).trans h1
  have h2' := (hfr.2 2 (by kernel_rfl)).trans h2
  clear hfr h1 h2 h9 h10
  have hs' := hs.pres hp
  have ht' := ht.pres hp
  have holl := outs_len hol
  have hw := wrap_nat i (by omega)
  simp [hn', h1', h10', hs'.len sl37, kseq_normal]
  refine Br.mk (fun hb => ?_) (fun hb => ?_)
  · have hi : i < ts.length := by rw [ilt_true] at hb; omega
    obtain ⟨b, o, ha, hbn, hag, _⟩ := hs'.at sl37 sz53 i (by simpa using hi)
    have hag := hag ag53
    simp only [List.getElem_map] at hag
    have hos := outs_succ hol hi
    generalize hee : ts[i] = tk at *
    simp [hn', h1', h10', ha, hag, kseq_normal, hb15]
    refine Ca.mono (ref_program_sp _ (i : Int) tk) ?_
    rintro r h3 ⟨hr, hp3⟩
    have ht3 := ht'.pres hp3
    simp [hn', hr, kseq_normal, last_wrap]
    refine AW_cut_x 2 _ (m6_l2 (i := i) (evs := evs) (tr := tr) (last := lastOf tk) (by simp [hn']) (by simp [h2']) ht3 hT2 hev (by simp [h10']) (by simp) (by simp) (by simp) (by simp)) ?_
    rintro fr4 h4 ⟨y, w, c12, c13, c1, c2, c3⟩ hf4
    have d0 : fr4.n = 139 := hf4.1.trans (by simp [hn'])
    have d9 := (hf4.2 9 (by kernel_rfl)).trans (by simp; exact h9')
    have d10 := (hf4.2 10 (by kernel_rfl)).trans (by simp; exact h10')
    clear hf4
    simp [d0, kseq_normal]
    have hCl := comps_len i (lastOf tk) evs
    refine AW_mono _ _ _ _ _ (AW_fr _ _ _ _ (m6_l4 (y := y) (w := w) (lo := h3.next) (R := rels i evs) (C := comps i (lastOf tk) evs) (by simp [d0]) (by simp [c12]) (by simp [c13]) c1 c2 (by omega) (by simp) (by simp))) ?_
    rintro ex fr5 h5 ⟨hex, hf5⟩
    have e0 : fr5.n = 139 := hf5.1.trans (by simp [d0])
    have e9 := (hf5.2 9 (by kernel_rfl)).trans (by simp; exact d9)
    have e10 := (hf5.2 10 (by kernel_rfl)).trans (by simp; exact d10)
    clear hf5
    have hpp := hp3.trans c3
    rcases hex with ⟨rfl, m, hm, e17, rfl⟩ | ⟨rfl, hm, g6, g7, rfl⟩
    · change meas i tk evs = some m at hm
      rw [hm] at hos
      simp [e0, e9, e10, e17, kseq_normal, hw, bs30]
      have hgz5 := hgz.pres hpp
      obtain ⟨z2, h6, ho, hg6, hk6⟩ := grow hgz5 m (by have := hp.1; have := hpp.1; omega) (by omega)
      rw [ho]
      simp [e0, e10, kseq_normal, hw]
      rw [kloop_normal]
      have hp5 := hp.trans hpp
      refine ⟨ts.length - (i + 1), by omega, hJ _ _ _ ⟨i + 1, ol ++ [m], z2, rfl, by omega, hos, by simp, by simp, hg6, ⟨by have := hk6.1; have := hp5.1; omega, fun c hc => (hk6.2.1 c (by have := hp5.1; omega) (fun e1 => by have := (hgz5.blk e1).1; omega)).trans (hp5.2 c hc)⟩⟩⟩
    · change meas i tk evs = none at hm
      rw [hm] at hos
      simp [kseq_normal, g6, g7]
      exact ⟨outs_none hos _ (by omega), hp.trans hpp⟩
  · have : i = ts.length := by rw [ilt_false] at hb; omega
    subst this
    simp [hn', kseq_normal, hol, h9', hgz, hp]
theorem ref_measure_sp (h : AHeap) (x tr : AV) (ts : List Tk) (evs : List Ev) (hs : Sl h 6 x (ts.map tkc)) (hlen : ts.length ≤ 1000) (ht : Sl h 6 tr (evs.map evc)) (hT : evs.length ≤ 5000) (hev : ∀ e ∈ evs, 0 ≤ e.b ∧ e.b ≤ 20)
    (t0 t1 : Int) (cs : List Int) (hl : cs.length = 24) : Ca Try.prog 6 [tbV t0 t1 cs, x, tr] h fun r h' => MeasR h' r t0 t1 cs ts evs ∧ Pres h h' := by
  refine Ca_intro Try.func6 rfl ?_
  intro fr hn hg
  replace hn : fr.n = 139 := hn
  have h0 : fr.get 0 = some (tbV t0 t1 cs) := hg 0 (by simp)
  have h1 : fr.get 1 = some x := hg 1 (by simp)
  have h2 : fr.get 2 = some tr := hg 2 (by simp)
  clear hg
  show AW _ _ _ _ _
  simp [hn, h0, h1, kseq_normal, hb14, atCells_agg ag35 sz35, hl]
  rw [List.take_of_length_le (by simp [hl])]
  have hs1 := hs.pres ((Pres.refl h).new (.cells 35 (tbV t0 t1 cs).cells (some 0)))
  refine Ca.mono (ref_check_sp _ x ts hs1 hlen t0 t1 cs hl) ?_
  rintro r h3 ⟨rfl, hp⟩
  replace hp := ((Pres.refl h).new _).trans hp
  have hs2 := hs.pres hp
  simp [hn, kseq_normal]
  refine Br.mk (fun hb => ?_) (fun hb => ?_)
  · rw [ieq_true] at hb
    simp [hn, kseq_normal]
    refine AW_mono _ _ _ _ _ (AW_fr _ _ _ _ (m6_l1 (x := x) (tr := tr) (ts := ts) (evs := evs) (by simp [hn]) hs2 hlen (ht.pres hp) hT hev (by simp [h1]) (by simp [h2]) (by simp) (by simp))) ?_
    rintro ex fr5 h5 ⟨hex, hf5⟩
    have e0 : fr5.n = 139 := hf5.1.trans (by simp [hn])
    clear hf5
    rcases hex with ⟨rfl, o, z, ho, g9, hgz, hp5⟩ | ⟨rfl, ho, g6, g7, hp5⟩
    · simp [e0, g9, kseq_normal]
      refine ⟨?_, hp.trans hp5⟩
      simp only [MeasR, hb, if_true, ho]
      exact ⟨_, rfl, hgz.sl⟩
    · simp [g6, g7]
      refine ⟨?_, hp.trans hp5⟩
      simp only [MeasR, hb, if_true, ho]
  · rw [ieq_false] at hb
    simp [hn, kseq_normal, MeasR, hb, hp]
end Go.Eng.L43
