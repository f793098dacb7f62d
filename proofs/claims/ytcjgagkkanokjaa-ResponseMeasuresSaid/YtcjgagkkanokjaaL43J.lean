/- Law 43: the law itself. -/
import Derived.Test.YtcjgagkkanokjaaL43I
import Derived.Test.YtcjgagkkanokjaaE24
namespace Go.Eng.L43
open Go.Proofs Go.Eng
theorem awake_sp (h : AHeap) : Ca Try.prog 4 [] h fun r h' => r = .bool true ∧ h' = h := Ca_of (n := 0) (h' := h) (r := .bool true) rfl ⟨rfl, rfl⟩
def evBad (e : Ev) : Bool := ilt 20 e.b || ilt e.b 0 || ilt e.tm 0 || ilt 1099511627776 e.tm
theorem nats (n : Nat) : ilt (n : Int) 0 = false := by rw [ilt_false]; omega
def measRes (t0 t1 : Int) (cs : List Int) (ts : List Tk) (l : List Ev) : List Int × Int :=
  if chkE t0 t1 cs ts = 0 then
    match outs ts l ts.length with
    | some o => (o, 0)
    | none => ([], 14)
  else ([], chkE t0 t1 cs ts)
theorem MeasR.res {h : AHeap} {r : AV} {t0 t1 : Int} {cs : List Int} {ts : List Tk} {l : List Ev} (hr : MeasR h r t0 t1 cs ts l) :
    ∃ a, r = .tuple [a, .int .i64 (measRes t0 t1 cs ts l).2] ∧ Sl h 1 a ((ints (measRes t0 t1 cs ts l).1).map fun v => [v]) := by
  have nil : Sl h 1 .nilsl ((ints []).map fun v => [v]) := ⟨by simp [ints], .inl ⟨rfl, by simp [ints]⟩⟩
  unfold MeasR at hr
  unfold measRes
  by_cases hc : chkE t0 t1 cs ts = 0
  · rw [if_pos hc] at hr ⊢
    cases ho : outs ts l ts.length with
    | none => simp only [ho] at hr ⊢; exact ⟨_, hr, nil⟩
    | some o => simp only [ho] at hr ⊢; exact hr
  · rw [if_neg hc] at hr ⊢
    exact ⟨_, hr, nil⟩
theorem measRes_len (t0 t1 : Int) (cs : List Int) (ts : List Tk) (l : List Ev) : (measRes t0 t1 cs ts l).1.length ≤ ts.length := by
  unfold measRes
  split
  · split
    · rename_i ho; exact Nat.le_of_eq (outs_len ho)
    · simp
  · simp
theorem law_sp (h : AHeap) (x tr : AV) (ts : List Tk) (evs : List Ev) (hs : Sl h 6 x (ts.map tkc)) (ht : Sl h 6 tr (evs.map evc)) (t0 t1 : Int) (cs : List Int) (hl : cs.length = 24) : Ca Try.prog 3 [tbV t0 t1 cs, x, tr] h fun r _ => r = .bool true := by
  refine Ca_intro Try.func3 rfl ?_
  intro fr hn hg
  replace hn : fr.n = 102 := hn
  have h0 : fr.get 0 = some (tbV t0 t1 cs) := hg 0 (by simp)
  have h1 : fr.get 1 = some x := hg 1 (by simp)
  have h2 : fr.get 2 = some tr := hg 2 (by simp)
  clear hg
  show AW _ _ _ _ _
  simp [hn, h0]
  rw [kseq_normal, AW_seq, AW_seq, AW_region_f]
  refine OW_cut (fun fr' h' => fr'.n = 102 ∧ fr'.get 1 = some x ∧ fr'.get 2 = some tr ∧ fr'.get 3 = some (.ptr h.next 0) ∧ fr'.get 20 = some (.bool (ilt 20 ts.length || ilt 5000 evs.length)) ∧ Pres h h' ∧ h'.get h.next = .cells 24 (tbV t0 t1 cs).cells (some 0) ∧ h.next < h'.next) ?_ ?_
  · simp [hn, h1, h2, hs.len sl25]
    repeat' (first | refine Br.mk (fun hb => ?_) (fun hb => ?_) | simp [*, ht.len sl26, (Pres.refl h).new])
  rintro fr h1 ⟨hn, g1, g2, g3, g20, hp, hbx, hbb⟩
  have ht1 := ht.pres hp
  have hs1 := hs.pres hp
  clear hs ht
  generalize h.next = bb at *
  simp [hn, g20, kseq_normal, hb4]
  refine Br.mk (fun hb => ?_) (fun hb => ?_)
  · simp [hn, kseq_normal, hb4]
    refine Ca.mono (awake_sp _) ?_
    rintro r h2 ⟨rfl, rfl⟩
    simp [hn, kseq_normal]
  have hT : ts.length ≤ 1000 ∧ evs.length ≤ 5000 := by
    rw [Bool.or_eq_false_iff, ilt_false, ilt_false] at hb
    omega
  clear hb g20
  simp [hn, kseq_normal]
  refine AW_loop_fr (fun k fr' h' => ∃ i, k = evs.length - i ∧ i ≤ evs.length ∧ (∀ e ∈ evs.take i, evBad e = false) ∧ fr'.get 7 = some (.int .i64 (i : Nat)) ∧ h' = h1) evs.length
    ⟨0, by simp, by omega, by simp, by simp, rfl⟩ ?_
  rintro J hJ k fr' h' ⟨i, rfl, hi, hev, h7, rfl⟩ hfr
  have hn' : fr'.n = 102 := hfr.1.trans (by simp [hn])
  have g1' := (hfr.2 1 (by kernel_rfl)).trans (by simp; exact g1)
  have g2' := (hfr.2 2 (by kernel_rfl)).trans (by simp; exact g2)
  have g3' := (hfr.2 3 (by kernel_rfl)).trans (by simp; exact g3)
  clear hfr
  have hw := wrap_nat i (by omega)
  simp [hn', h7, g2', ht1.len sl26, kseq_normal]
  refine Br.mk (fun hb => ?_) (fun hb => ?_)
  · have hi : i < evs.length := by rw [ilt_true] at hb; omega
    obtain ⟨b, o, ha, hbn, _, hfl⟩ := ht1.at sl26 sz29 i (by simpa using hi)
    have hf0 := hfl 0 2 ag2 (by omega)
    have hf5 := hfl 5 2 ag2 (by omega)
    simp only [List.getElem_map, Nat.add_zero] at hf0 hf5
    rw [AW_region_f]
    refine OW_cut (fun fr2 h2 => fr2.n = 102 ∧ fr2.get 57 = some (.bool (evBad evs[i])) ∧ fr2.get 7 = fr'.get 7 ∧ h2 = h') ?_ ?_
    · simp [hn', h7, g2', ha, fa29_5, fa29_0, hf5]
      repeat' (first | refine Br.mk (fun hb => ?_) (fun hb => ?_) | simp [*, fa29_5, fa29_0, evBad])
    rintro fr2 h2 ⟨k0, k57, k7, rfl⟩
    rw [h7] at k7
    simp [k0, k57, kseq_normal]
    refine Br.mk (fun hc => ?_) (fun hc => ?_)
    · simp [k0, kseq_normal, hb4]
      refine Ca.mono (awake_sp _) ?_
      rintro r h2 ⟨rfl, rfl⟩
      simp [k0, kseq_normal]
    · simp [k0, k7, kseq_normal, hw]
      rw [kloop_normal]
      refine ⟨evs.length - (i + 1), by omega, hJ _ _ _ ⟨i + 1, rfl, by omega, ?_, by simp, rfl⟩⟩
      intro e he
      rw [List.take_add_one, List.mem_append] at he
      rcases he with he | he
      · exact hev e he
      · simp [List.getElem?_eq_getElem hi] at he; rw [he]; exact hc
  · have hie : i = evs.length := by rw [ilt_false] at hb; omega
    rw [hie, List.take_length] at hev
    have hev2 : ∀ e ∈ evs, 0 ≤ e.b ∧ e.b ≤ 20 := fun e he => by
      have := hev e he
      simp only [evBad, Bool.or_eq_false_iff, ilt_false] at this
      omega
    simp [hn', g1', g2', g3', kseq_normal, hbx, atCells_agg ag24 sz24, hl, hb5]
    rw [List.take_of_length_le (by simp [hl])]
    refine Ca.mono (measure_sp _ x tr ts evs hs1 hT.1 ht1 hT.2 hev2 t0 t1 cs hl) ?_
    rintro r h2 ⟨hr, hp2⟩
    obtain ⟨a, rfl, hsa⟩ := hr.res
    have hmrl := measRes_len t0 t1 cs ts evs
    generalize hmr : measRes t0 t1 cs ts evs = mr at *
    have ht2 := ht1.pres hp2
    have hs2 := hs1.pres hp2
    simp [hn', g1', g2', g3', kseq_normal, hp2.2 bb hbb, hbx, atCells_agg ag24 sz24, hl, hb7]
    rw [List.take_of_length_le (by simp [hl])]
    refine Ca.mono (from01_sp _ t0 t1 cs hl) ?_
    rintro r h3 ⟨rfl, hp3⟩
    simp [hn', g1', g2', g3', kseq_normal, hb8]
    refine Ca.mono (from43_sp _ x ts (hs2.pres hp3) hT.1) ?_
    rintro r1 h4 ⟨hr1, hp4⟩
    simp [hn', g1', g2', g3', kseq_normal, hb9]
    refine Ca.mono (from42_sp _ tr evs ((ht2.pres hp3).pres hp4) (by omega)) ?_
    rintro r2 h5 ⟨hr2, hp5⟩
    simp [hn', g1', g2', g3', kseq_normal, hb6]
    refine Ca.mono (ref_measure_sp _ r1 r2 ts evs (hr1.pres hp5) hT.1 hr2 hT.2 hev2 t0 t1 cs hl) ?_
    rintro r h6 ⟨hr6, hp6⟩
    obtain ⟨a2, rfl, hsb⟩ := hr6.res
    rw [hmr] at hsb
    have hsa6 := (((hsa.pres hp3).pres hp4).pres hp5).pres hp6
    simp [hn', kseq_normal, hmr, ieq_self, hsa6.len sl30, hsb.len sl30]
    refine AW_loop_fr (fun g fr' h' => ∃ k, g = mr.1.length - k ∧ k ≤ mr.1.length ∧ fr'.get 12 = some (.int .i64 (k : Nat)) ∧ h' = h6) mr.1.length ⟨0, by simp, by omega, by simp, rfl⟩ ?_
    clear hJ J
    rintro J hJ g fr9 h9 ⟨k, rfl, hk, h12, rfl⟩ hfr
    have m0 : fr9.n = 102 := hfr.1.trans (by simp [hn'])
    have m8 := (hfr.2 8 (by kernel_rfl)).trans (by simp; rfl)
    have m10 := (hfr.2 10 (by kernel_rfl)).trans (by simp; rfl)
    clear hfr
    have hwk := wrap_nat k (by omega)
    simp [m0, m8, h12, hsa6.len sl30, ints, kseq_normal]
    refine Br.mk (fun hc => ?_) (fun hc => ?_)
    · have hk : k < mr.1.length := by rw [ilt_true] at hc; omega
      obtain ⟨b1, o1, ha1, _, hv1⟩ := hsa6.at1 sl30 sz2 ag2 k (by simpa [ints] using hk)
      have hv1 : atCells Try.prog 2 (h9.get b1) o1 = some (.int .i64 mr.1[k]) := by simpa [ints] using hv1
      obtain ⟨b2, o2, ha2, _, hv2⟩ := hsb.at1 sl30 sz2 ag2 k (by simpa [ints] using hk)
      have hv2 : atCells Try.prog 2 (h9.get b2) o2 = some (.int .i64 mr.1[k]) := by simpa [ints] using hv2
      refine AW_region_t _ _ _ _ _ (by kernel_rfl) ?_
      simp [m0, m8, m10, h12, ha1, ha2, hv1, hv2, ieq_self, kseq_normal, hwk]
      rw [kloop_normal]
      exact ⟨mr.1.length - (k + 1), by omega, hJ _ _ _ ⟨k + 1, rfl, by omega, by simp, rfl⟩⟩
    · simp [m0, kseq_normal, hb4]
      refine Ca.mono (awake_sp _) ?_
      rintro r h2 ⟨rfl, rfl⟩
      simp [m0, kseq_normal]
end Go.Eng.L43
