/- Law 43: what turns the arguments; the programs' lengths. -/
import Derived.Test.YtcjgagkkanokjaaL43B
import Derived.Test.YtcjgagkkanokjaaE22
namespace Go.Eng.L43
open Go.Proofs Go.Eng
theorem bd35' (a b : Int) (c0 c1 c2 c3 c4 c5 c6 c7 c8 c9 c10 c11 c12 c13 c14 c15 c16 c17 c18 c19 c20 c21 c22 c23 : AV) : pbuild Try.prog 35 [(0, .int .i64 a), (1, .int .i64 b), (2, .agg [c0, c1, c2, c3, c4, c5, c6, c7, c8, c9, c10, c11, c12, c13, c14, c15, c16, c17, c18, c19, c20, c21, c22, c23])] = some (.agg [.int .i64 a, .int .i64 b, c0, c1, c2, c3, c4, c5, c6, c7, c8, c9, c10, c11, c12, c13, c14, c15, c16, c17, c18, c19, c20, c21, c22, c23]) := by kernel_rfl
theorem bd35 (a b : Int) (l : List Int) (hl : l.length = 24) : pbuild Try.prog 35 [(0, .int .i64 a), (1, .int .i64 b), (2, .agg (l.map (.int .i64)))] = some (tbV a b l) :=
  match l, hl with
  | [_, _, _, _, _, _, _, _, _, _, _, _, _, _, _, _, _, _, _, _, _, _, _, _], _ => bd35' a b _ _ _ _ _ _ _ _ _ _ _ _ _ _ _ _ _ _ _ _ _ _ _ _
theorem pal35 : pal Try.prog 35 = some (35, .int .i64 0 :: .int .i64 0 :: List.replicate 24 (.int .i64 0), .ptr) := by kernel_rfl
theorem from01_sp (h : AHeap) (t0 t1 : Int) (cs : List Int) (hl : cs.length = 24) : Ca Try.prog 7 [tbV t0 t1 cs] h fun r h' => r = tbV t0 t1 cs ∧ Pres h h' := by
  refine Ca_intro Try.func7 rfl ?_
  intro fr hn hg
  replace hn : fr.n = 10 := hn
  have h0 : fr.get 0 = some (tbV t0 t1 cs) := hg 0 (by simp)
  clear hg
  show AW _ _ _ _ _
  simp [hn, h0, kseq_normal, pal35, fa24_0, fa24_1, fa24_2, atCells_one ag2, atCells_agg ag22 sz22, hl]
  rw [List.take_of_length_le (by simp [hl])]
  simp [bd35 _ _ _ hl, stc_all sz35, tbV, hn, kseq_normal, hl, atCells_agg ag35 sz35, ((Pres.refl h).new _).new _]
  rw [List.take_of_length_le (by simp [hl])]
  exact ⟨rfl, (((Pres.refl h).new _).new _).set (by simp) _⟩
theorem bs37 (x : Tk) : pbs Try.prog 37 1 [(0, .agg (tkc x))] = some (53, tkc x, .sl 1 1) := by kernel_rfl
theorem from43_sp (h : AHeap) (x : AV) (ts : List Tk) (hs : Sl h 6 x (ts.map tkc)) (hlen : ts.length ≤ 1000) : Ca Try.prog 8 [x] h fun r h' => Sl h' 6 r (ts.map tkc) ∧ Pres h h' := by
  refine Ca_intro Try.func8 rfl ?_
  intro fr hn hg
  replace hn : fr.n = 19 := hn
  have h0 : fr.get 0 = some x := hg 0 (by simp)
  clear hg
  show AW _ _ _ _ _
  simp [hn, h0, kseq_normal]
  refine AW_loop (fun k fr' h' => ∃ i y, k = ts.length - i ∧ i ≤ ts.length ∧ Gr h' 53 6 h.next y ((ts.take i).map tkc) ∧ fr'.n = 19 ∧ fr'.get 0 = some x ∧ fr'.get 3 = some y ∧ fr'.get 4 = some (.int .i64 i) ∧ Pres h h') ts.length ⟨0, .nilsl, by simp, by simp, Gr.nil _ _ _ _, by simp [hn], by simp [h0], by simp, by simp, Pres.refl h⟩ ?_
  rintro k fr h1 ⟨i, y, rfl, hi, hgr, hn, h0, h3, h4, hp⟩
  have hs1 := hs.pres hp
  simp [hn, h0, h4, kseq_normal, hs1.len sl25]
  refine Br.mk (fun hb => ?_) (fun hb => ?_)
  · have hi : i < ts.length := by rw [ilt_true] at hb; omega
    obtain ⟨b, o, ha, hbn, hag, _⟩ := hs1.at sl25 sz44 i (by simpa using hi)
    have hag := hag ag44
    simp only [List.getElem_map] at hag
    simp [hn, kseq_normal, h0, h3, h4, ha, hag, bs37]
    have hg2 := hgr.pres ((Pres.refl h1).new (.cells 53 (tkc ts[i]) (some 0)))
    obtain ⟨y', h2, ho, hg3, hn2, hk, _⟩ := hg2.append sl37 sz53 by53 z53 rfl (by omega) (b2 := h1.next) (a := tkc ts[i]) (by rw [AHeap.get_new, if_pos rfl]) rfl (by simp; have := hp.1; omega) (by simp; omega) (by simp; omega)
    rw [ho]
    have hp2 : Pres h h2 := ⟨by have := hp.1; simp at hn2; omega, fun c hc => by
      rw [hk c (by simp; have := hp.1; omega) (fun hbk => by have := hgr.blk hbk; omega), AHeap.get_new, if_neg (by have := hp.1; omega), hp.2 c hc]⟩
    simp [kloop_normal, hn, kseq_normal, h0, h3, h4]
    refine ⟨ts.length - (i + 1), by omega, i + 1, rfl, by omega, y', ?_, rfl, wrap_nat i (by omega), hp2⟩
    rw [List.take_add_one, List.getElem?_eq_getElem (by simpa using hi)]
    simpa [List.map_take] using hg3
  · have : i = ts.length := by rw [ilt_false] at hb; omega
    subst this
    rw [List.take_length] at hgr
    simp [hn, kseq_normal, h3, hp, hgr.sl]
structure Ev where
  (tm kind pr th a b : Int)
abbrev evc (x : Ev) : List AV := [.int .i64 x.tm, .int .i64 x.kind, .int .i64 x.pr, .int .i64 x.th, .int .i64 x.a, .int .i64 x.b]
theorem bs39 (x : Ev) : pbs Try.prog 39 1 [(0, .agg (evc x))] = some (54, evc x, .sl 1 1) := by kernel_rfl
theorem from42_sp (h : AHeap) (x : AV) (ts : List Ev) (hs : Sl h 6 x (ts.map evc)) (hlen : ts.length ≤ 100000) : Ca Try.prog 9 [x] h fun r h' => Sl h' 6 r (ts.map evc) ∧ Pres h h' := by
  refine Ca_intro Try.func9 rfl ?_
  intro fr hn hg
  replace hn : fr.n = 19 := hn
  have h0 : fr.get 0 = some x := hg 0 (by simp)
  clear hg
  show AW _ _ _ _ _
  simp [hn, h0, kseq_normal]
  refine AW_loop (fun k fr' h' => ∃ i y, k = ts.length - i ∧ i ≤ ts.length ∧ Gr h' 54 6 h.next y ((ts.take i).map evc) ∧ fr'.n = 19 ∧ fr'.get 0 = some x ∧ fr'.get 3 = some y ∧ fr'.get 4 = some (.int .i64 i) ∧ Pres h h') ts.length ⟨0, .nilsl, by simp, by simp, Gr.nil _ _ _ _, by simp [hn], by simp [h0], by simp, by simp, Pres.refl h⟩ ?_
  rintro k fr h1 ⟨i, y, rfl, hi, hgr, hn, h0, h3, h4, hp⟩
  have hs1 := hs.pres hp
  simp [hn, h0, h4, kseq_normal, hs1.len sl26]
  refine Br.mk (fun hb => ?_) (fun hb => ?_)
  · have hi : i < ts.length := by rw [ilt_true] at hb; omega
    obtain ⟨b, o, ha, hbn, hag, _⟩ := hs1.at sl26 sz29 i (by simpa using hi)
    have hag := hag ag29
    simp only [List.getElem_map] at hag
    simp [hn, kseq_normal, h0, h3, h4, ha, hag, bs39]
    have hg2 := hgr.pres ((Pres.refl h1).new (.cells 54 (evc ts[i]) (some 0)))
    obtain ⟨y', h2, ho, hg3, hn2, hk, _⟩ := hg2.append sl39 sz54 by54 z54 rfl (by omega) (b2 := h1.next) (a := evc ts[i]) (by rw [AHeap.get_new, if_pos rfl]) rfl (by simp; have := hp.1; omega) (by simp; omega) (by simp; omega)
    rw [ho]
    have hp2 : Pres h h2 := ⟨by have := hp.1; simp at hn2; omega, fun c hc => by
      rw [hk c (by simp; have := hp.1; omega) (fun hbk => by have := hgr.blk hbk; omega), AHeap.get_new, if_neg (by have := hp.1; omega), hp.2 c hc]⟩
    simp [kloop_normal, hn, kseq_normal, h0, h3, h4]
    refine ⟨ts.length - (i + 1), by omega, i + 1, rfl, by omega, y', ?_, rfl, wrap_nat i (by omega), hp2⟩
    rw [List.take_add_one, List.getElem?_eq_getElem (by simpa using hi)]
    simpa [List.map_take] using hg3
  · have : i = ts.length := by rw [ilt_false] at hb; omega
    subst this
    rw [List.take_length] at hgr
    simp [hn, kseq_normal, h3, hp, hgr.sl]
theorem bd67_4 (a b c d : Int) : pbuild Try.prog 67 [(0, .int .i64 a), (1, .int .i64 b), (2, .int .i64 c), (3, .int .i64 d)] = some (.agg [.int .i64 a, .int .i64 b, .int .i64 c, .int .i64 d, .int .i64 0, .nilsl, .nilsl]) := by kernel_rfl
theorem bd67_2 (a b : Int) : pbuild Try.prog 67 [(0, .int .i64 a), (1, .int .i64 b)] = some (.agg [.int .i64 a, .int .i64 b, .int .i64 0, .int .i64 0, .int .i64 0, .nilsl, .nilsl]) := by kernel_rfl
theorem bd67_1 (a : Int) : pbuild Try.prog 67 [(0, .int .i64 a)] = some (.agg [.int .i64 a, .int .i64 0, .int .i64 0, .int .i64 0, .int .i64 0, .nilsl, .nilsl]) := by kernel_rfl
theorem bd70_4 (a b c d : Int) : pbuild Try.prog 70 [(0, .int .i64 a), (1, .int .i64 b), (2, .int .i64 c), (3, .int .i64 d)] = some (.agg [.int .i64 a, .int .i64 b, .int .i64 c, .int .i64 d, .int .i64 0, .nilsl, .nilsl]) := by kernel_rfl
theorem bd70_2 (a b : Int) : pbuild Try.prog 70 [(0, .int .i64 a), (1, .int .i64 b)] = some (.agg [.int .i64 a, .int .i64 b, .int .i64 0, .int .i64 0, .int .i64 0, .nilsl, .nilsl]) := by kernel_rfl
theorem bd70_1 (a : Int) : pbuild Try.prog 70 [(0, .int .i64 a)] = some (.agg [.int .i64 a, .int .i64 0, .int .i64 0, .int .i64 0, .int .i64 0, .nilsl, .nilsl]) := by kernel_rfl
theorem bs48_2 (a0 a1 a2 a3 a4 b0 b1 b2 b3 b4 : Int) : pbs Try.prog 48 2 [(0, .agg [.int .i64 a0, .int .i64 a1, .int .i64 a2, .int .i64 a3, .int .i64 a4, .nilsl, .nilsl]), (1, .agg [.int .i64 b0, .int .i64 b1, .int .i64 b2, .int .i64 b3, .int .i64 b4, .nilsl, .nilsl])] = some (67, [.int .i64 a0, .int .i64 a1, .int .i64 a2, .int .i64 a3, .int .i64 a4, .nilsl, .nilsl, .int .i64 b0, .int .i64 b1, .int .i64 b2, .int .i64 b3, .int .i64 b4, .nilsl, .nilsl], .sl 2 2) := by kernel_rfl
theorem bs48_3 (a0 a1 a2 a3 a4 b0 b1 b2 b3 b4 c0 c1 c2 c3 c4 : Int) : pbs Try.prog 48 3 [(0, .agg [.int .i64 a0, .int .i64 a1, .int .i64 a2, .int .i64 a3, .int .i64 a4, .nilsl, .nilsl]), (1, .agg [.int .i64 b0, .int .i64 b1, .int .i64 b2, .int .i64 b3, .int .i64 b4, .nilsl, .nilsl]), (2, .agg [.int .i64 c0, .int .i64 c1, .int .i64 c2, .int .i64 c3, .int .i64 c4, .nilsl, .nilsl])] = some (67, [.int .i64 a0, .int .i64 a1, .int .i64 a2, .int .i64 a3, .int .i64 a4, .nilsl, .nilsl, .int .i64 b0, .int .i64 b1, .int .i64 b2, .int .i64 b3, .int .i64 b4, .nilsl, .nilsl, .int .i64 c0, .int .i64 c1, .int .i64 c2, .int .i64 c3, .int .i64 c4, .nilsl, .nilsl], .sl 3 3) := by kernel_rfl
theorem bs51_2 (a0 a1 a2 a3 a4 b0 b1 b2 b3 b4 : Int) : pbs Try.prog 51 2 [(0, .agg [.int .i64 a0, .int .i64 a1, .int .i64 a2, .int .i64 a3, .int .i64 a4, .nilsl, .nilsl]), (1, .agg [.int .i64 b0, .int .i64 b1, .int .i64 b2, .int .i64 b3, .int .i64 b4, .nilsl, .nilsl])] = some (70, [.int .i64 a0, .int .i64 a1, .int .i64 a2, .int .i64 a3, .int .i64 a4, .nilsl, .nilsl, .int .i64 b0, .int .i64 b1, .int .i64 b2, .int .i64 b3, .int .i64 b4, .nilsl, .nilsl], .sl 2 2) := by kernel_rfl
theorem bs51_3 (a0 a1 a2 a3 a4 b0 b1 b2 b3 b4 c0 c1 c2 c3 c4 : Int) : pbs Try.prog 51 3 [(0, .agg [.int .i64 a0, .int .i64 a1, .int .i64 a2, .int .i64 a3, .int .i64 a4, .nilsl, .nilsl]), (1, .agg [.int .i64 b0, .int .i64 b1, .int .i64 b2, .int .i64 b3, .int .i64 b4, .nilsl, .nilsl]), (2, .agg [.int .i64 c0, .int .i64 c1, .int .i64 c2, .int .i64 c3, .int .i64 c4, .nilsl, .nilsl])] = some (70, [.int .i64 a0, .int .i64 a1, .int .i64 a2, .int .i64 a3, .int .i64 a4, .nilsl, .nilsl, .int .i64 b0, .int .i64 b1, .int .i64 b2, .int .i64 b3, .int .i64 b4, .nilsl, .nilsl, .int .i64 c0, .int .i64 c1, .int .i64 c2, .int .i64 c3, .int .i64 c4, .nilsl, .nilsl], .sl 3 3) := by kernel_rfl

def pln (x : Tk) : Nat := if ilt 0 x.cr then 7 else 4
theorem program_sp (h : AHeap) (i : Int) (x : Tk) : Ca Try.prog 13 [.int .i64 i, .agg (tkc x)] h fun r h' => plen Try.prog 48 r = some (.int .i64 (pln x : Nat)) ∧ Pres h h' := by
  refine Ca_intro Try.func13 rfl ?_
  intro fr hn hg
  replace hn : fr.n = 36 := hn
  have h0 : fr.get 0 = some (.int .i64 i) := hg 0 (by simp)
  have h1 : fr.get 1 = some (.agg (tkc x)) := hg 1 (by simp)
  clear hg
  show AW _ _ _ _ _
  simp [hn, h0, h1, kseq_normal, fa44_3, fa44_1, fa44_5, atCells_one ag2, bd67_4, bd67_2, bs48_2]
  refine Br.mk (fun hb => ?_) (fun hb => ?_)
  · simp [hn, kseq_normal, fa44_5, fa44_4, atCells_one ag2, bd67_1, bd67_2, bs48_3, bs48_2, aappend, srcCells, sl48, sz67, by67, z67, agrow, plen, pln, hb]
    refine Pres.new (Pres.set (((((Pres.refl h).new _).new _).new _).new _ |>.new _) ?_ _) _
    omega
  · simp [hn, kseq_normal, fa44_5, fa44_4, atCells_one ag2, bd67_1, bd67_2, bs48_3, bs48_2, aappend, srcCells, sl48, sz67, by67, z67, agrow, plen, pln, hb]
    exact ((((Pres.refl h).new _).new _).new _).new _
theorem ref_program_sp (h : AHeap) (i : Int) (x : Tk) : Ca Try.prog 15 [.agg (tkc x), .int .i64 i] h fun r h' => plen Try.prog 51 r = some (.int .i64 (pln x : Nat)) ∧ Pres h h' := by
  refine Ca_intro Try.func15 rfl ?_
  intro fr hn hg
  replace hn : fr.n = 36 := hn
  have h0 : fr.get 1 = some (.int .i64 i) := hg 1 (by simp)
  have h1 : fr.get 0 = some (.agg (tkc x)) := hg 0 (by simp)
  clear hg
  show AW _ _ _ _ _
  simp [hn, h0, h1, kseq_normal, fa53_3, fa53_1, fa53_5, atCells_one ag2, bd70_4, bd70_2, bs51_2]
  refine Br.mk (fun hb => ?_) (fun hb => ?_)
  · simp [hn, kseq_normal, fa53_5, fa53_4, atCells_one ag2, bd70_1, bd70_2, bs51_3, bs51_2, aappend, srcCells, sl51, sz70, by70, z70, agrow, plen, pln, hb]
    refine Pres.new (Pres.set (((((Pres.refl h).new _).new _).new _).new _ |>.new _) ?_ _) _
    omega
  · simp [hn, kseq_normal, fa53_5, fa53_4, atCells_one ag2, bd70_1, bd70_2, bs51_3, bs51_2, aappend, srcCells, sl51, sz70, by70, z70, agrow, plen, pln, hb]
    exact ((((Pres.refl h).new _).new _).new _).new _
end Go.Eng.L43
