/- Law 41: the law's function. -/
import Derived.Test.YtcjgagkkanokjacGreatDoorB9
import Derived.Test.YtcjgagkkanokjacGreatDoorA42
namespace Go.Eng.L41
open Go.Proofs Go.Eng
@[simp] theorem new_glob (h : AHeap) (o : AObj) : (h.new o).glob = h.glob := rfl
@[simp] theorem set_glob (h : AHeap) (b : Nat) (o : AObj) : (h.set b o).glob = h.glob := rfl
theorem Ca.nx {P : Program} [Orc] {f : FuncId} {args : List AV} {h : AHeap} {K : AV → AHeap → Prop} (hc : Ca P f args h K) : Ca P f args h fun r h' => K r h' ∧ h'.glob = h.glob := by
  unfold Ca at *
  obtain ⟨n, r, h', h1, h2⟩ := hc
  exact ⟨n, r, h', h1, h2, (acall_nx n _ _ _ _ _ h1).2⟩
/-- The variables lie in the heap, below its end. -/
def LaidB (h : AHeap) : Prop := 10 ≤ h.next ∧ 10 ≤ h.glob ∧ ∃ b1 b2 t1 t2 t3, b1 < h.next ∧ b2 < h.next ∧ h.get 1 = .cells t1 [.sl b1 0 0 8 (.at_ 8)] none ∧ h.get 2 = .cells t2 [.map b2] none ∧ h.get b1 = .cells t3 opsL none ∧ h.get b2 = .map behL 4 false
theorem LaidB.laid {h : AHeap} (hl : LaidB h) : Laid h := by
  obtain ⟨_, g, b1, b2, t1, t2, t3, _, _, r⟩ := hl
  exact ⟨g, b1, b2, t1, t2, t3, r⟩
theorem LaidB.pres {h h' : AHeap} (hl : LaidB h) (hp : Pres h h') (hg : h'.glob = h.glob) : LaidB h' := by
  obtain ⟨n, g, b1, b2, t1, t2, t3, l1, l2, r1, r2, r3, r4⟩ := hl
  have := hp.1
  exact ⟨by omega, by omega, b1, b2, t1, t2, t3, by omega, by omega, (hp.2 _ (by omega)).trans r1, (hp.2 _ (by omega)).trans r2, (hp.2 _ l1).trans r3, (hp.2 _ l2).trans r4⟩
/-- What the program sums up. -/
def sumL (V : List Prt) : Int := V.foldl (fun a p => IntKind.i64.wrap (a + (p.2.length : Int))) 0
theorem sumL_take {W : List Prt} {i : Nat} (hi : i < W.length) : sumL (W.take (i + 1)) = IntKind.i64.wrap (sumL (W.take i) + (W[i].2.length : Int)) := by
  unfold sumL
  rw [List.take_add_one, List.getElem?_eq_getElem hi, List.foldl_append]; rfl
theorem sumL_eq : ∀ (V : List Prt) (a : Int), 0 ≤ a → a + 140737488355328 * V.length < 9223372036854775808 → (∀ p ∈ V, (p.2.length : Int) ≤ 140737488355328) → V.foldl (fun a p => IntKind.i64.wrap (a + (p.2.length : Int))) a = a + ((V.map fun p => (p.2.length : Int)).sum)
  | [], a, _, _, _ => by simp
  | p :: V, a, h0, h1, h2 => by
    have hp := h2 p (by simp)
    have e : IntKind.i64.wrap (a + (p.2.length : Int)) = a + (p.2.length : Int) := wrap_in (by simp at h1; omega)
    simp only [List.foldl_cons, List.map_cons, List.sum_cons, e]
    rw [sumL_eq V _ (by omega) (by simp at h1; omega) fun q hq => h2 q (by simp [hq])]
    omega
theorem sum_ge : ∀ (V : List Prt) (p : Prt), p ∈ V → (p.2.length : Int) ≤ (V.map fun p => (p.2.length : Int)).sum
  | q :: V, p, hp => by
    have h0 : ∀ V : List Prt, 0 ≤ (V.map fun p => (p.2.length : Int)).sum := by
      intro V
      induction V with
      | nil => simp
      | cons q V ih => simp only [List.map_cons, List.sum_cons]; omega
    simp only [List.map_cons, List.sum_cons]
    rcases List.mem_cons.1 hp with rfl | hp
    · have := h0 V; omega
    · have := sum_ge V p hp; omega
theorem sum_small (W : List Prt) (hW : W.length ≤ 12) (ht : ∀ p ∈ W, (p.2.length : Int) ≤ 140737488355328) (hs : sumL W ≤ 40) : ∀ p ∈ W, p.2.length ≤ 40 := by
  intro p hp
  have := sumL_eq W 0 (by omega) (by omega) ht
  have h2 := sum_ge W p hp
  unfold sumL at hs
  omega
@[simp] theorem pc_take (p : Prt) : List.take 2 (pc p) = pc p := rfl
theorem pbs30 (p : Prt) : pbs Tryz.prog 30 1 [(0, .agg (pc p))] = some (31, pc p, .sl 1 1) := by
  obtain ⟨k, s⟩ := p
  kernel_rfl
theorem app30 {h : AHeap} {y : AV} {l : List Prt} {p : Prt} (hg : Gf h 31 2 y (l.map pc)) (hl : l.length ≤ 100000) {b : Nat} (hc : h.get b = .cells 31 (pc p) (some 0)) :
    ∃ y' h', aappend Tryz.prog h [30, 30] [y, .sl b 0 0 1 (.at_ 1)] = some (y', h') ∧ Gf h' 31 2 y' ((l ++ [p]).map pc) ∧ Grown h y h' y' := by
  have hsrc : srcCells Tryz.prog h 30 (.sl b 0 0 1 (.at_ 1)) 2 = some (([pc p] : List (List AV)).length, ([pc p] : List (List AV)).flatten) := by
    simp [srcCells, sl30, hc, pc]
  obtain ⟨y', h', h1, h2, h3⟩ := hg.append sl30 sz31 by31 z31 rfl (by omega) hsrc (fun a ha => by simp at ha; subst ha; rfl) (by simp; omega) (by simp; omega)
  exact ⟨y', h', h1, by simpa using h2, h3⟩
variable [O41]
theorem law_sp (aw : ∀ h, Laid h → Ca Tryz.prog 6 [] h fun r h' => r = .bool true ∧ h' = h) (h : AHeap) (x : AV) (W : List Prt) (name : List UInt8) (hw : Wd h x W) (hW : W.length < 9223372036854775807) (hlaid : LaidB h)
    (hname : name.length < 9223372036854775807) (htext : ∀ p ∈ W, (p.2.length : Int) ≤ 140737488355328) (plain : W.length ≤ 12 → name.length ≤ 60 → (∀ p ∈ W, p.2.length ≤ 40) → W.any oddP = false → (matched W name ↔ kOk W ∧ fitsL (elsOf W) name true = true)) :
    Ca Tryz.prog 3 [x, .str name] h fun r _ => r = .bool true := by
  refine ci Tryz.func3 rfl (by decide) ?_
  intro fr hn hg
  replace hn : fr.n = 82 := hn
  have h0 : fr.get 0 = some x := hg 0 (by simp)
  have h1 : fr.get 1 = some (.str name) := hg 1 (by simp)
  clear hg
  show AW _ _ _ _ _
  simp [hn, h0, h1, hw.len23, kseq_normal]
  refine AW_loop_fr (fun m fr' h' => ∃ i, m = W.length - i ∧ i ≤ W.length ∧ fr'.get 15 = some (.int .i64 (i : Nat)) ∧ fr'.get 5 = some (.int .i64 (sumL (W.take i))) ∧ Pres h h' ∧ h'.glob = h.glob) W.length
    ⟨0, by simp, by omega, by simp, by simp [sumL], Pres.refl h, rfl⟩ ?_
  rintro J hJ m fr' h' ⟨i, rfl, hi, h15, h5, hp, hgl⟩ hfr
  have hn' : fr'.n = 82 := hfr.1.trans (by simp [hn])
  have h0' : fr'.get 0 = some x := (hfr.2 0 (by kernel_rfl)).trans (by simp [h0])
  have h1' : fr'.get 1 = some (.str name) := (hfr.2 1 (by kernel_rfl)).trans (by simp [h1])
  have h13' : fr'.get 13 = some x := (hfr.2 13 (by kernel_rfl)).trans (by simp [hn, h0])
  have h14' : fr'.get 14 = some (.int .i64 (W.length : Int)) := (hfr.2 14 (by kernel_rfl)).trans (by simp)
  clear hfr
  simp [hn', h14', h15, kseq_normal]
  refine Br.mk (fun hb => ?_) (fun hb => ?_)
  · have hi : i < W.length := by rw [ilt_true] at hb; omega
    obtain ⟨b, o, e1, e2⟩ := (hw.pres hp).at23 i hi
    obtain ⟨p, hpi⟩ : ∃ p, p = W[i] := ⟨_, rfl⟩
    rw [← hpi] at e2
    obtain ⟨h2, eh2⟩ : ∃ h2, h2 = (h'.new (.cells 25 [.int .i64 0, .str []] (some 0))).set h'.next (.cells 25 (pc p) (some 0)) := ⟨_, rfl⟩
    have hp2 : Pres h' h2 := by rw [eh2]; exact ((Pres.refl h').new _).set (Nat.le_refl _) _
    have hg2 : h2.get h'.next = .cells 25 (pc p) (some 0) := by rw [eh2]; simp
    have hgl2 : h2.glob = h'.glob := by rw [eh2]; rfl
    simp [hn', h13', h14', h15, h5, e1, e2, kseq_normal, ← eh2, hg2, wrap_nat i (by omega)]
    rw [kloop_normal]
    exact ⟨W.length - (i + 1), by omega, hJ _ _ _ ⟨i + 1, rfl, by omega, by simp, by simp [sumL_take hi, ← hpi], hp.trans hp2, hgl2.trans hgl⟩⟩
  have hiW : i = W.length := by rw [ilt_false] at hb; omega
  subst hiW
  rw [List.take_length] at h5
  clear hJ J
  simp [hn', h0', kseq_normal]
  refine Ca.mono (Ca.nx (contains_sp h' x W (hw.pres hp) hW)) ?_
  rintro r h2 ⟨⟨rfl, hp2⟩, hgl2⟩
  have hp3 := hp.trans hp2
  have hl2 : LaidB h2 := hlaid.pres hp3 (hgl2.trans hgl)
  have awake := aw h2 hl2.laid
  obtain ⟨odd, hodd⟩ : ∃ odd, odd = W.any oddP := ⟨_, rfl⟩
  rw [← hodd]
  simp [hn', h0', h1', h5, hw.len23, kseq_normal]
  cases c1 : ilt 12 (W.length : Int) with
  | true =>
    simp [hn', h0', h1', h5, hw.len23, c1, kseq_normal]
    refine Ca.mono awake ?_
    rintro r h3 ⟨rfl, rfl⟩
    simp [hn', kseq_normal]
  | false =>
  cases c2 : ilt 40 (sumL W) with
  | true =>
    simp [hn', h0', h1', h5, hw.len23, c1, c2, kseq_normal]
    refine Ca.mono awake ?_
    rintro r h3 ⟨rfl, rfl⟩
    simp [hn', kseq_normal]
  | false =>
  cases c3 : ilt 60 (name.length : Int) with
  | true =>
    simp [hn', h0', h1', h5, hw.len23, c1, c2, c3, kseq_normal]
    refine Ca.mono awake ?_
    rintro r h3 ⟨rfl, rfl⟩
    simp [hn', kseq_normal]
  | false =>
  cases c4 : odd with
  | true =>
    simp [hn', h0', h1', h5, hw.len23, c1, c2, c3, c4, kseq_normal]
    refine Ca.mono awake ?_
    rintro r h3 ⟨rfl, rfl⟩
    simp [hn', kseq_normal]
  | false =>
    rw [c4] at hodd
    have hW12 : W.length ≤ 12 := by rw [ilt_false] at c1; omega
    have hn60 : name.length ≤ 60 := by rw [ilt_false] at c3; omega
    have ht40 : ∀ p ∈ W, p.2.length ≤ 40 := sum_small W hW12 htext (by rw [ilt_false] at c2; exact c2)
    simp [hn', h0', h1', h5, hw.len23, c1, c2, c3, c4, kseq_normal]
    refine Ca.mono awake ?_
    rintro r h3 ⟨rfl, rfl⟩
    simp [hn', h0', hw.len23, kseq_normal]
    refine AW_loop_fr (fun m fr2 h4 => ∃ i y v, m = W.length - i ∧ i ≤ W.length ∧ fr2.get 49 = some (.int .i64 (i : Nat)) ∧ fr2.get 10 = some y ∧ fr2.get 9 = some (.int .i64 v) ∧ Gf h4 31 2 y ((W.take i).map pc) ∧ Fresh h3 y ∧ Pres h3 h4) W.length
      ⟨0, .nilsl, 0, by simp, by omega, by simp, by simp, by simp [hn'], by simpa using Gf.nil _ _ _, fun b hb => by simp [blk] at hb, Pres.refl h3⟩ ?_
    rintro J hJ m fr2 h4 ⟨i, y, v, rfl, hi, h49, h10, h9, hgf, hfy, hp4⟩ hfr
    have hn2 : fr2.n = 82 := hfr.1.trans (by simp [hn'])
    have m0 : fr2.get 0 = some x := (hfr.2 0 (by kernel_rfl)).trans (by simp [h0'])
    have m1 : fr2.get 1 = some (.str name) := (hfr.2 1 (by kernel_rfl)).trans (by simp [h1'])
    have m47 : fr2.get 47 = some x := (hfr.2 47 (by kernel_rfl)).trans (by simp [h0'])
    have m48 : fr2.get 48 = some (.int .i64 (W.length : Int)) := (hfr.2 48 (by kernel_rfl)).trans (by simp)
    clear hfr
    simp [hn2, m48, h49, kseq_normal]
    refine Br.mk (fun hb => ?_) (fun hb => ?_)
    · have hi : i < W.length := by rw [ilt_true] at hb; omega
      obtain ⟨b, o, e1, e2⟩ := (hw.pres (hp3.trans hp4)).at23 i hi
      obtain ⟨p, hpi⟩ : ∃ p, p = W[i] := ⟨_, rfl⟩
      rw [← hpi] at e2
      obtain ⟨h5', eh5⟩ : ∃ h5', h5' = (h4.new (.cells 25 [.int .i64 0, .str []] (some 0))).set h4.next (.cells 25 (pc p) (some 0)) := ⟨_, rfl⟩
      have hp5 : Pres h4 h5' := by rw [eh5]; exact ((Pres.refl h4).new _).set (Nat.le_refl _) _
      have hg5 : h5'.get h4.next = .cells 25 (pc p) (some 0) := by rw [eh5]; simp
      have hnx5 : h5'.next = h4.next + 1 := by rw [eh5]; simp
      obtain ⟨y6, h6, a1, a2, a3⟩ := app30 (h := h5'.new (.cells 31 (pc p) (some 0))) (y := y) (l := W.take i) (p := p) (hgf.pres (hp5.new _)) (by rw [List.length_take]; omega) (b := h5'.next) (by simp)
      obtain ⟨b1, b2⟩ := Pres.grown ((hp4.trans hp5).new (.cells 31 (pc p) (some 0))) hfy a3
      have htk : W.take i ++ [p] = W.take (i + 1) := by rw [List.take_add_one, List.getElem?_eq_getElem hi, ← hpi]; rfl
      rw [htk] at a2
      have hg6 : h6.get h4.next = .cells 25 (pc p) (some 0) := by
        rw [a3.keep _ (by simp; omega) (fun e => ?_), AHeap.get_new, if_neg (by omega), hg5]
        have := hgf.blk_lt e
        omega
      have fin : ∀ (fr6 : AFrame) (v' : Int), fr6.get 49 = some (.int .i64 ((i + 1 : Nat) : Int)) → fr6.get 10 = some y6 → fr6.get 9 = some (.int .i64 v') → ∃ j, j < W.length - i ∧ J j fr6 h6 := fun fr6 v' g1 g2 g3 =>
        ⟨W.length - (i + 1), by omega, hJ _ _ _ ⟨i + 1, y6, v', rfl, by omega, g1, g2, g3, a2, b2, b1⟩⟩
      simp [hn2, m47, m48, h49, h10, h9, e1, e2, kseq_normal, ← eh5, hg5, pbs30, a1, hg6]
      refine Br.mk (fun hk => ?_) (fun hk => ?_)
      · simp [hn2, h49, h9, hg6, kseq_normal]
        refine Ca.mono (count_sp h6 p.2 42) ?_
        rintro r h7 ⟨⟨k, rfl⟩, rfl⟩
        simp [hn2, h49, h9, kseq_normal, wrap_nat i (by omega)]
        rw [kloop_normal]
        exact fin _ _ (by simp) (by simp) (by simp; rfl)
      · simp [hn2, h49, h9, kseq_normal, wrap_nat i (by omega)]
        rw [kloop_normal]
        exact fin _ v (by simp) (by simp) (by simp [h9])
    · have hiW : i = W.length := by rw [ilt_false] at hb; omega
      subst hiW
      rw [List.take_length] at hgf
      clear hJ J
      have hx4 := hw.pres (hp3.trans hp4)
      have hy4 : Wd h4 y W := hgf.sl
      have both : ∀ (b1 b2 : Bool), (b1 = true ↔ matched W name) → (b2 = true ↔ kOk W ∧ fitsL (elsOf W) name true = true) → (b1 == b2) = true := by
        intro b1 b2 k1 k2
        have := plain hW12 hn60 ht40 hodd.symm
        rw [beq_iff_eq, Bool.eq_iff_iff, k1, k2, this]
      simp [hn2, m0, m1, h9, h10, kseq_normal]
      cases d1 : ilt 5 v with
      | false =>
        simp [hn2, m0, m1, h9, h10, d1, kseq_normal]
        refine Ca.mono (match_sp h4 x W name hx4 hn60 hW12) ?_
        rintro r h5 ⟨hp5, b1, rfl, k1⟩
        simp [hn2, m0, m1, h9, h10, d1, kseq_normal]
        refine Ca.mono (rmatch_sp h5 y W name (hy4.pres hp5) hn60 hW12 ht40) ?_
        rintro r h6 ⟨hp6, b2, rfl, k2⟩
        have := both b1 b2 k1 k2
        simp [hn2, d1, kseq_normal, eqb4, this]
        try simpa using this
      | true =>
      cases d2 : ilt 8 (name.length : Int) with
      | true =>
        simp [hn2, m0, m1, h9, h10, d1, d2, kseq_normal]
      | false =>
        simp [hn2, m0, m1, h9, h10, d1, d2, kseq_normal]
        refine Ca.mono (match_sp h4 x W name hx4 hn60 hW12) ?_
        rintro r h5 ⟨hp5, b1, rfl, k1⟩
        simp [hn2, m0, m1, h9, h10, d1, d2, kseq_normal]
        refine Ca.mono (rmatch_sp h5 y W name (hy4.pres hp5) hn60 hW12 ht40) ?_
        rintro r h6 ⟨hp6, b2, rfl, k2⟩
        have := both b1 b2 k1 k2
        simp [hn2, d1, d2, kseq_normal, eqb4, this]
        try simpa using this
end Go.Eng.L41
