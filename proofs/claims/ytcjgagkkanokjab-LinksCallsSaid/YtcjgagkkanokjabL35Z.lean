/- Law 35: slices.Equal, slices.EqualFunc. -/
import Derived.Test.YtcjgagkkanokjabL35X
import Derived.Test.YtcjgagkkanokjabE29
namespace Go.Eng.L35
open Go.Proofs Go.Eng
variable [O35]
/-- Equal bytes are found equal. -/
theorem equal_sp {h : AHeap} {x y : AV} {bs : List UInt8} (hx : Bs h x bs) (hy : Bs h y bs) (hl : bs.length ≤ 100000000) : Ca Try.prog 22 [x, y] h fun r h' => r = .bool true ∧ h' = h := by
  refine ci Try.func22 rfl (by decide) ?_
  intro fr hn hg
  replace hn : fr.n = 26 := hn
  have h0 : fr.get 0 = some x := hg 0 (by simp)
  have h1 : fr.get 1 = some y := hg 1 (by simp)
  clear hg
  show AW _ _ _ _ _
  have hxl := hx.len
  have hyl := hy.len
  have he : ieq (bs.length : Int) (bs.length : Int) = true := ieq_true.2 rfl
  simp [hn, h0, h1, hxl, hyl, he, kseq_normal]
  refine AW_cut_x 0 (fun fr' h' => h' = h) ?_ ?_
  · refine AW_loop_fr (fun m fr' h' => ∃ k, m = bs.length - k ∧ k ≤ bs.length ∧ fr'.get 13 = some (i64 (k : Nat)) ∧ h' = h) bs.length ⟨0, by simp, by omega, by simp, rfl⟩ ?_
    rintro J hJ m fr' h' ⟨k, rfl, hk, h13, rfl⟩ hfr
    have hn' : fr'.n = 26 := hfr.1.trans (by simp [hn])
    have h0' : fr'.get 0 = some x := (hfr.2 0 (by kernel_rfl)).trans (by simp [h0])
    have h1' : fr'.get 1 = some y := (hfr.2 1 (by kernel_rfl)).trans (by simp [h1])
    have h12 : fr'.get 12 = some (i64 (bs.length : Int)) := (hfr.2 12 (by kernel_rfl)).trans (by simp)
    clear hfr
    simp [hn', h12, h13, kseq_normal]
    refine Br.mk (fun hb => ?_) (fun hb => ?_)
    · have hk1 : k < bs.length := by rw [ilt_true] at hb; omega
      simp [hn', h13]
      rw [kseq_normal, AW_seq]
      refine AW_region_t _ _ _ _ _ (by kernel_rfl) ?_
      obtain ⟨b1, o1, _, hix1, _, ha1⟩ := hx.at k hk1
      obtain ⟨b2, o2, _, hix2, _, ha2⟩ := hy.at k hk1
      have he : ieq (bs[k].toNat : Int) (bs[k].toNat : Int) = true := ieq_true.2 rfl
      simp [hn', h0', h1', h13, hix1, hix2, ha1, ha2, byteAV, he, kseq_normal]
      rw [kloop_normal]
      exact ⟨bs.length - (k + 1), by omega, hJ _ _ _ ⟨k + 1, rfl, hk1, by simp [wrap_nat k (by omega)], rfl⟩⟩
    · simp [hn', kseq_normal]
  rintro fr' h' rfl hfr
  have hn' : fr'.n = 26 := hfr.1.trans (by simp [hn])
  clear hfr
  rw [kblock_exit_eq]
  simp [hn', kseq_normal]
theorem cb21_sp {h : AHeap} {x y : AV} {bs : List UInt8} (hx : Bs h x bs) (hy : Bs h y bs) (hl : bs.length ≤ 100000000) : Ca Try.prog 21 [x, y] h fun r h' => r = .bool true ∧ h' = h := by
  refine ci Try.func21 rfl (by decide) ?_
  intro fr hn hg
  replace hn : fr.n = 8 := hn
  have h0 : fr.get 0 = some x := hg 0 (by simp)
  have h1 : fr.get 1 = some y := hg 1 (by simp)
  clear hg
  show AW _ _ _ _ _
  simp [hn, h0, h1, kseq_normal]
  refine (equal_sp hx hy hl).mono ?_
  rintro r h' ⟨rfl, rfl⟩
  simp [hn, kseq_normal]
/-- Slices of the same byte slices are found equal. -/
theorem eqf20_sp {h : AHeap} {x y : AV} {ds es : List AV} {l : List (List UInt8)} (hx : Bss h x ds l) (hy : Bss h y es l) (hl : ∀ b ∈ l, b.length ≤ 100000000) (hll : l.length ≤ 1000000) : Ca Try.prog 20 [x, y, .func 21 []] h fun r h' => r = .bool true ∧ h' = h := by
  refine ci Try.func20 rfl (by decide) ?_
  intro fr hn hg
  replace hn : fr.n = 32 := hn
  have h0 : fr.get 0 = some x := hg 0 (by simp)
  have h1 : fr.get 1 = some y := hg 1 (by simp)
  have h2 : fr.get 2 = some (.func 21 []) := hg 2 (by simp)
  clear hg
  show AW _ _ _ _ _
  have hxl : plen Try.prog 63 x = some (i64 (l.length : Int)) := by have := hx.sl.len sl63; rw [List.length_map, hx.len] at this; exact this
  have hyl : plen Try.prog 63 y = some (i64 (l.length : Int)) := by have := hy.sl.len sl63; rw [List.length_map, hy.len] at this; exact this
  have he : ieq (l.length : Int) (l.length : Int) = true := ieq_true.2 rfl
  simp [hn, h0, h1, hxl, hyl, he, kseq_normal]
  refine AW_cut_x 0 (fun fr' h' => h' = h) ?_ ?_
  · refine AW_loop_fr (fun m fr' h' => ∃ k, m = l.length - k ∧ k ≤ l.length ∧ fr'.get 17 = some (i64 (k : Nat)) ∧ h' = h) l.length ⟨0, by simp, by omega, by simp, rfl⟩ ?_
    rintro J hJ m fr' h' ⟨k, rfl, hk, h13, rfl⟩ hfr
    have hn' : fr'.n = 32 := hfr.1.trans (by simp [hn])
    have h1' : fr'.get 1 = some y := (hfr.2 1 (by kernel_rfl)).trans (by simp [h1])
    have h2' : fr'.get 2 = some (.func 21 []) := (hfr.2 2 (by kernel_rfl)).trans (by simp [h2])
    have h15 : fr'.get 15 = some x := (hfr.2 15 (by kernel_rfl)).trans (by simp)
    have h16 : fr'.get 16 = some (i64 (l.length : Int)) := (hfr.2 16 (by kernel_rfl)).trans (by simp)
    clear hfr
    simp [hn', h16, h13, kseq_normal]
    refine Br.mk (fun hb => ?_) (fun hb => ?_)
    · have hk1 : k < l.length := by rw [ilt_true] at hb; omega
      obtain ⟨b1, o1, hix1, _, ha1⟩ := hx.sl.at1 sl63 sz34 ag34 k (by rw [hx.len]; exact hk1)
      obtain ⟨b2, o2, hix2, _, ha2⟩ := hy.sl.at1 sl63 sz34 ag34 k (by rw [hy.len]; exact hk1)
      have e1 := hx.el k _ _ (List.getElem?_eq_getElem (by rw [hx.len]; exact hk1)) (List.getElem?_eq_getElem hk1)
      have e2 := hy.el k _ _ (List.getElem?_eq_getElem (by rw [hy.len]; exact hk1)) (List.getElem?_eq_getElem hk1)
      simp [hn', h1', h2', h15, h13, hix1, hix2, ha1, ha2, kseq_normal]
      refine (cb21_sp e1 e2 (hl _ (List.getElem_mem hk1))).mono ?_
      rintro r h2 ⟨rfl, rfl⟩
      simp [hn', h13, kseq_normal]
      rw [kloop_normal]
      exact ⟨l.length - (k + 1), by omega, hJ _ _ _ ⟨k + 1, rfl, hk1, by simp [wrap_nat k (by omega)], rfl⟩⟩
    · simp [hn', kseq_normal]
  rintro fr' h' rfl hfr
  have hn' : fr'.n = 32 := hfr.1.trans (by simp [hn])
  clear hfr
  rw [kblock_exit_eq]
  simp [hn', kseq_normal]
theorem cb46_sp {h : AHeap} {w : Int} {d e : AV} {bs : List UInt8} (hd : Bs h d bs) (he : Bs h e bs) (hl : bs.length ≤ 100000000) : Ca Try.prog 46 [.agg [i64 w, d], .agg [i64 w, e]] h fun r h' => r = .bool true ∧ Pres h h' := by
  refine ci Try.func46 rfl (by decide) ?_
  intro fr hn hg
  replace hn : fr.n = 17 := hn
  have h0 : fr.get 0 = some (.agg [i64 w, d]) := hg 0 (by simp)
  have h1 : fr.get 1 = some (.agg [i64 w, e]) := hg 1 (by simp)
  clear hg
  show AW _ _ _ _ _
  obtain ⟨hd1, hd2, _⟩ := Sl.one hd
  obtain ⟨he1, he2, _⟩ := Sl.one he
  have hw : ieq w w = true := ieq_true.2 rfl
  have hp : Pres h ((h.new (.cells 48 [i64 w, d] (some 0))).new (.cells 105 [i64 w, e] (some 0))) := ((Pres.refl h).new _).new _
  simp [hn, h0, h1, hd2, he2, hw, kseq_normal]
  refine (equal_sp (hd.pres hp) (he.pres hp) hl).mono ?_
  rintro r h' ⟨rfl, rfl⟩
  simp [hn, hw, kseq_normal]
  exact hp
theorem eqf45_sp {h : AHeap} {x y : AV} {n1 n2 : Nat} {t1 t2 : List (Int × AV × List UInt8)} (hx : Outs 48 n1 h x t1) (hy : Outs 105 n2 h y t2) (he : t1.map (fun q => (q.1, q.2.2)) = t2.map (fun q => (q.1, q.2.2))) (hl : ∀ q ∈ t1, q.2.2.length ≤ 100000000) (hll : t1.length ≤ 1000000) :
    Ca Try.prog 45 [x, y, .func 46 []] h fun r h' => r = .bool true ∧ Pres h h' := by
  refine ci Try.func45 rfl (by decide) ?_
  intro fr hn hg
  replace hn : fr.n = 32 := hn
  have h0 : fr.get 0 = some x := hg 0 (by simp)
  have h1 : fr.get 1 = some y := hg 1 (by simp)
  have h2 : fr.get 2 = some (.func 46 []) := hg 2 (by simp)
  clear hg
  show AW _ _ _ _ _
  have hlen : t2.length = t1.length := by have := congrArg List.length he; simpa using this.symm
  have hxl : plen Try.prog 42 x = some (i64 (t1.length : Int)) := by have := hx.gw.sl.len sl42; rw [List.length_map] at this; exact this
  have hyl : plen Try.prog 68 y = some (i64 (t1.length : Int)) := by have := hy.gw.sl.len sl68; rw [List.length_map, hlen] at this; exact this
  have hee : ieq (t1.length : Int) (t1.length : Int) = true := ieq_true.2 rfl
  simp [hn, h0, h1, hxl, hyl, hee, kseq_normal]
  refine AW_cut_x 0 (fun fr' h' => Pres h h') ?_ ?_
  · refine AW_loop_fr (fun m fr' h' => ∃ k, m = t1.length - k ∧ k ≤ t1.length ∧ fr'.get 17 = some (i64 (k : Nat)) ∧ Pres h h') t1.length ⟨0, by simp, by omega, by simp, Pres.refl h⟩ ?_
    rintro J hJ m fr' h' ⟨k, rfl, hk, h13, hp⟩ hfr
    have hn' : fr'.n = 32 := hfr.1.trans (by simp [hn])
    have h1' : fr'.get 1 = some y := (hfr.2 1 (by kernel_rfl)).trans (by simp [h1])
    have h2' : fr'.get 2 = some (.func 46 []) := (hfr.2 2 (by kernel_rfl)).trans (by simp [h2])
    have h15 : fr'.get 15 = some x := (hfr.2 15 (by kernel_rfl)).trans (by simp)
    have h16 : fr'.get 16 = some (i64 (t1.length : Int)) := (hfr.2 16 (by kernel_rfl)).trans (by simp)
    clear hfr
    simp [hn', h16, h13, kseq_normal]
    refine Br.mk (fun hb => ?_) (fun hb => ?_)
    · have hk1 : k < t1.length := by rw [ilt_true] at hb; omega
      have hk2 : k < t2.length := by omega
      obtain ⟨b1, o1, _, hix1, hb1, hag1, _⟩ := Sl.at_blk (hx.gw.sl.pres hp) sl42 sz48 k (by simpa using hk1)
      obtain ⟨b2, o2, _, hix2, hb2, hag2, _⟩ := Sl.at_blk (hy.gw.sl.pres hp) sl68 sz105 k (by simpa using hk2)
      have hag1 := hag1 ag48
      have hag2 := hag2 ag105
      rw [List.getElem_map] at hag1 hag2
      have he1 : (t1[k].1, t1[k].2.2) = (t2[k].1, t2[k].2.2) := by
        have := congrArg (fun l : List (Int × List UInt8) => l[k]?) he
        simp only [List.getElem?_map, List.getElem?_eq_getElem hk1, List.getElem?_eq_getElem hk2, Option.map_some] at this
        exact Option.some.inj this
      have q1 := (hx.el _ (List.getElem_mem hk1)).1.pres hp
      have q2 := (hy.el _ (List.getElem_mem hk2)).1.pres hp
      have hql := hl _ (List.getElem_mem hk1)
      generalize t1[k] = a1 at *
      generalize t2[k] = a2 at *
      obtain ⟨w1, d1, c1⟩ := a1
      obtain ⟨w2, d2, c2⟩ := a2
      simp only [Prod.mk.injEq] at he1
      obtain ⟨rfl, rfl⟩ := he1
      simp only at q1 q2 hql
      obtain ⟨u1, u2, u3⟩ := Sl.one q1
      obtain ⟨v1, v2, v3⟩ := Sl.one q2
      have hpz : Pres h' ((((h'.new (.cells 48 [i64 0, .nilsl] (some 0))).set h'.next (.cells 48 [i64 w1, d1] (some 0))).new (.cells 105 [i64 0, .nilsl] (some 0))).set (h'.next + 1) (.cells 105 [i64 w1, d2] (some 0))) := ((((Pres.refl h').new _).set (Nat.le_refl _) _).new _).set (by simp) _
      have ne1 : (h'.next = b2) = False := eq_false (by omega)
      have hag1' : atCells Try.prog 48 (h'.get b1) o1 = some (.agg [i64 w1, d1]) := hag1
      have hag2' : atCells Try.prog 105 (h'.get b2) o2 = some (.agg [i64 w1, d2]) := hag2
      simp [hn', h1', h2', h15, h13, hix1, hix2, hag1', hag2', ne1, stc_all sz48, stc_all sz105, u2, v2, kseq_normal]
      refine (cb46_sp (q1.pres hpz) (q2.pres hpz) hql).mono ?_
      rintro r h2 ⟨rfl, hp2⟩
      simp [hn', h13, kseq_normal]
      rw [kloop_normal]
      exact ⟨t1.length - (k + 1), by omega, hJ _ _ _ ⟨k + 1, rfl, hk1, by simp [wrap_nat k (by omega)], (hp.trans hpz).trans hp2⟩⟩
    · simp [hn', kseq_normal]
      exact hp
  rintro fr' h' hp hfr
  have hn' : fr'.n = 32 := hfr.1.trans (by simp [hn])
  clear hfr
  rw [kblock_exit_eq]
  simp [hn', kseq_normal]
  exact hp
theorem out_sp {h : AHeap} {x y : AV} {n1 n2 : Nat} {t1 t2 : List (Int × AV × List UInt8)} (hx : Outs 48 n1 h x t1) (hy : Outs 105 n2 h y t2) (he : t1.map (fun q => (q.1, q.2.2)) = t2.map (fun q => (q.1, q.2.2))) (hl : ∀ q ∈ t1, q.2.2.length ≤ 100000000) (hll : t1.length ≤ 1000000) :
    Ca Try.prog 24 [x, y] h fun r h' => r = .bool true ∧ Pres h h' := by
  refine ci Try.func24 rfl (by decide) ?_
  intro fr hn hg
  replace hn : fr.n = 8 := hn
  have h0 : fr.get 0 = some x := hg 0 (by simp)
  have h1 : fr.get 1 = some y := hg 1 (by simp)
  clear hg
  show AW _ _ _ _ _
  simp [hn, h0, h1, kseq_normal]
  refine (eqf45_sp hx hy he hl hll).mono ?_
  rintro r h' ⟨rfl, hp⟩
  simp [hn, kseq_normal]
  exact hp
end Go.Eng.L35
/- Law 35: New. -/
namespace Go.Eng.L35
open Go.Proofs Go.Eng
theorem upto8 {P : Nat → Prop} (h1 : P 1) (h2 : P 2) (h3 : P 3) (h4 : P 4) (h5 : P 5) (h6 : P 6) (h7 : P 7) (h8 : P 8) {n : Nat} (ha : 1 ≤ n) (hb : n ≤ 8) : P n := by
  have : n = 1 ∨ n = 2 ∨ n = 3 ∨ n = 4 ∨ n = 5 ∨ n = 6 ∨ n = 7 ∨ n = 8 := by omega
  rcases this with rfl | rfl | rfl | rfl | rfl | rfl | rfl | rfl <;> assumption
variable [O35]
theorem mul64_sp {h : AHeap} {n : Nat} (h1 : 1 ≤ n) (h8 : n ≤ 8) : Ca Try.prog 53 [.int .u64 1, .int .u64 (n : Int)] h fun r h' => r = .tuple [.int .u64 0, .int .u64 (n : Int)] ∧ h' = h := by
  have a1 : ∀ x y : Operand, bin2 Try.prog .and 114 x y (some (.int .u64 1)) (some (.int .u64 4294967295)) = some (.int .u64 1) := fun _ _ => by kernel_rfl
  have a0 : ∀ x y : Operand, bin2 Try.prog .and 114 x y (some (.int .u64 0)) (some (.int .u64 4294967295)) = some (.int .u64 0) := fun _ _ => by kernel_rfl
  have ak : ∀ x y : Operand, bin2 Try.prog .and 114 x y (some (.int .u64 (n : Int))) (some (.int .u64 4294967295)) = some (.int .u64 (n : Int)) :=
    upto8 (P := fun n => ∀ x y : Operand, bin2 Try.prog .and 114 x y (some (.int .u64 (n : Int))) (some (.int .u64 4294967295)) = some (.int .u64 (n : Int))) (fun _ _ => by kernel_rfl) (fun _ _ => by kernel_rfl) (fun _ _ => by kernel_rfl) (fun _ _ => by kernel_rfl) (fun _ _ => by kernel_rfl) (fun _ _ => by kernel_rfl) (fun _ _ => by kernel_rfl) (fun _ _ => by kernel_rfl) h1 h8
  have s1 : ∀ x y : Operand, bin2 Try.prog .shr 114 x y (some (.int .u64 1)) (some (.int .u64 32)) = some (.int .u64 0) := fun _ _ => by kernel_rfl
  have s0 : ∀ x y : Operand, bin2 Try.prog .shr 114 x y (some (.int .u64 0)) (some (.int .u64 32)) = some (.int .u64 0) := fun _ _ => by kernel_rfl
  have sk : ∀ x y : Operand, bin2 Try.prog .shr 114 x y (some (.int .u64 (n : Int))) (some (.int .u64 32)) = some (.int .u64 0) :=
    upto8 (P := fun n => ∀ x y : Operand, bin2 Try.prog .shr 114 x y (some (.int .u64 (n : Int))) (some (.int .u64 32)) = some (.int .u64 0)) (fun _ _ => by kernel_rfl) (fun _ _ => by kernel_rfl) (fun _ _ => by kernel_rfl) (fun _ _ => by kernel_rfl) (fun _ _ => by kernel_rfl) (fun _ _ => by kernel_rfl) (fun _ _ => by kernel_rfl) (fun _ _ => by kernel_rfl) h1 h8
  have w0 : IntKind.u64.wrap 0 = 0 := by decide
  have wk : IntKind.u64.wrap (n : Int) = (n : Int) := upto8 (P := fun n => IntKind.u64.wrap (n : Int) = (n : Int)) (by decide) (by decide) (by decide) (by decide) (by decide) (by decide) (by decide) (by decide) h1 h8
  refine ci Try.func53 rfl (by decide) ?_
  intro fr hn hg
  replace hn : fr.n = 51 := hn
  have h0 : fr.get 0 = some (.int .u64 1) := hg 0 (by simp)
  have h1' : fr.get 1 = some (.int .u64 (n : Int)) := hg 1 (by simp)
  clear hg
  show AW _ _ _ _ _
  simp [hn, h0, h1', a1, a0, ak, s1, s0, sk, w0, wk, kseq_normal]
theorem mul_sp {h : AHeap} {n : Nat} (h1 : 1 ≤ n) (h8 : n ≤ 8) : Ca Try.prog 37 [.int .u64 1, .int .u64 (n : Int)] h fun r h' => r = .tuple [.int .u64 0, .int .u64 (n : Int)] ∧ h' = h := by
  refine ci Try.func37 rfl (by decide) ?_
  intro fr hn hg
  replace hn : fr.n = 30 := hn
  have h0 : fr.get 0 = some (.int .u64 1) := hg 0 (by simp)
  have h1' : fr.get 1 = some (.int .u64 (n : Int)) := hg 1 (by simp)
  clear hg
  show AW _ _ _ _ _
  simp [hn, h0, h1', kseq_normal]
  refine (mul64_sp h1 h8).mono ?_
  rintro r h' ⟨rfl, rfl⟩
  simp [hn, kseq_normal]
omit [O35] in
theorem acopy_b {h : AHeap} {b k n m z z' : Nat} {c c' : Cap} {cs : List AV} (hb : h.get b = .cells 4 cs (some 0)) (hl : cs.length = n) (hk : k ≤ n) (hm : m = min k (n - k)) (hm0 : 0 < m) :
    acopy Try.prog h [49, 49] [.sl b k z (n - k) c, .sl b 0 z' k c'] = some (i64 (m : Int), h.set b (.cells 4 (splice cs k (cs.take m)) (some 0))) := by
  have e : Nat.min k (n - k) = m := hm.symm
  have hs : srcCells Try.prog h 49 (.sl b 0 z' k c') 1 = some (k, cs.take k) := by
    simp only [srcCells, sl49, hb]
    rw [if_neg (by omega)]
    simp; omega
  simp only [acopy, sl49, sz4, hs, e, hb, Nat.mul_one, List.take_take]
  rw [if_neg (by omega), if_pos ⟨by omega, by simp; omega⟩, Nat.min_eq_left (by omega)]
omit [O35] in
theorem pms49 {n : Nat} (h1 : 1 ≤ n) (h8 : n ≤ 8) : pms Try.prog 49 (i64 (n : Int)) (i64 (n : Int)) = some (4, List.replicate n (.bool false), .sl n n) :=
  upto8 (P := fun n => pms Try.prog 49 (i64 (n : Int)) (i64 (n : Int)) = some (4, List.replicate n (.bool false), .sl n n)) (by kernel_rfl) (by kernel_rfl) (by kernel_rfl) (by kernel_rfl) (by kernel_rfl) (by kernel_rfl) (by kernel_rfl) (by kernel_rfl) h1 h8
omit [O35] in
theorem copy_first {h : AHeap} {b n z : Nat} {c : Cap} {x : AV} {cs : List AV} (hx : Sl h 1 x [[.bool true]]) (hb : h.get b = .cells 4 cs (some 0)) (hl : cs.length = n) (hn : 1 ≤ n) :
    acopy Try.prog h [49, 49] [.sl b 0 z n c, x] = some (i64 1, h.set b (.cells 4 (.bool true :: cs.drop 1) (some 0))) := by
  have hs := hx.src sl49
  have e : Nat.min 1 n = 1 := Nat.min_eq_left hn
  simp only [List.length_singleton, List.flatten_cons, List.flatten_nil, List.append_nil] at hs
  simp only [acopy, sl49, sz4, hs, e, hb]
  rw [if_neg (by omega), if_pos ⟨by omega, by simp; omega⟩]
  simp [splice]
omit [O35] in
theorem sli49 {b n k : Nat} {z : Nat} (hk : k ≤ n) : pslice Try.prog 49 (.sl b 0 z n (.at_ n)) (some (i64 (k : Int))) none none = some (.sl b k (if k = 0 then z else 0) (n - k) (.at_ (n - k))) ∧ pslice Try.prog 49 (.sl b 0 z n (.at_ n)) none (some (i64 (k : Int))) none = some (.sl b 0 z k (.at_ n)) := by
  constructor
  · simp only [pslice, sl49, bnd, nat?, Int.natCast_nonneg, if_true, Int.toNat_natCast, sz4]
    rw [if_pos ⟨hk, Nat.le_refl _⟩]; simp
  · simp only [pslice, sl49, bnd, nat?, Int.natCast_nonneg, if_true, Int.toNat_natCast, sz4]
    rw [if_pos ⟨by omega, hk⟩]; simp
omit [O35] in
theorem cv89_3 (k : IntKind) (n : Int) : pconv Try.prog 89 3 (.int k n) = some (.int .i64 ((IntKind.i64).wrap n)) := pconv_int it89 it3 k n
def tf (n k : Nat) : List AV := List.replicate k (.bool true) ++ List.replicate (n - k) (.bool false)
omit [O35] in
theorem tf_len {n k : Nat} (hk : k ≤ n) : (tf n k).length = n := by simp [tf]; omega
omit [O35] in
theorem tf_splice {n k m : Nat} (hk : k ≤ n) (hm : m = min k (n - k)) : splice (tf n k) k ((tf n k).take m) = tf n (k + m) := by
  have e1 : (tf n k).take m = List.replicate m (.bool true) := by
    unfold tf; rw [List.take_append_of_le_length (by simp; omega), List.take_replicate, Nat.min_eq_left (by omega)]
  have e2 : (tf n k).take k = List.replicate k (.bool true) := by
    unfold tf; rw [List.take_append_of_le_length (by simp), List.take_replicate, Nat.min_self]
  have e3 : (tf n k).drop (k + m) = List.replicate (n - (k + m)) (.bool false) := by
    unfold tf; rw [List.drop_append, List.drop_of_length_le (by simp)]; simp; omega
  unfold splice
  rw [e1, e2, List.length_replicate, e3]
  unfold tf
  rw [List.replicate_append_replicate]
theorem rep_sp {h : AHeap} {x : AV} {n : Nat} (hx : Sl h 1 x [[.bool true]]) (h1 : 1 ≤ n) (h8 : n ≤ 8) :
    Ca Try.prog 13 [x, i64 (n : Int)] h fun r h' => ∃ b z, r = .sl b 0 z n (.at_ n) ∧ h'.get b = .cells 4 (List.replicate n (.bool true)) (some 0) ∧ h.next ≤ b ∧ b < h'.next ∧ Pres h h' := by
  have w1 : IntKind.u64.wrap 1 = 1 := by decide
  have wk : IntKind.u64.wrap (n : Int) = (n : Int) := upto8 (P := fun n => IntKind.u64.wrap (n : Int) = (n : Int)) (by decide) (by decide) (by decide) (by decide) (by decide) (by decide) (by decide) (by decide) h1 h8
  have wi : IntKind.i64.wrap (n : Int) = (n : Int) := wrap_in (by omega)
  have l0 : ilt (n : Int) 0 = false := by rw [ilt_false]; omega
  have l00 : ilt 0 0 = false := rfl
  have lb : ilt 9223372036854775807 (n : Int) = false := by rw [ilt_false]; omega
  have hxl : plen Try.prog 49 x = some (i64 1) := hx.len sl49
  refine ci Try.func13 rfl (by decide) ?_
  intro fr hn hg
  replace hn : fr.n = 48 := hn
  have h0 : fr.get 0 = some x := hg 0 (by simp)
  have h1' : fr.get 1 = some (i64 (n : Int)) := hg 1 (by simp)
  clear hg
  show AW _ _ _ _ _
  simp [hn, h0, h1', l0, hxl, w1, wk, kseq_normal]
  refine (mul_sp h1 h8).mono ?_
  rintro r h2 ⟨rfl, rfl⟩
  have hp3 : Pres h2 (h2.new (.cells 4 (List.replicate n (.bool false)) (some 0))) := (Pres.refl h2).new _
  have hcp := copy_first (b := h2.next) (n := n) (z := 0) (c := .at_ n) (cs := List.replicate n (.bool false)) (hx.pres hp3) (by simp) (by simp) h1
  have htf : (.bool true : AV) :: (List.replicate n (.bool false)).drop 1 = tf n 1 := by simp [tf]
  rw [htf] at hcp
  simp [hn, h0, l00, lb, wi, cv89_3, pms49 h1 h8, hcp, kseq_normal]
  refine AW_cut_x 0 (fun fr' h' => fr'.get 7 = some (.sl h2.next 0 0 n (.at_ n)) ∧ h'.get h2.next = .cells 4 (tf n n) (some 0) ∧ h2.next < h'.next ∧ Pres h2 h') ?_ ?_
  · refine AW_loop_fr (fun m fr' h' => ∃ k, m = n - k ∧ 1 ≤ k ∧ k ≤ n ∧ fr'.get 8 = some (i64 (k : Nat)) ∧ h'.get h2.next = .cells 4 (tf n k) (some 0) ∧ h2.next < h'.next ∧ Pres h2 h') (n - 1)
      ⟨1, rfl, by omega, h1, by simp, by simp, by simp, hp3.set (Nat.le_refl _) _⟩ ?_
    rintro J hJ m fr' h' ⟨k, rfl, hk1, hk, h8', hgb, hlt, hp⟩ hfr
    have hn' : fr'.n = 48 := hfr.1.trans (by simp [hn])
    have h7 : fr'.get 7 = some (.sl h2.next 0 0 n (.at_ n)) := (hfr.2 7 (by kernel_rfl)).trans (by simp)
    clear hfr
    have h7l : plen Try.prog 49 (.sl h2.next 0 0 n (.at_ n)) = some (i64 (n : Int)) := by simp [plen, sl49]
    simp [hn', h7, h7l, h8', kseq_normal]
    refine Br.mk (fun hb => ?_) (fun hb => ?_)
    · have hkn : k < n := by rw [ilt_true] at hb; omega
      obtain ⟨m, hm⟩ : ∃ m, m = min k (n - k) := ⟨_, rfl⟩
      obtain ⟨hs1, hs2⟩ := sli49 (b := h2.next) (n := n) (k := k) (z := 0) hk
      have hcp2 := acopy_b (z := if k = 0 then 0 else 0) (z' := 0) (c := .at_ (n - k)) (c' := .at_ n) hgb (tf_len hk) hk hm (by omega)
      rw [tf_splice hk hm] at hcp2
      have hkm : IntKind.i64.wrap ((k : Int) + (m : Int)) = ((k + m : Nat) : Int) := by rw [← Int.natCast_add]; exact wrap_in (by omega)
      refine AW_region_t _ _ _ _ _ (by kernel_rfl) ?_
      simp only [ite_self] at hcp2
      have hs1' : (if k = 0 then (0 : Nat) else 0) = 0 := ite_self 0
      rw [hs1'] at hs1
      simp only [Int.natCast_add] at hkm
      simp [hn', h7, h8', hs1, hs2, hcp2, hkm, kseq_normal]
      rw [kloop_normal]
      exact ⟨n - (k + m), by omega, hJ _ _ _ ⟨k + m, rfl, by omega, by omega, by simp, by simp, by simpa using hlt, hp.set (Nat.le_refl _) _⟩⟩
    · have : k = n := by rw [ilt_false] at hb; omega
      subst this
      simp [hn', h7, kseq_normal]
      exact ⟨hgb, hlt, hp⟩
  rintro fr4 h4 ⟨h7, hgb, hlt, hp⟩ hfr
  have hn4 : fr4.n = 48 := hfr.1.trans (by simp [hn])
  clear hfr
  rw [kblock_exit_eq]
  have e : tf n n = List.replicate n (.bool true) := by simp [tf]
  rw [e] at hgb
  simp [hn4, h7, kseq_normal]
  exact ⟨hgb, hlt, hp⟩
end Go.Eng.L35
