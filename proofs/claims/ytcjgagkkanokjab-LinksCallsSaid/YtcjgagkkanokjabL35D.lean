/- Law 35: numbers into bytes; fields. -/
import Derived.Test.YtcjgagkkanokjabL35B
namespace Go.Eng.L35
open Go.Proofs Go.Eng
/-- The bytes of a number, the most significant first. -/
def beB (n : Nat) (x : Int) : List UInt8 := (List.range n).map fun j => toB (x / 2 ^ (8 * (n - 1 - j)))
theorem beB_len (n : Nat) (x : Int) : (beB n x).length = n := by simp [beB]
def beT (n : Nat) (x : Int) (k : Nat) : List UInt8 := (List.range k).map fun j => toB (x / 2 ^ (8 * (n - 1 - j)))
variable [O35]
omit [O35] in
theorem pbs34_1 (n : Int) : pbs Try.prog 34 1 [(0, .int .u8 n)] = some (5, [.int .u8 n], .sl 1 1) := by kernel_rfl
omit [O35] in
theorem pbs34_1b (c : UInt8) : pbs Try.prog 34 1 [(0, byteAV c)] = some (5, [byteAV c], .sl 1 1) := by kernel_rfl
omit [O35] in
theorem Pres.grown {h h1 h' : AHeap} {x x' : AV} (hp : Pres h h1) (hf : Fresh h x) (hg : Grown h1 x h' x') : Pres h h' ∧ Fresh h x' := by
  refine ⟨⟨Nat.le_trans hp.1 hg.next, fun c hc => (hg.keep c (Nat.lt_of_lt_of_le hc hp.1) fun e => ?_).trans (hp.2 c hc)⟩, fun b hb => ?_⟩
  · have := hf c e; omega
  · rcases hg.new b hb with e | e
    · exact hf b e
    · have := hp.1; omega
omit [O35] in
theorem shramt {m : Nat} (hm : m ≤ 7) : IntKind.u64.wrap (IntKind.i64.wrap (8 * (m : Int))) = ((8 * m : Nat) : Int) := by
  rw [wrap_in (by omega)]
  simp [IntKind.wrap, IntKind.signed, IntKind.bits]
  omega
theorem rput_sp (h : AHeap) (x : Int) (n : Nat) (hn8 : n ≤ 8) : Ca Try.prog 60 [.int .u64 x, .int .i64 (n : Int)] h fun r h' => Gf h' 5 1 r (byt (beB n x)) ∧ Pres h h' ∧ Fresh h r := by
  refine ci Try.func60 rfl (by decide) ?_
  intro fr hn hg
  replace hn : fr.n = 24 := hn
  have h0 : fr.get 0 = some (.int .u64 x) := hg 0 (by simp)
  have h1 : fr.get 1 = some (.int .i64 (n : Int)) := hg 1 (by simp)
  clear hg
  show AW _ _ _ _ _
  have e0 : IntKind.i64.wrap ((n : Int) - 1) = (n : Int) - 1 := wrap_in (by omega)
  simp [hn, h0, h1, kseq_normal, e0]
  refine AW_loop_fr (fun m fr' h' => ∃ k y, m = n - k ∧ k ≤ n ∧ fr'.get 5 = some y ∧ fr'.get 6 = some (.int .i64 ((n : Int) - 1 - k)) ∧ Gf h' 5 1 y (byt (beT n x k)) ∧ Pres h h' ∧ Fresh h y) n
    ⟨0, _, by simp, by omega, by simp; rfl, by simp, by simpa [beT] using Gf.empty, (Pres.refl h).new _, fun b hb => by simp [blk] at hb; omega⟩ ?_
  rintro J hJ m fr' h' ⟨k, y, rfl, hk, h5, h6, hg, hp, hf⟩ hfr
  have hn' : fr'.n = 24 := hfr.1.trans (by simp [hn])
  have h0' : fr'.get 0 = some (.int .u64 x) := (hfr.2 0 (by kernel_rfl)).trans (by simp [h0])
  clear hfr
  simp [hn', h6, kseq_normal]
  refine Br.mk (fun hb => ?_) (fun hb => ?_)
  · have : k = n := by rw [ilt_true] at hb; omega
    subst this
    simp [hn', h5, kseq_normal]
    exact ⟨hg, hp, hf⟩
  · have hlt : k < n := by rw [ilt_false] at hb; omega
    obtain ⟨m, hm⟩ : ∃ m, m = n - 1 - k := ⟨_, rfl⟩
    have ei : (n : Int) - 1 - k = (m : Int) := by omega
    have es : IntKind.u64.wrap (IntKind.i64.wrap (8 * (m : Int))) = 8 * (m : Int) := shramt (m := m) (by omega)
    have ew : IntKind.i64.wrap ((m : Int) - 1) = (n : Int) - 1 - ((k + 1 : Nat) : Int) := by rw [wrap_in (by omega)]; omega
    have eh : ∀ a b : Operand, bin2 Try.prog .shr 114 a b (some (.int .u64 x)) (some (.int .u64 (8 * (m : Int)))) = some (.int .u64 (x / 2 ^ (8 * m))) := fun a b => shr64 _ _ _ _ _ _ (8 * m) (by omega)
    rw [ei] at h6
    simp [hn', h0', h5, h6, es, eh, pbs34_1b, kseq_normal, u8wrap]
    have hp1 : Pres h' (h'.new (.cells 5 [byteAV (toB (x / 2 ^ (8 * m)))] (some 0))) := (Pres.refl h').new _
    have hs : Bs (h'.new (.cells 5 [byteAV (toB (x / 2 ^ (8 * m)))] (some 0))) (.sl h'.next 0 0 1 (.at_ 1)) [toB (x / 2 ^ (8 * m))] := by
      have := Sl.whole (h := h'.new (.cells 5 [byteAV (toB (x / 2 ^ (8 * m)))] (some 0))) (b := h'.next) (z := 0) (c := .at_ 1) (cs := [byteAV (toB (x / 2 ^ (8 * m)))]) (ty := 5) (wr := some 0) (n := 1) (by simp) (by simp) rfl (Nat.le_refl 1)
      simpa [Bs] using this
    obtain ⟨y', h2, ha, hg2, hgr⟩ := appB (l := beT n x k) (Gf.pres hg hp1) hs (by simp [beT]; omega)
    obtain ⟨hp2, hf2⟩ := Pres.grown (Pres.trans hp hp1) hf hgr
    rw [ha]
    simp [hn', h6, kseq_normal, ew]
    rw [kloop_normal]
    refine ⟨n - (k + 1), by omega, hJ _ _ _ ⟨k + 1, y', rfl, by omega, by simp, by simp, ?_, hp2, hf2⟩⟩
    have : beT n x (k + 1) = beT n x k ++ [toB (x / 2 ^ (8 * m))] := by simp [beT, List.range_succ, hm]
    rw [this]; exact hg2

/-! ### bytes that are written -/
omit [O35] in
@[simp] theorem cells_byteAV (c : UInt8) : (byteAV c).cells = [byteAV c] := rfl
omit [O35] in
@[simp] theorem allOne_byteAV (c : UInt8) : allOne (byteAV c) = true := rfl
omit [O35] in
@[simp] theorem one_byteAV (c : UInt8) : AV.one (byteAV c) = true := rfl
/-- A slice that is all of its block, which may be written. -/
def Wb (h : AHeap) (b : Nat) (x : AV) (bs : List UInt8) : Prop := ∃ z cap, x = .sl b 0 z bs.length cap ∧ b < h.next ∧ h.get b = .cells 5 (bc bs) (some 0) ∧ Cok 1 bs.length cap
omit [O35] in
theorem Wb.bs {h : AHeap} {b : Nat} {x : AV} {bs : List UInt8} (hw : Wb h b x bs) : Bs h x bs := by
  obtain ⟨z, cap, rfl, h1, h2, h3⟩ := hw
  have := Sl.whole (z := z) (c := cap) (n := bs.length) h2 h1 (by simp) h3
  rw [bc_chunks] at this
  exact this
omit [O35] in
theorem Wb.at {h : AHeap} {b : Nat} {x : AV} {bs : List UInt8} (hw : Wb h b x bs) {i : Nat} (hi : i < bs.length) : pindexAddr Try.prog 34 x (.int .i64 (i : Int)) = some (.ptr b i) := by
  obtain ⟨z, cap, rfl, h1, h2, h3⟩ := hw
  simp [pindexAddr, nat?, sl34, sz5, hi]
omit [O35] in
theorem Wb.keep {h h' : AHeap} {b : Nat} {x : AV} {bs : List UInt8} (hw : Wb h b x bs) (hn : h.next ≤ h'.next) (hg : h'.get b = h.get b) : Wb h' b x bs := by
  obtain ⟨z, cap, rfl, h1, h2, h3⟩ := hw
  exact ⟨z, cap, rfl, by omega, by rw [hg, h2], h3⟩
/-- One byte is set. -/
def setB (bs : List UInt8) (a : Nat) (l : List UInt8) : List UInt8 := bs.take a ++ l ++ bs.drop (a + l.length)
omit [O35] in
theorem setB_len {bs l : List UInt8} {a : Nat} (h : a + l.length ≤ bs.length) : (setB bs a l).length = bs.length := by
  simp only [setB, List.length_append, List.length_take, List.length_drop]; omega
/-- What the loop has done: k bytes from behind. -/
def putT (bs : List UInt8) (a n k : Nat) (v : Int) : List UInt8 := bs.take (a + n - k) ++ (beB n v).drop (n - k) ++ bs.drop (a + n)
omit [O35] in
theorem putT_step {bs : List UInt8} {a n k : Nat} {v : Int} (hk : k < n) (hl : a + n ≤ bs.length) : (putT bs a n k v).set (a + (n - 1 - k)) (toB (v / 2 ^ (8 * k))) = putT bs a n (k + 1) v := by
  unfold putT
  have e1 : a + n - k = (a + (n - 1 - k)) + 1 := by omega
  have e2 : a + n - (k + 1) = a + (n - 1 - k) := by omega
  have e3 : (bs.take (a + (n - 1 - k))).length = a + (n - 1 - k) := by rw [List.length_take]; omega
  rw [e1, e2, List.take_add_one, List.getElem?_eq_getElem (by omega), List.append_assoc, List.append_assoc, List.append_assoc]
  rw [List.set_append_right _ _ (by omega)]
  rw [e3, Nat.sub_self]
  have e4 : (beB n v).drop (n - (k + 1)) = toB (v / 2 ^ (8 * k)) :: (beB n v).drop (n - k) := by
    have hlt : n - (k + 1) < (beB n v).length := by rw [beB_len]; omega
    rw [List.drop_eq_getElem_cons hlt, show n - (k + 1) + 1 = n - k by omega]
    congr 1
    simp only [beB, List.getElem_map, List.getElem_range]
    rw [show n - 1 - (n - (k + 1)) = k by omega]
  rw [e4]
  simp
omit [O35] in
theorem putT_zero {bs : List UInt8} {a n : Nat} {v : Int} (hl : a + n ≤ bs.length) : putT bs a n 0 v = bs := by
  unfold putT
  rw [Nat.sub_zero, Nat.sub_zero, List.drop_of_length_le (l := beB n v) (by rw [beB_len]; exact Nat.le_refl _), List.append_nil, List.take_append_drop]
omit [O35] in
theorem putT_all {bs : List UInt8} {a n : Nat} {v : Int} : putT bs a n n v = setB bs a (beB n v) := by
  unfold putT setB
  rw [beB_len, Nat.sub_self, Nat.add_sub_cancel, List.drop_zero]
omit [O35] in
theorem putT_len {bs : List UInt8} {a n k : Nat} {v : Int} (hk : k ≤ n) (hl : a + n ≤ bs.length) : (putT bs a n k v).length = bs.length := by
  unfold putT
  simp only [List.length_append, List.length_take, List.length_drop, beB_len]; omega
theorem pput_sp (h : AHeap) (b : Nat) (x : AV) (bs : List UInt8) (a n : Nat) (v : Int) (hw : Wb h b x bs) (hl : a + n ≤ bs.length) (hn8 : n ≤ 8) (hbl : bs.length ≤ 100000000) :
    Ca Try.prog 49 [.agg [.int .i64 (a : Int), .int .i64 (n : Int)], x, .int .u64 v] h fun r h' => r = .tuple [] ∧ Wb h' b x (setB bs a (beB n v)) ∧ Upd [b] h h' := by
  refine ci Try.func49 rfl (by decide) ?_
  intro fr hn hg
  replace hn : fr.n = 24 := hn
  have h0 : fr.get 0 = some (.agg [.int .i64 (a : Int), .int .i64 (n : Int)]) := hg 0 (by simp)
  have h1 : fr.get 1 = some x := hg 1 (by simp)
  have h2 : fr.get 2 = some (.int .u64 v) := hg 2 (by simp)
  clear hg
  show AW _ _ _ _ _
  have hbn : b < h.next := by obtain ⟨z, cap, rfl, h1, _⟩ := hw; exact h1
  have e0 : IntKind.i64.wrap ((n : Int) - 1) = (n : Int) - 1 := wrap_in (by omega)
  simp [hn, h0, h1, h2, kseq_normal, e0]
  refine AW_loop_fr (fun m fr' h' => ∃ k, m = n - k ∧ k ≤ n ∧ fr'.get 2 = some (.int .u64 (v / 2 ^ (8 * k))) ∧ fr'.get 6 = some (.int .i64 ((n : Int) - 1 - k)) ∧ Wb h' b x (putT bs a n k v) ∧ Upd [b] h h' ∧
      h'.get h.next = .cells 110 [.int .i64 (a : Int), .int .i64 (n : Int)] (some 0)) n
    ⟨0, by simp, by omega, by simp [h2], by simp, by rw [putT_zero hl]; exact hw.keep (by simp) (by simp; omega), ((Pres.refl h).new _).upd _, by simp⟩ ?_
  rintro J hJ m fr' h' ⟨k, rfl, hk, h2', h6, hw', hu, hbx⟩ hfr
  have hn' : fr'.n = 24 := hfr.1.trans (by simp [hn])
  have h1' : fr'.get 1 = some x := (hfr.2 1 (by kernel_rfl)).trans (by simp [h1])
  have h3' : fr'.get 3 = some (.ptr h.next 0) := (hfr.2 3 (by kernel_rfl)).trans (by simp)
  clear hfr
  simp [hn', h6, kseq_normal]
  refine Br.mk (fun hb => ?_) (fun hb => ?_)
  · have : k = n := by rw [ilt_true] at hb; omega
    subst this
    simp [hn', kseq_normal, ares1]
    rw [putT_all] at hw'
    exact ⟨hw', hu⟩
  · have hlt : k < n := by rw [ilt_false] at hb; omega
    have hlen := putT_len (v := v) hk hl
    have ei : IntKind.i64.wrap ((a : Int) + ((n : Int) - 1 - k)) = ((a + (n - 1 - k) : Nat) : Int) := by rw [wrap_in (by omega)]; omega
    have ew : IntKind.i64.wrap ((n : Int) - 1 - k - 1) = (n : Int) - 1 - ((k + 1 : Nat) : Int) := by rw [wrap_in (by omega)]; omega
    have hix := hw'.at (i := a + (n - 1 - k)) (by rw [hlen]; omega)
    have eh : ∀ o p : Operand, bin2 Try.prog .shr 114 o p (some (.int .u64 (v / 2 ^ (8 * k)))) (some (.int .u64 8)) = some (.int .u64 (v / 2 ^ (8 * (k + 1)))) := fun o p => by
      rw [show (8 : Int) = ((8 : Nat) : Int) from rfl, shr64 _ _ _ _ _ _ 8 (by omega), Int.ediv_ediv_of_nonneg (by exact Int.le_of_lt (Int.pow_pos (by omega))), ← Int.pow_add, show 8 * (k + 1) = 8 * k + 8 from rfl]
    have hc : h'.get b = .cells 5 (bc (putT bs a n k v)) (some 0) := by obtain ⟨z, cap, _, _, h3, _⟩ := hw'; exact h3
    generalize hq : a + (n - 1 - k) = q at *
    have hst : stc Try.prog 5 (.cells 5 (bc (putT bs a n k v)) (some 0)) q (byteAV (toB (v / 2 ^ (8 * k)))) = some (.cells 5 (bc (putT bs a n (k + 1) v)) (some 0)) := by
      rw [stc_one sz5 (by rw [bc_len, hlen]; omega) rfl rfl, bc_set, ← hq, putT_step hlt hl]
    simp [hn', h1', h2', h3', h6, hbx, ei, hix, u8wrap, hc, hst, eh, ew, kseq_normal]
    rw [kloop_normal]
    refine ⟨n - (k + 1), by omega, hJ _ _ _ ⟨k + 1, rfl, by omega, by simp, by simp, ?_, ?_, ?_⟩⟩
    · obtain ⟨z, cap, h3, h4, h5, h7⟩ := hw'
      exact ⟨z, cap, by rw [putT_len hlt hl]; rw [hlen] at h3; exact h3, by simpa using h4, by simp, by rw [putT_len hlt hl]; rw [hlen] at h7; exact h7⟩
    · exact ⟨by simpa using hu.1, fun c hc1 hc2 => by rw [AHeap.get_set, if_neg (fun e => hc2 (by simp [e]))]; exact hu.2 c hc1 hc2⟩
    · rw [AHeap.get_set, if_neg (by omega)]; exact hbx
end Go.Eng.L35
/- Law 35: get and fields of the program. -/
namespace Go.Eng.L35
open Go.Proofs Go.Eng
variable [O35]
/-- A whole number that is a constant. -/
abbrev i64 (n : Int) : AV := .int .i64 n
abbrev fieldsL : List AV := [i64 2, i64 2, i64 4, i64 8, i64 12, i64 4, i64 16, i64 8]
omit [O35] in
theorem pbarr111 (a b c d e f g i : Int) : pbuild Try.prog 111 [(0, .agg [i64 a, i64 b]), (1, .agg [i64 c, i64 d]), (2, .agg [i64 e, i64 f]), (3, .agg [i64 g, i64 i])] = some (.agg [i64 a, i64 b, i64 c, i64 d, i64 e, i64 f, i64 g, i64 i]) := by kernel_rfl
theorem fields_sp (h : AHeap) : Ca Try.prog 48 [] h fun r h' => r = .agg fieldsL ∧ Pres h h' := by
  refine ci Try.func48 rfl (by decide) ?_
  intro fr hn hg
  replace hn : fr.n = 6 := hn
  clear hg
  show AW _ _ _ _ _
  simp [hn, kseq_normal, pb110, splice, pbarr111, stc_all sz111]
  exact ((Pres.refl h).new _).set (Nat.le_refl _) _
omit [O35] in
theorem psl122 (b l u : Nat) (h1 : l ≤ u) (h2 : u ≤ 24) : pslice Try.prog 122 (.ptr b 0) (some (i64 (l : Int))) (some (i64 (u : Int))) none = some (.sl b l 0 (u - l) (.at_ (24 - l))) := by
  have hu : Try.prog.underlying 122 = some (.array 24 5) := by kernel_rfl
  simp only [pslice, hu, bnd, nat?, Int.natCast_nonneg, if_true, Int.toNat_natCast, sz5]
  rw [if_pos ⟨h1, h2⟩, Nat.zero_add, Nat.mul_one]
theorem pget_sp (h : AHeap) (a n : Nat) (bs : List UInt8) (hl : bs.length = 24) (han : a + n ≤ 24) : Ca Try.prog 54 [.agg [i64 (a : Int), i64 (n : Int)], .agg (bc bs)] h fun r h' => r = .int .u64 (getN ((bs.drop a).take n)) ∧ Pres h h' := by
  refine ci Try.func54 rfl (by decide) ?_
  intro fr hn hg
  replace hn : fr.n = 28 := hn
  have h0 : fr.get 0 = some (.agg [i64 (a : Int), i64 (n : Int)]) := hg 0 (by simp)
  have h1 : fr.get 1 = some (.agg (bc bs)) := hg 1 (by simp)
  clear hg
  show AW _ _ _ _ _
  have hw : IntKind.i64.wrap ((a : Int) + n) = (a : Int) + n := by rw [wrap_in (by omega)]
  have hps := psl122 (h.next + 1) a (a + n) (by omega) han
  simp only [Nat.add_sub_cancel_left, Int.natCast_add] at hps
  have hpl : plen Try.prog 34 (.sl (h.next + 1) a 0 n (.at_ (24 - a))) = some (i64 (n : Int)) := by simp [plen, sl34]
  have hp : Pres h ((h.new (.cells 110 [i64 (a : Int), i64 (n : Int)] (some 0))).new (.cells 122 (bc bs) (some 0))) := ((Pres.refl h).new _).new _
  have hx : Bs ((h.new (.cells 110 [i64 (a : Int), i64 (n : Int)] (some 0))).new (.cells 122 (bc bs) (some 0))) (.sl (h.next + 1) a 0 n (.at_ (24 - a))) ((bs.drop a).take n) := by
    have hlen : ((bs.drop a).take n).length = n := by rw [List.length_take, List.length_drop]; omega
    refine ⟨byt_len _, .inr (.inl ⟨h.next + 1, a, 0, .at_ (24 - a), 122, bc bs, some 0, by simp [hlen]; omega, by simp, by simp, by simp [hlen]; omega, ?_, by show _ ≤ 24 - a; simp [hlen]; omega⟩)⟩
    rw [byt_flat, List.length_map, hlen, Nat.mul_one, bc, ← List.map_drop, ← List.map_take, bc]
  simp [hn, h0, h1, kseq_normal, hw, hps, hpl]
  generalize ((h.new (.cells 110 [i64 (a : Int), i64 (n : Int)] (some 0))).new (.cells 122 (bc bs) (some 0))) = hh at *
  generalize hcs : (bs.drop a).take n = cs at *
  have hcl : cs.length = n := by rw [← hcs, List.length_take, List.length_drop]; omega
  refine AW_loop_fr (fun k fr' h' => ∃ i, k = n - i ∧ i ≤ n ∧ fr'.get 5 = some (.int .u64 ((cs.take i).foldl get1 0)) ∧ fr'.get 17 = some (i64 (i : Nat)) ∧ h' = hh) n
    ⟨0, by simp, by omega, by simp, by simp, rfl⟩ ?_
  rintro J hJ k fr' h' ⟨i, rfl, hi, h5, h17, rfl⟩ hfr
  have hn' : fr'.n = 28 := hfr.1.trans (by simp [hn])
  have h15 : fr'.get 15 = some (.sl (h.next + 1) a 0 n (.at_ (24 - a))) := (hfr.2 15 (by kernel_rfl)).trans (by simp)
  have h16 : fr'.get 16 = some (i64 (n : Int)) := (hfr.2 16 (by kernel_rfl)).trans (by simp)
  clear hfr
  simp [hn', h15, h16, h17, kseq_normal]
  refine Br.mk (fun hb => ?_) (fun hb => ?_)
  · have hi : i < cs.length := by rw [ilt_true] at hb; omega
    obtain ⟨b, o, _, k1, k2, k3⟩ := hx.at i hi
    simp [hn', h15, h5, h17, k1, k3, byteAV, kseq_normal]
    rw [kloop_normal]
    refine ⟨n - (i + 1), by omega, hJ _ _ _ ⟨i + 1, rfl, by omega, ?_, ?_, rfl⟩⟩
    · simp; rw [foldl_take _ _ _ hi]; rfl
    · simp [wrap_nat i (by omega)]
  · have : i = n := by rw [ilt_false] at hb; omega
    subst this
    simp [hn', h5, kseq_normal, getN, ← hcl]
    exact hp
end Go.Eng.L35
