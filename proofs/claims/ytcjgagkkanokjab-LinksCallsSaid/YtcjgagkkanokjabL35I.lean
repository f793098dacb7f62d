/- Law 35: bytes into frames: the reference. -/
import Derived.Test.YtcjgagkkanokjabL35G
namespace Go.Eng.L35
open Go.Proofs Go.Eng
/-- What is wrong, as the reference looks at it. -/
def bad1 (bs : List UInt8) : Bool := ilt (bs.length : Int) 24 || !(ieq (IntKind.i64.wrap (fld bs 2 2)) (IntKind.i64.wrap ((bs.length : Int) - 24))) || ilt 4096 (IntKind.i64.wrap ((bs.length : Int) - 24))
def bad2 (bs : List UInt8) : Bool :=
  let f := decFm bs
  (!(ieq f.kind 1) && !(ieq f.kind 2)) || ilt 1 (by1 bs) || (ieq f.kind 2 && (f.last || ilt 0 (f.data.length : Int))) || ilt f.msg 1 || ilt 2147483647 f.frag
theorem by1_nn (bs : List UInt8) : 0 ≤ by1 bs := by unfold by1; omega
theorem decE_ref {bs : List UInt8} (hl : bs.length ≤ 100000000) : decE bs = if bad1 bs then 12 else if bad2 bs then 12 else if !(ieq (fld bs 16 8) (digN (digSel bs))) then 6 else 0 := by
  by_cases h24 : bs.length < 24
  · have e1 : ilt (bs.length : Int) 24 = true := by rw [ilt_true]; omega
    simp [decE, bad1, e1]
  · have e1 : ilt (bs.length : Int) 24 = false := by rw [ilt_false]; omega
    have e2 : IntKind.i64.wrap ((bs.length : Int) - 24) = (((decFm bs).data.length : Nat) : Int) := by rw [wrap_in (by omega)]; simp [decFm]; omega
    have e3 : ilt 4120 (bs.length : Int) = ilt 4096 (((decFm bs).data.length : Nat) : Int) := by rw [Bool.eq_iff_iff, ilt_true, ilt_true]; simp [decFm]; omega
    have e4 : (!(ieq (decFm bs).kind 1 || (ieq (decFm bs).kind 2 && ieq (by1 bs) 0 && ieq ((decFm bs).data.length : Int) 0)) || ilt 1 (by1 bs)) =
        ((!(ieq (decFm bs).kind 1) && !(ieq (decFm bs).kind 2)) || ilt 1 (by1 bs) || (ieq (decFm bs).kind 2 && ((decFm bs).last || ilt 0 ((decFm bs).data.length : Int)))) := by
      have hlast : (decFm bs).last = ieq (by1 bs) 1 := rfl
      rw [hlast]
      have hnn := by1_nn bs
      generalize by1 bs = y at *
      generalize (decFm bs).kind = k
      have hd : ilt 0 ((decFm bs).data.length : Int) = !(ieq ((decFm bs).data.length : Int) 0) := by
        rw [Bool.eq_iff_iff, ilt_true, Bool.not_eq_true', ieq_false]; omega
      rw [hd]
      generalize ieq ((decFm bs).data.length : Int) 0 = z
      by_cases hy : 1 < y
      · have : ilt 1 y = true := ilt_true.2 hy
        simp [this]
      · have h1 : ilt 1 y = false := ilt_false.2 (by omega)
        have h2 : ieq y 1 = !(ieq y 0) := by rw [Bool.eq_iff_iff, ieq_true, Bool.not_eq_true', ieq_false]; omega
        rw [h1, h2]
        by_cases hk : k = 1
        · have k1 : ieq k 1 = true := ieq_true.2 hk
          have k2 : ieq k 2 = false := ieq_false.2 (by omega)
          simp [k1, k2]
        · have k1 : ieq k 1 = false := ieq_false.2 hk
          rw [k1]
          cases ieq k 2 <;> cases ieq y 0 <;> cases z <;> rfl
    unfold decE bad1 bad2 fmtP
    simp only [e1, e2, e3, Bool.false_or, ← e4]
    have key : ∀ (A B C D E : Bool) (X : Int), (if C = true then (12 : Int) else if (A || !B || D || E) = true then 12 else X) = if (!B || C) = true then 12 else if (A || D || E) = true then 12 else X := by
      intro A B C D E X
      cases A <;> cases B <;> cases C <;> simp
    exact key _ _ _ _ _ _
variable [O35]
theorem rdec_sp (h : AHeap) (x : AV) (bs : List UInt8) (hx : Bs h x bs) (hl : bs.length ≤ 100000000) :
    Ca Try.prog 41 [x] h fun r h' => ∃ d, r = .tuple [.agg ((decO bs).cells d), i64 (decE bs)] ∧ Bs h' d (decO bs).data ∧ Pres h h' ∧ Fresh h d := by
  have hE := decE_ref hl
  refine ci Try.func41 rfl (by decide) ?_
  intro fr hn hg
  replace hn : fr.n = 100 := hn
  have h0 : fr.get 0 = some x := hg 0 (by simp)
  clear hg
  show AW _ _ _ _ _
  have hp1 : Pres h (h.new (.cells 92 (Fm.cells ⟨0, false, 0, 0, []⟩ .nilsl) (some 0))) := (Pres.refl h).new _
  have hb1 : (h.new (.cells 92 (Fm.cells ⟨0, false, 0, 0, []⟩ .nilsl) (some 0))).get h.next = .cells 92 (Fm.cells ⟨0, false, 0, 0, []⟩ .nilsl) (some 0) := by simp
  have hn1 : (h.new (.cells 92 (Fm.cells ⟨0, false, 0, 0, []⟩ .nilsl) (some 0))).next = h.next + 1 := by simp
  simp [hn, h0]
  rw [kseq_normal]
  have hx1 := hx.pres hp1
  generalize (h.new (.cells 92 (Fm.cells ⟨0, false, 0, 0, []⟩ .nilsl) (some 0))) = h1 at *
  have hlen := hx1.len
  -- the end with an error
  have bad : ∀ (e : Int) (fr' : AFrame) (h' : AHeap), e ≠ 0 → decE bs = e → fr'.get 2 = some (.ptr h.next 0) → fr'.get 3 = some (i64 e) → Pres h1 h' →
      kfun Try.prog [ResultVar.cell 2 92, ResultVar.tmp 3] (fun r h' => ∃ d, r = .tuple [.agg ((decO bs).cells d), i64 (decE bs)] ∧ Bs h' d (decO bs).data ∧ Pres h h' ∧ Fresh h d) .ret fr' (h'.set h.next (.cells 92 (Fm.cells ⟨0, false, 0, 0, []⟩ .nilsl) (some 0))) := fun e fr' h' he hd g2 g3 hp => by
    rw [kfun_ret]
    simp [g2, g3]
    have := hp.1
    refine ⟨.nilsl, ⟨by rw [decO_no (by omega)]; exact ⟨rfl, rfl, rfl, rfl, rfl⟩, hd.symm⟩, by rw [decO_no (by omega)]; exact Sl.nil _ _, ⟨by simp; omega, fun c hc => ?_⟩, fun c hc => by simp [blk] at hc⟩
    rw [AHeap.get_set, if_neg (by omega), hp.2 _ (by omega), hp1.2 _ hc]
  rw [AW_seq]
  refine AW_cut (Q' := fun e fr' h' => (e = .ret ∧ bad1 bs = true ∧ fr'.get 2 = some (.ptr h.next 0) ∧ fr'.get 3 = some (i64 12) ∧ h' = h1.set h.next (.cells 92 (Fm.cells ⟨0, false, 0, 0, []⟩ .nilsl) (some 0))) ∨ (e = .normal ∧ bad1 bs = false ∧ fr'.n = 100 ∧ fr'.get 0 = some x ∧ fr'.get 2 = some (.ptr h.next 0) ∧ h' = h1)) ?_ ?_
  · simp [hn, h0, hlen, kseq_normal, pb92]
    refine Br.mk (fun hb => ?_) (fun hb => ?_)
    · simp [hb, hn, h0, hlen, kseq_normal, pb92, hb1, stc_all sz92, bad1]
    · have hl24 : 24 ≤ bs.length := by rw [ilt_false] at hb; omega
      obtain ⟨x2, hx2, hs2, _⟩ := hx1.slice (lo := some (i64 2)) (hi := some (i64 4)) (i := 2) (j := 4) (by rfl) (by rfl) (by omega) (by omega)
      simp [hb, hn, h0, hlen, kseq_normal, pb92, hx2]
      refine (rget_sp h1 x2 _ hs2 (by simp; omega)).mono ?_
      rintro r h2 ⟨rfl, rfl⟩
      have ef : getN (List.take (4 - 2) (bs.drop 2)) = fld bs 2 2 := rfl
      rw [ef]
      simp [hb, hn, h0, hlen, kseq_normal, pb92]
      repeat' (first | refine Br.mk (fun hb => ?_) (fun hb => ?_) | simp [*, kseq_normal, pb92, stc_all sz92, bad1])
  clear hn h0
  rintro e fr2 h2 (⟨rfl, he, k2, k3, rfl⟩ | ⟨rfl, hc1, hn, g0, g2, rfl⟩)
  · rw [kseq_ret]; exact bad 12 fr2 h1 (by omega) (by rw [hE, if_pos he]) k2 k3 (Pres.refl _)
  have hl24 : 24 ≤ bs.length := by
    simp only [bad1, Bool.or_eq_false_iff, ilt_false] at hc1
    omega
  have hE0 : decE bs = if bad2 bs = true then 12 else if (!(ieq (fld bs 16 8) (digN (digSel bs)))) = true then 6 else 0 := by rw [hE, hc1]; rfl
  clear hE hc1 bad
  rw [kseq_normal, AW_seq]
  have hy0 : by0 bs = (bs[0]'(by omega)).toNat := by unfold by0; rw [List.getElem?_eq_getElem (by omega)]; rfl
  have hy1 : by1 bs = (bs[1]'(by omega)).toNat := by unfold by1; rw [List.getElem?_eq_getElem (by omega)]; rfl
  obtain ⟨xb0, xo0, _, ha0, hn0, hv0⟩ : ∃ b o, blk x = some b ∧ pindexAddr Try.prog 34 x (i64 0) = some (.ptr b o) ∧ b < h2.next ∧ atCells Try.prog 5 (h2.get b) o = some (byteAV (bs[0]'(by omega))) := hx1.at 0 (by omega)
  obtain ⟨xb1, xo1, _, ha1, hn1', hv1⟩ : ∃ b o, blk x = some b ∧ pindexAddr Try.prog 34 x (i64 1) = some (.ptr b o) ∧ b < h2.next ∧ atCells Try.prog 5 (h2.get b) o = some (byteAV (bs[1]'(by omega))) := hx1.at 1 (by omega)
  obtain ⟨x4, hx4, hs4, _⟩ := hx1.slice (lo := some (i64 4)) (hi := some (i64 12)) (i := 4) (j := 12) (by rfl) (by rfl) (by omega) (by omega)
  obtain ⟨x12, hx12, hs12, _⟩ := hx1.slice (lo := some (i64 12)) (hi := some (i64 16)) (i := 12) (j := 16) (by rfl) (by rfl) (by omega) (by omega)
  obtain ⟨x24, hx24, hs24, _⟩ := hx1.slice (lo := some (i64 24)) (hi := none) (i := 24) (j := bs.length) (by rfl) (by rfl) (by omega) (by omega)
  rw [List.take_of_length_le (by simp)] at hs24
  generalize hc0 : bs[0]'(by omega) = c0 at *
  generalize hcc1 : bs[1]'(by omega) = c1 at *
  refine AW_region_d [.plain, .plain, .load [0], .plain, .plain, .plain, .load [0], .plain, .plain, .plain, .eff [2, 6], .plain, .plain, .plain, .eff [2, 6], .plain, .plain, .plain, .plain, .eff [2, 6], .plain, .plain, .eff []] (by kernel_rfl) (by kernel_rfl) ?_
  refine DW_cut (fun fr' h' => fr'.n = 100 ∧ fr'.get 0 = some x ∧ fr'.get 2 = some (.ptr h.next 0) ∧ ∃ p d, fr'.get 4 = some (.ptr p 0) ∧ h'.get p = .cells 92 ((decFm bs).cells d) (some 0) ∧ Bs h' d (decFm bs).data ∧ Pres h2 h' ∧ p < h'.next ∧ h2.next ≤ p ∧ Fresh h2 d) ?_ ?_
  · simp [hn, g0, g2, ha0, hv0, ha1, hv1, hx4, byteAV]
    refine (rget_sp h2 x4 _ hs4 (by simp; omega)).mono ?_
    rintro r h3 ⟨rfl, rfl⟩
    simp [hn, g0, g2, ha0, hv0, ha1, hv1, hx12, byteAV]
    refine (rget_sp h3 x12 _ hs12 (by simp; omega)).mono ?_
    rintro r h4 ⟨rfl, rfl⟩
    have hp3 : Pres h4 (h4.new (.cells 5 [] (some 0))) := (Pres.refl h4).new _
    obtain ⟨d, h5, had, hgd, hp5, hfd⟩ := appF (h0 := h4) (h := h4.new (.cells 5 [] (some 0))) (x := .sl h4.next 0 0 0 (.at_ 0)) (l := []) hp3 (fun c hc => by simp [blk] at hc; omega) Gf.empty (hs24.pres hp3) (by simp; omega)
    obtain ⟨hd1, hd2, hd3⟩ := hgd.bs.one
    simp [hn, g0, g2, ha0, hv0, ha1, hv1, hx24, byteAV]
    rw [had]
    simp [hn, g0, g2, ha0, hv0, ha1, hv1, byteAV, pb92, splice, hd1, hd2, stc_all sz92, hp5.2 xb0 hn0, hp5.2 xb1 hn1']
    have hpn := hp5.1
    refine ⟨d, ⟨by rw [← hy0]; rfl, by rw [← hy1]; rfl, rfl, rfl, rfl⟩, Sl.keep hgd.bs (by simp) fun c hc hlt => by rw [AHeap.get_set, if_neg (by omega), AHeap.get_new, if_neg (by omega)], Pres.set (hp5.new _) hpn _, hpn, hfd⟩
  clear hn g0 g2
  rintro fr3 h3 ⟨hn, g0, g2, p, d, g4, hpb, hd3, hp3, hpn, hpn2, hfd⟩
  have hdl := hd3.len
  have hx3 := hx1.pres hp3
  have hpb3 : h3.get h.next = .cells 92 (Fm.cells ⟨0, false, 0, 0, []⟩ .nilsl) (some 0) := (hp3.2 _ (by omega)).trans hb1
  have hv1' := (congrArg (fun o => atCells Try.prog 5 o xo1) (hp3.2 xb1 hn1')).trans hv1
  have hb2 : bad2 bs = ((!(ieq (decFm bs).kind 1) && !(ieq (decFm bs).kind 2)) || ilt 1 (by1 bs) || (ieq (decFm bs).kind 2 && ((decFm bs).last || ilt 0 ((decFm bs).data.length : Int))) || ilt (decFm bs).msg 1 || ilt 2147483647 (decFm bs).frag) := rfl
  rw [hy1] at hb2
  generalize hF : decFm bs = F at *
  rw [kseq_normal, AW_seq, AW_seq, AW_region_f]
  refine OW_cut (fun fr' h' => h' = h3 ∧ fr'.n = 100 ∧ fr'.get 0 = some x ∧ fr'.get 2 = some (.ptr h.next 0) ∧ fr'.get 4 = some (.ptr p 0) ∧ fr'.get 84 = some (.bool (bad2 bs))) ?_ ?_
  · rw [hb2]
    simp [hn, g0, g2, g4, hpb, ha1, hv1', byteAV, hdl]
    repeat' (first | refine Br.mk (fun hb => ?_) (fun hb => ?_) | simp [*, byteAV])
  clear hn g0 g2 g4
  rintro fr4 h4 ⟨rfl, hn, g0, g2, g4, gc⟩
  have hp1n := hp1.1
  have hp3n := hp3.1
  have hd3' : ∀ h', Pres h4 h' → Bs (h'.set h.next (.cells 92 (F.cells d) (some 0))) d F.data := fun h' hp => Sl.keep (hd3.pres hp) (by simp) fun c hc hlt => by rw [AHeap.get_set, if_neg (by have := hfd c hc; omega)]
  have bad3 : ∀ (e : Int) (h' : AHeap), e ≠ 0 → decE bs = e → Pres h4 h' →
      ∃ d, ((0 = (decO bs).kind ∧ (decO bs).last = false ∧ 0 = (decO bs).msg ∧ 0 = (decO bs).frag ∧ AV.nilsl = d) ∧ e = decE bs) ∧ Bs (h'.set h.next (.cells 92 (Fm.cells ⟨0, false, 0, 0, []⟩ .nilsl) (some 0))) d (decO bs).data ∧ Pres h (h'.set h.next (.cells 92 (Fm.cells ⟨0, false, 0, 0, []⟩ .nilsl) (some 0))) ∧ Fresh h d := fun e h' he hd hp => by
    have := hp.1
    refine ⟨.nilsl, ⟨by rw [decO_no (by omega)]; exact ⟨rfl, rfl, rfl, rfl, rfl⟩, hd.symm⟩, by rw [decO_no (by omega)]; exact Sl.nil _ _, ⟨by simp; omega, fun c hc => ?_⟩, fun c hc => by simp [blk] at hc⟩
    rw [AHeap.get_set, if_neg (by omega), hp.2 _ (by omega), hp3.2 _ (by omega), hp1.2 _ hc]
  simp [hn, gc, kseq_normal]
  refine Br.mk (fun hb => ?_) (fun hb => ?_)
  · have e12 : decE bs = 12 := by rw [hE0]; simp [hb]
    simp [hn, g2, pb92, hpb3, stc_all sz92, kseq_normal]
    exact bad3 12 h4 (by omega) e12 (Pres.refl _)
  obtain ⟨y1, hy1', hs1, _⟩ := hx3.slice (lo := some (i64 16)) (hi := some (i64 24)) (i := 16) (j := 24) (by rfl) (by rfl) (by omega) (by omega)
  obtain ⟨y2, hy2', hs2, _⟩ := hx3.slice (lo := none) (hi := some (i64 16)) (i := 0) (j := 16) (by rfl) (by rfl) (by omega) (by omega)
  obtain ⟨y3, hy3', hs3, _⟩ := hx3.slice (lo := some (i64 24)) (hi := none) (i := 24) (j := bs.length) (by rfl) (by rfl) (by omega) (by omega)
  rw [List.take_of_length_le (by simp)] at hs3
  refine AW_region_d [.plain, .plain, .eff [], .plain, .plain, .plain, .eff [], .plain, .plain, .eff [], .eff [], .plain] (by kernel_rfl) (by kernel_rfl) ?_
  refine DW_cut (fun fr' h' => Pres h4 h' ∧ fr'.n = 100 ∧ fr'.get 2 = some (.ptr h.next 0) ∧ fr'.get 4 = some (.ptr p 0) ∧ fr'.get 97 = some (.bool (!(ieq (fld bs 16 8) (digN (digSel bs)))))) ?_ ?_
  · simp [hn, g0, g2, g4, hy1']
    refine (rget_sp h4 y1 _ hs1 (by simp; omega)).mono ?_
    rintro r h5 ⟨rfl, rfl⟩
    have ef : getN (List.take (24 - 16) (bs.drop 16)) = fld bs 16 8 := rfl
    rw [ef]
    have hp5 : Pres h5 (h5.new (.cells 5 [] (some 0))) := (Pres.refl h5).new _
    obtain ⟨z1, h6, ha1', hg1, hp6, hf1⟩ := appF (h0 := h5) (h := h5.new (.cells 5 [] (some 0))) (x := .sl h5.next 0 0 0 (.at_ 0)) (l := []) hp5 (fun c hc => by simp [blk] at hc; omega) Gf.empty (hs2.pres hp5) (by simp; omega)
    simp [hn, g0, g2, g4, hy2']
    rw [ha1']
    obtain ⟨z2, h7, ha2', hg2, hp7, hf2⟩ := appF hp6 hf1 hg1 (hs3.pres hp6) (by simp; omega)
    simp [hn, g0, g2, g4, hy3']
    rw [ha2']
    simp [hn]
    refine (rdig_sp h7 z2 _ hg2.bs (by simp; omega)).mono ?_
    rintro r h8 ⟨rfl, rfl⟩
    simp [hn, g2, g4]
    exact ⟨hp7, by simp [digSel]⟩
  clear hn g0 g2 g4 gc
  rintro fr5 h5 ⟨hp5, hn, g2, g4, gc⟩
  have hb5 : h5.get h.next = .cells 92 (Fm.cells ⟨0, false, 0, 0, []⟩ .nilsl) (some 0) := (hp5.2 _ (by omega)).trans hpb3
  have hpb5 := (hp5.2 p hpn).trans hpb
  simp [hn, gc, kseq_normal]
  refine Br.mk (fun hc => ?_) (fun hc => ?_)
  · have e0 : decE bs = 0 := by rw [hE0]; simp [hb, hc]
    obtain ⟨hd1, hd2, hd3⟩ := hd3.one
    have hl5 := hp5.1
    simp [hn, g2, g4, hpb5, hb5, stc_all sz92, hd2, kseq_normal]
    rw [decO_ok e0, hF]
    refine ⟨d, ⟨⟨rfl, rfl, rfl, rfl, rfl⟩, e0.symm⟩, hd3' h5 hp5, ⟨by simp; omega, fun c hc => ?_⟩, fun c hc => by have := hfd c hc; omega⟩
    rw [AHeap.get_set, if_neg (by omega), hp5.2 _ (by omega), hp3.2 _ (by omega), hp1.2 _ hc]
  · have e6 : decE bs = 6 := by rw [hE0]; simp [hb, hc]
    simp [hn, g2, pb92, hb5, stc_all sz92, kseq_normal]
    exact bad3 6 h5 (by omega) e6 hp5
end Go.Eng.L35
