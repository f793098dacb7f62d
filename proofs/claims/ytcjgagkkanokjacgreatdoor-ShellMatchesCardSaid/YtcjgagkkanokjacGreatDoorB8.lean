/- Law 41: the reference's fits. -/
import Derived.Test.YtcjgagkkanokjacGreatDoorB7
namespace Go.Eng.L41
open Go.Proofs Go.Eng
/-- An element of a pattern. -/
abbrev El := Bool × UInt8
def ec (e : El) : List AV := [.bool e.1, byteAV e.2]
/-- Whether elements match a string. -/
def fitsL : List El → List UInt8 → Bool → Bool
  | [], s, _ => s == []
  | e :: l, s, first =>
    let point := first && s.head? == some 46
    if e.1 && e.2 == 42 then (List.range (s.length + 1)).any fun i => !(decide (0 < i) && point) && fitsL l (s.drop i) (first && decide (i = 0))
    else (!(s == []) && ((e.1 && !point) || (!e.1 && s.head? == some e.2))) && fitsL l (s.drop 1) false
def Els (h : AHeap) (x : AV) (l : List El) : Prop := Sl h 2 x (l.map ec)
theorem Els.len {h : AHeap} {x : AV} {l : List El} (hw : Els h x l) : plen Tryz.prog 48 x = some (.int .i64 (l.length : Int)) := by
  have := Sl.len hw sl48
  simpa using this
theorem Els.head {h : AHeap} {x : AV} {e : El} {l : List El} (hw : Els h x (e :: l)) : ∃ b o, pindexAddr Tryz.prog 48 x (.int .i64 0) = some (.ptr b o) ∧ atCells Tryz.prog 4 (h.get b) o = some (.bool e.1) ∧ atCells Tryz.prog 5 (h.get b) (o + 1) = some (byteAV e.2) := by
  obtain ⟨b, o, h0, h1, h2, _, h3⟩ := Sl.at_blk hw sl48 sz50 0 (by simp)
  exact ⟨b, o, h1, by simpa [ec] using h3 0 4 ag4 (by omega), by simpa [ec] using h3 1 5 ag5 (by omega)⟩
theorem Els.tail {h : AHeap} {x : AV} {e : El} {l : List El} (hw : Els h x (e :: l)) : ∃ x', pslice Tryz.prog 48 x (some (.int .i64 1)) none none = some x' ∧ Els h x' l := by
  obtain ⟨x', h1, h2, _⟩ := Sl.slice hw sl48 sz50 (lo := some (.int .i64 1)) (hi := none) (i := 1) (j := l.length + 1) rfl (by simp [bnd]) (by omega) (by simp)
  refine ⟨x', h1, ?_⟩
  have e : (((e :: l).map ec).drop 1).take (l.length + 1 - 1) = l.map ec := by simp [List.take_of_length_le]
  rw [e] at h2
  exact h2
theorem sls_one (c : UInt8) (s : List UInt8) : pslice Tryz.prog 9 (.str (c :: s)) (some (.int .i64 1)) none none = some (.str s) := by
  have := sls_lo (c :: s) 1 (by simp)
  simpa using this
theorem b42 (c d : UInt8) {k : Int} (hk : k = (d.toNat : Int)) : ieq (c.toNat : Int) k = (c == d) := by
  subst hk
  rw [Bool.eq_iff_iff, ieq_true, beq_iff_eq]
  constructor
  · intro h; exact UInt8.toNat_inj.1 (by omega)
  · intro h; rw [h]
variable [O41]
theorem fits_sp (h : AHeap) : ∀ (l : List El) (x : AV) (s : List UInt8) (first : Bool), Els h x l → s.length ≤ 60 → l.length ≤ 1000 → Ca Tryz.prog 20 [x, .str s, .bool first] h fun r h' => r = .bool (fitsL l s first) ∧ h' = h
  | [], x, s, first, hx, hs, hl => by
    refine ci Tryz.func20 rfl (by decide) ?_
    intro fr hn hg
    replace hn : fr.n = 95 := hn
    have h0 : fr.get 0 = some x := hg 0 (by simp)
    have h1 : fr.get 1 = some (.str s) := hg 1 (by simp)
    clear hg
    show AW _ _ _ _ _
    have hlen : plen Tryz.prog 48 x = some (.int .i64 0) := hx.len
    simp [hn, h0, h1, hlen, kseq_normal, show ieq 0 0 = true by rfl, fitsL]
  | e :: l, x, s, first, hx, hs, hl => by
    refine ci Tryz.func20 rfl (by decide) ?_
    intro fr hn hg
    replace hn : fr.n = 95 := hn
    have h0 : fr.get 0 = some x := hg 0 (by simp)
    have h1 : fr.get 1 = some (.str s) := hg 1 (by simp)
    have h2 : fr.get 2 = some (.bool first) := hg 2 (by simp)
    clear hg
    show AW _ _ _ _ _
    have e0 : ieq ((l.length : Int) + 1) 0 = false := by rw [ieq_false]; omega
    simp [hn, h0, h1, hx.len, e0]
    rw [kseq_normal]
    simp [hn, h0, h1, hx.len, e0]
    rw [kseq_normal]
    simp [hn, h0, h1, hx.len, e0]
    rw [kseq_normal, AW_seq]
    obtain ⟨pt, hpt⟩ : ∃ pt, pt = (first && s.head? == some 46) := ⟨_, rfl⟩
    refine AW_cut_n (fun fr2 h2 => h2 = h ∧ fr2.n = 95 ∧ fr2.get 0 = some x ∧ fr2.get 1 = some (.str s) ∧ fr2.get 2 = some (.bool first) ∧ fr2.get 7 = some (.bool pt)) ?_ ?_
    · cases hf : first with
      | false => rw [hf] at h2; simp [hn, h0, h1, h2, hpt, hf]
      | true =>
        rw [hf] at h2
        cases hs' : s with
        | nil => rw [hs'] at h1; simp [hn, h0, h1, h2, hpt, hf, hs']
        | cons d r =>
          rw [hs'] at h1
          have i0 : pindex Tryz.prog 9 (.str (d :: r)) (.int .i64 0) = some (byteAV d) := ix9 (d :: r) 0
          simp [hn, h0, h1, h2, hpt, hf, hs', i0, byteAV]
          exact b42 d 46 rfl
    rintro fr2 h' ⟨rfl, hn2, k0, k1, k2, k7⟩
    rw [kseq_normal, AW_seq, AW_seq]
    obtain ⟨b, o, g1, g2, g3⟩ := hx.head
    obtain ⟨st, hst⟩ : ∃ st, st = (e.1 && e.2 == 42) := ⟨_, rfl⟩
    refine AW_cut_n (fun fr3 h3 => h3 = h' ∧ fr3.n = 95 ∧ fr3.get 0 = some x ∧ fr3.get 1 = some (.str s) ∧ fr3.get 2 = some (.bool first) ∧ fr3.get 7 = some (.bool pt) ∧ fr3.get 34 = some (.bool st)) ?_ ?_
    · cases he : e.1 with
      | false => rw [he] at g2; simp [hn2, k0, k1, k2, k7, g1, g2, g3, hst, he]
      | true =>
        rw [he] at g2
        simp [hn2, k0, k1, k2, k7, g1, g2, g3, hst, he, byteAV]
        exact b42 e.2 42 rfl
    rintro fr3 h' ⟨rfl, hn3, m0, m1, m2, m7, m34⟩
    rw [kseq_normal]
    obtain ⟨x', hx1, hx2⟩ := hx.tail
    simp [hn3, m0, m1, m2, m34]
    refine Br.mk (fun hst' => ?_) (fun hst' => ?_)
    · rw [hst'] at hst
      have efit : fitsL (e :: l) s first = (List.range (s.length + 1)).any fun i => !(decide (0 < i) && pt) && fitsL l (s.drop i) (first && decide (i = 0)) := by
        simp only [fitsL]
        rw [if_pos hst.symm, hpt]
      rw [efit]
      simp [hn3, m0, m1, m2, m7, m34, kseq_normal]
      refine AW_loop_fr (fun m fr4 h4 => ∃ i, m = s.length + 1 - i ∧ i ≤ s.length + 1 ∧ fr4.get 8 = some (.int .i64 (i : Nat)) ∧ (∀ i', i' < i → (!(decide (0 < i') && pt) && fitsL l (s.drop i') (first && decide (i' = 0))) = false) ∧ h4 = h') (s.length + 1)
        ⟨0, by simp, by omega, by simp [hn3], by simp, rfl⟩ ?_
      rintro J hJ m fr4 h4 ⟨i, rfl, hi, h8, hno, rfl⟩ hfr
      have hn4 : fr4.n = 95 := hfr.1.trans (by simp [hn3])
      have n0 : fr4.get 0 = some x := (hfr.2 0 (by kernel_rfl)).trans (by simp [m0])
      have n1 : fr4.get 1 = some (.str s) := (hfr.2 1 (by kernel_rfl)).trans (by simp [m1])
      have n2 : fr4.get 2 = some (.bool first) := (hfr.2 2 (by kernel_rfl)).trans (by simp [m2])
      have n7 : fr4.get 7 = some (.bool pt) := (hfr.2 7 (by kernel_rfl)).trans (by simp [m7])
      clear hfr
      rw [AW_seq, AW_seq]
      obtain ⟨go, hgo⟩ : ∃ go, go = (decide (i ≤ s.length) && !(decide (0 < i) && pt)) := ⟨_, rfl⟩
      refine AW_cut_n (fun fr5 h5 => h5 = h4 ∧ fr5.n = 95 ∧ fr5.get 0 = some x ∧ fr5.get 1 = some (.str s) ∧ fr5.get 2 = some (.bool first) ∧ fr5.get 7 = some (.bool pt) ∧ fr5.get 8 = some (.int .i64 (i : Nat)) ∧ fr5.get 46 = some (.bool go)) ?_ ?_
      · by_cases hil : i ≤ s.length
        · have e1 : ilt (s.length : Int) (i : Int) = false := by rw [ilt_false]; omega
          by_cases hi0 : 0 < i
          · have e2 : ilt 0 (i : Int) = true := by rw [ilt_true]; omega
            simp [hn4, n0, n1, n2, n7, h8, e1, e2, hgo, hil, hi0]
          · have e2 : ilt 0 (i : Int) = false := by rw [ilt_false]; omega
            simp [hn4, n0, n1, n2, n7, h8, e1, e2, hgo, hil, hi0]
        · have e1 : ilt (s.length : Int) (i : Int) = true := by rw [ilt_true]; omega
          simp [hn4, n0, n1, n2, n7, h8, e1, hgo, hil]
      rintro fr5 h5 ⟨rfl, hn5, p0, p1, p2, p7, p8, p46⟩
      rw [kseq_normal]
      simp [p46]
      refine Br.mk (fun hg => ?_) (fun hg => ?_)
      · rw [hg] at hgo
        have hgo1 : i ≤ s.length ∧ (decide (0 < i) && pt) = false := by
          have := hgo.symm
          simpa only [Bool.and_eq_true, decide_eq_true_eq, Bool.not_eq_true'] using this
        obtain ⟨hil, hgo2⟩ := hgo1
        simp [kseq_normal]
        refine AW_region_t _ _ _ _ _ (by kernel_rfl) ?_
        have esl := sls_lo s i hil
        have hFi : ∀ b, fitsL l (s.drop i) (first && decide (i = 0)) = b → (!(decide (0 < i) && pt) && fitsL l (s.drop i) (first && decide (i = 0))) = b := fun b hb => by rw [hgo2]; simpa using hb
        obtain ⟨fi, hfi⟩ : ∃ fi, fi = (first && decide (i = 0)) := ⟨_, rfl⟩
        have e3 : ieq (i : Int) 0 = decide (i = 0) := by rw [Bool.eq_iff_iff, ieq_true]; simp
        have hdl : (s.drop i).length ≤ 60 := by rw [List.length_drop]; omega
        have hll : l.length ≤ 1000 := by have h9 := hl; rw [List.length_cons] at h9; omega
        have hmem : fitsL l (s.drop i) fi = true → (List.range (s.length + 1)).any (fun i => !(decide (0 < i) && pt) && fitsL l (s.drop i) (first && decide (i = 0))) = true := by
          intro hf
          rw [List.any_eq_true]
          refine ⟨i, by simp; omega, ?_⟩
          rw [hfi] at hf
          rw [hgo2, hf]; rfl
        have hcont : fitsL l (s.drop i) fi = false → ∀ (fr6 : AFrame), fr6.get 8 = some (.int .i64 ((i + 1 : Nat) : Int)) → ∃ j, j < s.length + 1 - i ∧ J j fr6 h5 := by
          intro hf fr6 h8'
          refine ⟨s.length + 1 - (i + 1), by omega, hJ _ _ _ ⟨i + 1, rfl, by omega, h8', fun i' hi' => ?_, rfl⟩⟩
          by_cases e : i' = i
          · subst e; rw [hfi] at hf; rw [hf]; simp
          · exact hno i' (by omega)
        have step : ∀ (fr6 : AFrame), True → True := fun _ _ => trivial
        cases hff : first with
        | false =>
          rw [hff] at p2
          have hfi' : fi = false := by rw [hfi, hff]; rfl
          rw [hfi'] at hmem hcont
          simp [hn5, p0, p1, p2, p7, p8, hx1, esl, e3]
          refine Ca.mono (fits_sp h5 l x' (s.drop i) false hx2 hdl hll) ?_
          rintro r h6 ⟨rfl, rfl⟩
          simp [hn5, kseq_normal]
          refine Br.mk (fun hb => ?_) (fun hb => ?_)
          · have := hmem hb
            rw [hff] at this
            simp [hn5, kseq_normal]
            simpa using this
          · simp [hn5, p8, kseq_normal, wrap_nat i (by omega)]
            rw [kloop_normal]
            exact hcont hb _ (by simp)
        | true =>
          rw [hff] at p2
          have hfi' : fi = decide (i = 0) := by rw [hfi, hff]; rfl
          rw [hfi'] at hmem hcont
          simp [hn5, p0, p1, p2, p7, p8, hx1, esl, e3]
          refine Ca.mono (fits_sp h5 l x' (s.drop i) (decide (i = 0)) hx2 hdl hll) ?_
          rintro r h6 ⟨rfl, rfl⟩
          simp [hn5, kseq_normal]
          refine Br.mk (fun hb => ?_) (fun hb => ?_)
          · have := hmem hb
            rw [hff] at this
            simp [hn5, kseq_normal]
            simpa using this
          · simp [hn5, p8, kseq_normal, wrap_nat i (by omega)]
            rw [kloop_normal]
            exact hcont hb _ (by simp)
      · rw [hg] at hgo
        simp [hn5, kseq_normal]
        intro k hk hor
        by_cases hki : k < i
        · have := hno k hki
          rcases hor with h0 | h0
          · subst h0; simpa using this
          · rw [h0] at this; simpa using this
        · exfalso
          have := hgo.symm
          simp only [Bool.and_eq_false_iff, decide_eq_false_iff_not, Bool.not_eq_false', Bool.and_eq_true, decide_eq_true_eq] at this
          rcases this with h0 | ⟨h0, h1⟩
          · omega
          · rcases hor with h2 | h2
            · omega
            · rw [h1] at h2; cases h2
    · rw [hst'] at hst
      have efit : fitsL (e :: l) s first = ((!(s == []) && ((e.1 && !pt) || (!e.1 && s.head? == some e.2))) && fitsL l (s.drop 1) false) := by
        simp only [fitsL]
        rw [if_neg (by rw [← hst]; simp), hpt]
      rw [efit]
      have hll : l.length ≤ 1000 := by have h9 := hl; rw [List.length_cons] at h9; omega
      rw [kseq_normal, AW_seq]
      refine AW_region_t _ _ _ _ _ (by kernel_rfl) ?_
      cases hs' : s with
      | nil =>
        rw [hs'] at m1
        simp [hn3, m0, m1, m2, m7]
        try simp [hn3, kseq_normal]
      | cons d r =>
        rw [hs'] at m1
        have i0 : pindex Tryz.prog 9 (.str (d :: r)) (.int .i64 0) = some (byteAV d) := ix9 (d :: r) 0
        have hsr : r.length ≤ 60 := by rw [hs', List.length_cons] at hs; omega
        have ih := fits_sp h' l x' r false hx2 hsr hll
        cases he : e.1 with
        | true =>
          rw [he] at g2
          cases hp' : pt with
          | true =>
            rw [hp'] at m7
            simp [hn3, m0, m1, m2, m7, g1, g2, g3, i0, byteAV, hx1, sls_one, kseq_normal]
          | false =>
            rw [hp'] at m7
            simp [hn3, m0, m1, m2, m7, g1, g2, g3, i0, byteAV, hx1, sls_one]
            refine Ca.mono ih ?_
            rintro r2 h6 ⟨rfl, rfl⟩
            simp [hn3, kseq_normal]
        | false =>
          rw [he] at g2
          have ed : ieq (e.2.toNat : Int) (d.toNat : Int) = (e.2 == d) := b42 e.2 d rfl
          have ed2 : (some d == some e.2) = (e.2 == d) := by
            rw [Bool.eq_iff_iff]; simp; exact eq_comm
          cases hq : (e.2 == d) with
          | true =>
            rw [hq] at ed ed2
            simp [hn3, m0, m1, m2, m7, g1, g2, g3, i0, byteAV, hx1, sls_one, ed]
            refine Ca.mono ih ?_
            rintro r2 h6 ⟨rfl, rfl⟩
            simp [hn3, kseq_normal, ed2]
            exact fun _ => by simpa using ed2
          | false =>
            rw [hq] at ed ed2
            simp [hn3, m0, m1, m2, m7, g1, g2, g3, i0, byteAV, hx1, sls_one, ed, ed2, kseq_normal]
end Go.Eng.L41
