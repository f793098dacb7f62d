/- Law 41: shell.Match. -/
import Derived.Test.YtcjgagkkanokjacGreatDoorB6
namespace Go.Eng.L41
open Go.Proofs Go.Eng
/-- From place i to place j by a part. -/
def prel (p : Prt) (name : List UInt8) (i j : Nat) : Prop := if p.1 = 4 then wrel (p.2 == [42]) name i j else hasP (name.drop i) p.2 = true ∧ j = i + p.2.length
/-- What the first parts reach. -/
def rch (W : List Prt) (name : List UInt8) : Nat → Nat → Prop
  | 0, j => j = 0
  | i + 1, j => ∃ p k, W[i]? = some p ∧ k < name.length + 1 ∧ rch W name i k ∧ prel p name k j
def matched (W : List Prt) (name : List UInt8) : Prop := (∀ p ∈ W, p.1 ≠ 2 ∧ p.1 ≠ 3) ∧ rch W name W.length name.length
@[simp] theorem stc25 (cs : List AV) (hc : cs.length = 2) (p : Prt) : stc Tryz.prog 25 (.cells 25 cs (some 0)) 0 (.agg (pc p)) = some (.cells 25 (pc p) (some 0)) := by
  rw [stc_all sz25 hc rfl (by simp [pc, AV.one])]; rfl
theorem hasP_drop {s p : List UInt8} {i : Nat} (h : hasP (s.drop i) p = true) (hi : i ≤ s.length) : i + p.length ≤ s.length := by
  simp only [hasP, Bool.and_eq_true, decide_eq_true_eq, List.length_drop] at h
  omega
@[simp] theorem pc_0 (p : Prt) : (pc p)[0]? = some (.int .i64 p.1) := rfl
@[simp] theorem pc_1 (p : Prt) : (pc p)[1]? = some (.str p.2) := rfl
/-- A bool that says what a proposition says. -/
def BIs (r : AV) (p : Prop) : Prop := ∃ v, r = .bool v ∧ (v = true ↔ p)
theorem BIs.mk {v : Bool} {p : Prop} (h : v = true ↔ p) : BIs (.bool v) p := ⟨v, rfl, h⟩
variable [O41]
theorem match_sp (h : AHeap) (x : AV) (W : List Prt) (name : List UInt8) (hw : Wd h x W) (hl : name.length ≤ 60) (hW : W.length ≤ 12) : Ca Tryz.prog 8 [x, .str name] h fun r h' => Pres h h' ∧ BIs r (matched W name) := by
  refine ci Tryz.func8 rfl (by decide) ?_
  intro fr hn hg
  replace hn : fr.n = 70 := hn
  have h0 : fr.get 0 = some x := hg 0 (by simp)
  have h1 : fr.get 1 = some (.str name) := hg 1 (by simp)
  clear hg
  show AW _ _ _ _ _
  obtain ⟨n, hnn⟩ : ∃ n, n = name.length + 1 := ⟨_, rfl⟩
  have hn61 : n ≤ 61 := by omega
  have ew : IntKind.i64.wrap ((name.length : Int) + 1) = (n : Int) := by rw [wrap_in (by omega)]; omega
  have ei0 : pindexAddr Tryz.prog 45 (.sl h.next 0 0 n (.at_ n)) (.int .i64 0) = some (.ptr h.next 0) := ia45 h.next n 0 (by omega)
  simp [hn, h0, h1, hw.len23, kseq_normal, ew, pms45 n (by omega), ei0, st4s (show 0 < n by omega)]
  refine AW_loop_fr (fun m fr' h' => ∃ i g y, m = W.length - i ∧ i ≤ W.length ∧ fr'.get 19 = some (.int .i64 (i : Nat)) ∧ fr'.get 5 = some y ∧ BRow h' y n g ∧ Pres h h' ∧ (∀ j, g j = true ↔ rch W name i j) ∧ ∀ i' p, i' < i → W[i']? = some p → p.1 ≠ 2 ∧ p.1 ≠ 3) W.length
    ⟨0, _, .sl h.next 0 0 n (.at_ n), by simp, by omega, by simp, by simp, ⟨h.next, rfl, by simp, by simp; rfl⟩, ((Pres.refl h).new _).set (Nat.le_refl _) _, fun j => by simp [rch], by simp⟩ ?_
  rintro J hJ m fr' h' ⟨i, g, y, rfl, hi, h19, h5, hrow, hp, hgs, hks⟩ hfr
  have hn' : fr'.n = 70 := hfr.1.trans (by simp [hn])
  have h1' : fr'.get 1 = some (.str name) := (hfr.2 1 (by kernel_rfl)).trans (by simp [h1])
  have h17' : fr'.get 17 = some x := (hfr.2 17 (by kernel_rfl)).trans (by simp [hn, h0])
  have h18' : fr'.get 18 = some (.int .i64 (W.length : Int)) := (hfr.2 18 (by kernel_rfl)).trans (by simp)
  clear hfr
  simp [hn', h18', h19, kseq_normal]
  refine Br.mk (fun hb => ?_) (fun hb => ?_)
  · have hi : i < W.length := by rw [ilt_true] at hb; omega
    obtain ⟨b, o, e1, e2⟩ := (hw.pres hp).at23 i hi
    obtain ⟨p, hpi⟩ : ∃ p, p = W[i] := ⟨_, rfl⟩
    have hpi' : W[i]? = some p := by rw [hpi]; simp [hi]
    rw [← hpi] at e2
    obtain ⟨h2, eh2⟩ : ∃ h2, h2 = (h'.new (.cells 25 [.int .i64 0, .str []] (some 0))).set h'.next (.cells 25 (pc p) (some 0)) := ⟨_, rfl⟩
    have hp2 : Pres h' h2 := by rw [eh2]; exact ((Pres.refl h').new _).set (Nat.le_refl _) _
    have hg2 : h2.get h'.next = .cells 25 (pc p) (some 0) := by rw [eh2]; simp
    have hnx2 : h2.next = h'.next + 1 := by rw [eh2]; simp
    simp [hn', h17', h18', h19, e1, e2, kseq_normal, ← eh2, hg2]
    have hnot : ¬ (p.1 ≠ 2 ∧ p.1 ≠ 3) → ¬ matched W name := fun hx hm => hx (hm.1 p (List.mem_of_getElem? hpi'))
    have fin : ∀ (fr3 : AFrame) (h3 : AHeap) (y3 : AV) (g3 : Nat → Bool), p.1 ≠ 2 ∧ p.1 ≠ 3 → fr3.get 19 = some (.int .i64 ((i + 1 : Nat) : Int)) → fr3.get 5 = some y3 → BRow h3 y3 n g3 → Pres h h3 → (∀ j, g3 j = true ↔ ∃ k, k < n ∧ g k = true ∧ prel p name k j) → ∃ j, j < W.length - i ∧ J j fr3 h3 := by
      intro fr3 h3 y3 g3 a0 a1 a2 a3 a4 a5
      refine ⟨W.length - (i + 1), by omega, hJ _ _ _ ⟨i + 1, g3, y3, rfl, by omega, a1, a2, a3, a4, fun j => ?_, fun i' q b1 b2 => ?_⟩⟩
      · rw [a5]
        simp only [rch, hpi', Option.some.injEq]
        constructor
        · rintro ⟨k, b1, b2, b3⟩; exact ⟨p, k, rfl, by omega, (hgs k).1 b2, b3⟩
        · rintro ⟨q, k, rfl, b1, b2, b3⟩; exact ⟨k, by omega, (hgs k).2 b2, b3⟩
      · by_cases e : i' = i
        · subst e; rw [hpi'] at b2; cases b2; exact a0
        · exact hks i' q (by omega) b2
    by_cases k2 : p.1 = 2
    · have e2 : ieq p.1 2 = true := by rw [ieq_true]; exact k2
      simp [hn', e2, kseq_normal]
      exact ⟨hp.trans hp2, BIs.mk (by simp; exact hnot (by simp [k2]))⟩
    have e2 : ieq p.1 2 = false := by rw [ieq_false]; exact k2
    by_cases k3 : p.1 = 3
    · have e3 : ieq p.1 3 = true := by rw [ieq_true]; exact k3
      simp [hn', e2, e3, kseq_normal]
      exact ⟨hp.trans hp2, BIs.mk (by simp; exact hnot (by simp [k3]))⟩
    have e3 : ieq p.1 3 = false := by rw [ieq_false]; exact k3
    have hrow2 : BRow h2 y n g := hrow.pres hp2
    by_cases k4 : p.1 = 4
    · have e4 : ieq p.1 4 = true := by rw [ieq_true]; exact k4
      simp [hn', h5, h1', hg2, e2, e3, e4, kseq_normal]
      refine Ca.mono (wild_sp h2 y name (p.2 == [42]) g (by rw [← hnn]; exact hrow2) hl) ?_
      rintro r h3 ⟨hp3, g3, hr3, hg3⟩
      rw [← hnn] at hr3 hg3
      simp [hn', h19, kseq_normal]
      rw [kloop_normal]
      refine fin _ _ r g3 ⟨k2, k3⟩ (by simp [wrap_nat i (by omega)]) (by simp) hr3 ((hp.trans hp2).trans hp3) fun j => ?_
      rw [hg3]
      simp only [prel, k4, if_true]
    have e4 : ieq p.1 4 = false := by rw [ieq_false]; exact k4
    obtain ⟨b2, rfl, hb2, hg2'⟩ := hrow2
    simp [hn', h5, h1', hg2, e2, e3, e4, kseq_normal, pms45 n (by omega)]
    refine AW_loop_fr (fun m fr2 h3 => ∃ k g2, m = n - k ∧ k ≤ n ∧ fr2.get 30 = some (.int .i64 (k : Nat)) ∧ Pres h2 h3 ∧ h2.next < h3.next ∧ h3.get h2.next = .cells 4 (rowc n g2) (some 0) ∧ ∀ j, g2 j = true ↔ ∃ k', k' < k ∧ g k' = true ∧ prel p name k' j) n
      ⟨0, fun _ => false, by simp, by omega, by simp, (Pres.refl h2).new _, by simp, by simp, by simp⟩ ?_
    rintro J2 hJ2 m fr2 h3 ⟨k, g2, rfl, hk, h30, hp3, hlt3, hrow3, hgs2⟩ hfr2
    have hn2 : fr2.n = 70 := hfr2.1.trans (by simp [hn'])
    have h1b : fr2.get 1 = some (.str name) := (hfr2.2 1 (by kernel_rfl)).trans (by simp [h1'])
    have h7b : fr2.get 7 = some (.ptr h'.next 0) := (hfr2.2 7 (by kernel_rfl)).trans (by simp)
    have h8b : fr2.get 8 = some (.sl h2.next 0 0 n (.at_ n)) := (hfr2.2 8 (by kernel_rfl)).trans (by simp)
    have h19b : fr2.get 19 = some (.int .i64 (i : Nat)) := (hfr2.2 19 (by kernel_rfl)).trans (by simp [h19])
    have h28b : fr2.get 28 = some (.sl b2 0 0 n (.at_ n)) := (hfr2.2 28 (by kernel_rfl)).trans (by simp [h5])
    have h29b : fr2.get 29 = some (.int .i64 (n : Int)) := (hfr2.2 29 (by kernel_rfl)).trans (by simp)
    clear hfr2
    have hg3 : h3.get h'.next = .cells 25 (pc p) (some 0) := (hp3.2 _ (by omega)).trans hg2
    have hg3' : h3.get b2 = .cells 4 (rowc n g) (some 0) := (hp3.2 _ hb2).trans hg2'
    simp [hn2, h29b, h30, kseq_normal]
    refine Br.mk (fun hb => ?_) (fun hb => ?_)
    · have hk : k < n := by rw [ilt_true] at hb; omega
      have fin2 : ∀ (fr4 : AFrame) (h4 : AHeap) (g4 : Nat → Bool), fr4.get 30 = some (.int .i64 ((k + 1 : Nat) : Int)) → Pres h2 h4 → h2.next < h4.next → h4.get h2.next = .cells 4 (rowc n g4) (some 0) → (∀ j, g4 j = true ↔ g2 j = true ∨ (g k = true ∧ prel p name k j)) → ∃ j, j < n - k ∧ J2 j fr4 h4 := by
        intro fr4 h4 g4 a1 a2 a3 a4 a5
        refine ⟨n - (k + 1), by omega, hJ2 _ _ _ ⟨k + 1, g4, rfl, by omega, a1, a2, a3, a4, fun j => ?_⟩⟩
        rw [a5, hgs2]
        constructor
        · rintro (⟨k', b1, b2, b3⟩ | ⟨b2, b3⟩)
          · exact ⟨k', by omega, b2, b3⟩
          · exact ⟨k, by omega, b2, b3⟩
        · rintro ⟨k', b1, b2, b3⟩
          by_cases e : k' = k
          · subst e; exact .inr ⟨b2, b3⟩
          · exact .inl ⟨k', by omega, b2, b3⟩
      simp [hn2, h28b, h30, kseq_normal, ia45 b2 n k hk, hg3', rowc_get g hk]
      refine AW_region_t _ _ _ _ _ (by kernel_rfl) ?_
      have esl := sls_lo name k (by omega)
      simp [hn2, h1b, h7b, h30, kseq_normal]
      refine Br.mk (fun hgk => ?_) (fun hgk => ?_)
      · simp [hn2, h1b, h7b, h30, hgk, kseq_normal, esl, hg3]
        refine Ca.mono (hasp19 h3 (name.drop k) p.2) ?_
        rintro r h4 ⟨rfl, rfl⟩
        simp [hn2, h1b, h7b, h30, kseq_normal, hgk]
        refine Br.mk (fun hh => ?_) (fun hh => ?_)
        · have hle := hasP_drop hh (by omega)
          have eia : pindexAddr Tryz.prog 45 (.sl h2.next 0 0 n (.at_ n)) (.int .i64 ((k : Int) + (p.2.length : Int))) = some (.ptr h2.next (k + p.2.length)) := ia45 h2.next n (k + p.2.length) (by omega)
          have eww : IntKind.i64.wrap ((k : Int) + (p.2.length : Int)) = (k : Int) + (p.2.length : Int) := wrap_in (by omega)
          simp [hn2, h1b, h7b, h8b, h30, hg3, kseq_normal, eww, eia, hrow3, st4s (show k + p.2.length < n by omega), wrap_nat k (by omega)]
          rw [kloop_normal]
          refine fin2 _ _ _ (by simp) (hp3.set (Nat.le_refl _) _) hlt3 (by simp; rfl) fun j => ?_
          simp only [Bool.or_eq_true, decide_eq_true_eq, prel, k4, if_false, hgk, hh, true_and]
          exact Or.comm
        · simp [hn2, h30, kseq_normal, wrap_nat k (by omega)]
          rw [kloop_normal]
          refine fin2 _ _ g2 (by simp) hp3 hlt3 hrow3 fun j => ?_
          simp [prel, k4, hh]
      · simp [hn2, h30, kseq_normal, hgk, wrap_nat k (by omega)]
        try simp [hn2, h30, kseq_normal, hgk, wrap_nat k (by omega)]
        rw [kloop_normal]
        refine fin2 _ _ g2 (by simp) hp3 hlt3 hrow3 fun j => ?_
        simp [hgk]
    · have : k = n := by rw [ilt_false] at hb; omega
      subst this
      simp [hn2, h8b, h19b, kseq_normal]
      rw [kloop_normal]
      refine fin _ _ (.sl h2.next 0 0 k (.at_ k)) g2 ⟨k2, k3⟩ (by simp [wrap_nat i (by omega)]) (by simp) ⟨h2.next, rfl, hlt3, hrow3⟩ ((hp.trans hp2).trans hp3) hgs2
  · have : i = W.length := by rw [ilt_false] at hb; omega
    subst this
    obtain ⟨b, rfl, hb, hg⟩ := hrow
    have eil : pindexAddr Tryz.prog 45 (.sl b 0 0 n (.at_ n)) (.int .i64 (name.length : Int)) = some (.ptr b name.length) := ia45 b n name.length (by omega)
    simp [hn', h5, h1', kseq_normal, eil, hg, rowc_get g (show name.length < n by omega)]
    refine ⟨hp, BIs.mk ?_⟩
    rw [hgs]
    constructor
    · intro hr
      refine ⟨fun p hp => ?_, hr⟩
      obtain ⟨i', hi', rfl⟩ := List.getElem_of_mem hp
      exact hks i' _ hi' (by simp [hi'])
    · exact fun hm => hm.2
end Go.Eng.L41
