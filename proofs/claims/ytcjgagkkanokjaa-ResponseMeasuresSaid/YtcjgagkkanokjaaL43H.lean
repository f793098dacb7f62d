/- Law 43: the reference's Measure. -/
import Derived.Test.YtcjgagkkanokjaaL43G
namespace Go.Eng.L43
open Go.Proofs Go.Eng
theorem AW_cut_nf {P : Program} {c : Code} {fr : AFrame} {h : AHeap} {Q : AEx → AFrame → AHeap → Prop} (R : AFrame → AHeap → Prop) (h1 : AW P c fr h fun e fr h => e = .normal ∧ R fr h) (h2 : ∀ fr' h', R fr' h' → Fr (wrs c) fr fr' → Q .normal fr' h') : AW P c fr h Q :=
  AW_mono _ _ _ _ _ (AW_fr _ _ _ _ h1) fun e fr h ⟨⟨he, hr⟩, hf⟩ => by subst he; exact h2 fr h hr hf
theorem pal54 : pal Try.prog 54 = some (54, [.int .i64 0, .int .i64 0, .int .i64 0, .int .i64 0, .int .i64 0, .int .i64 0], .ptr) := by kernel_rfl
theorem m6_l3 {fr : AFrame} {h : AHeap} {y : AV} {e : Ev} {eb lo : Nat} {prev : List Int} (hn : fr.n = 139) (h12 : fr.get 12 = some y) (h15 : fr.get 15 = some (.ptr eb 0)) (h16 : fr.get 16 = some (.int .i64 0))
    (heb : h.get eb = .cells 54 (evc e) (some 0)) (hebn : eb < h.next) (hey : blk y ≠ some eb) (hg : Gr h 2 1 lo y (one prev)) (hpl : prev.length ≤ 200000) (hlo : lo ≤ h.next) (hb0 : 0 ≤ e.b) (hb1 : e.b ≤ 20) :
    AW Try.prog (bodyAt Try.f6 [1, 1, 1, 0, 1, 0, 0, 1, 0, 0, 1, 1, 0, 1, 0, 0, 1, 0, 0, 1, 0, 1, 0, 1, 0]) fr h fun ex fr' h' => ex = .exit 4 ∧ ∃ y', fr'.get 12 = some y' ∧ Gr h' 2 1 lo y' (one (prev ++ List.replicate (e.b + 1).toNat e.tm)) ∧ Kp h y h' y' := by
  refine AW_loop_fr (fun k fr' h' => ∃ j y', k = (e.b + 1).toNat - j ∧ j ≤ (e.b + 1).toNat ∧ fr'.get 12 = some y' ∧ fr'.get 16 = some (.int .i64 (j : Nat)) ∧ Gr h' 2 1 lo y' (one (prev ++ List.replicate j e.tm)) ∧ Kp h y h' y') ((e.b + 1).toNat)
    ⟨0, y, by simp, by omega, h12, by simpa using h16, by simpa using hg, Kp.refl _ _⟩ ?_
  rintro J hJ k fr' h' ⟨j, y', rfl, hj, h12', h16', hg', hkp⟩ hfr
  have hn' : fr'.n = 139 := hfr.1.trans hn
  have h15' : fr'.get 15 = some (.ptr eb 0) := (hfr.2 15 (by kernel_rfl)).trans h15
  have heb' : h'.get eb = .cells 54 (evc e) (some 0) := (hkp.2.1 eb hebn hey).trans heb
  clear hfr
  have hj4 : ilt (j : Int) 10000 = true := by rw [ilt_true]; omega
  simp [hn', h16', h15', fa54_5, heb', atCells_one ag2, kseq_normal]
  refine Br.mk (fun hb => ?_) (fun hb => ?_)
  · have hb' := hb
    rw [ilt_true] at hb'
    have hje : j = (e.b + 1).toNat := by omega
    simp [hb, hn', h16', h15', fa54_5, heb', h12', hkp, atCells_one ag2, kseq_normal]
    rw [← hje]
    exact hg'
  · have hb' := hb
    rw [ilt_false] at hb'
    simp [hb, hj4, hn', h16', h15', fa54_5, fa54_0, heb', h12', hkp, atCells_one ag2, kseq_normal, bs30]
    obtain ⟨y2, h2, ho, hg2, hk2⟩ := grow hg' e.tm (by have := hkp.1; omega) (by simp; omega)
    rw [ho]
    simp [hn', h16', kseq_normal]
    rw [kloop_normal]
    refine ⟨(e.b + 1).toNat - (j + 1), by omega, hJ _ _ _ ⟨j + 1, y2, rfl, by omega, by simp, by simp [wrap_nat j (show j < 9223372036854775807 by omega)], ?_, hkp.trans hk2⟩⟩
    rw [List.append_assoc] at hg2
    rw [List.replicate_succ']
    exact hg2
theorem rels_len {i : Nat} : ∀ {l : List Ev}, (∀ e ∈ l, 0 ≤ e.b ∧ e.b ≤ 20) → (rels i l).length ≤ l.length * 21
  | [], _ => by simp [rels]
  | e :: r, h => by
    have h1 := rels_len (i := i) (l := r) fun e he => h e (by simp [he])
    have h2 := h e (by simp)
    have h3 : (relOf i e).length ≤ 21 := by
      unfold relOf
      split
      · rw [List.length_replicate]; omega
      · simp
    simp only [rels, List.length_append, List.length_cons]
    omega
theorem m6_l2 {fr : AFrame} {h : AHeap} {tr : AV} {evs : List Ev} {i : Nat} {last : Int} (hn : fr.n = 139) (h2 : fr.get 2 = some tr) (ht : Sl h 6 tr (evs.map evc)) (hT2 : evs.length ≤ 5000) (hev : ∀ e ∈ evs, 0 ≤ e.b ∧ e.b ≤ 20) (h10 : fr.get 10 = some (.int .i64 (i : Nat)))
    (h11 : fr.get 11 = some (.int .i64 last)) (h12 : fr.get 12 = some .nilsl) (h13 : fr.get 13 = some .nilsl) (h14 : fr.get 14 = some (.int .i64 0)) :
    AW Try.prog (bodyAt Try.f6 [1, 1, 1, 0, 1, 0, 0, 1, 0, 0, 1, 1, 0, 1, 0]) fr h fun ex fr' h' => ex = .exit 2 ∧ ∃ y' w', fr'.get 12 = some y' ∧ fr'.get 13 = some w' ∧ Gr h' 2 1 h.next y' (one (rels i evs)) ∧ Gr h' 2 1 h.next w' (one (comps i last evs)) ∧ Pres h h' := by
  refine AW_loop_fr (fun m fr' h' => ∃ k y' w', m = evs.length - k ∧ k ≤ evs.length ∧ fr'.get 12 = some y' ∧ fr'.get 13 = some w' ∧ fr'.get 14 = some (.int .i64 (k : Nat)) ∧ Gr h' 2 1 h.next y' (one (rels i (evs.take k))) ∧ Gr h' 2 1 h.next w' (one (comps i last (evs.take k))) ∧ (∀ c, blk y' = some c → blk w' ≠ some c) ∧ Pres h h') evs.length
    ⟨0, .nilsl, .nilsl, by simp, by omega, h12, h13, by simpa using h14, Gr.nil _ _ _ _, Gr.nil _ _ _ _, fun c hc => by simp [blk] at hc, Pres.refl _⟩ ?_
  rintro J hJ m fr' h' ⟨k, y', w', rfl, hk, h12', h13', h14', hg', hw', hyw, hp⟩ hfr
  have hn' : fr'.n = 139 := hfr.1.trans hn
  have h2' : fr'.get 2 = some tr := (hfr.2 2 (by kernel_rfl)).trans h2
  have h10' : fr'.get 10 = some (.int .i64 (i : Nat)) := (hfr.2 10 (by kernel_rfl)).trans h10
  have h11' : fr'.get 11 = some (.int .i64 last) := (hfr.2 11 (by kernel_rfl)).trans h11
  clear hfr h12 h13 h14
  have ht' := ht.pres hp
  simp [hn', h2', h14', kseq_normal, ht'.len sl39]
  refine Br.mk (fun hb => ?_) (fun hb => ?_)
  · have hk : k < evs.length := by rw [ilt_true] at hb; omega
    obtain ⟨b, o, ha, hbn, hag, _⟩ := ht'.at sl39 sz54 k (by simpa using hk)
    have hag := hag ag54
    simp only [List.getElem_map] at hag
    have he := hev evs[k] (List.getElem_mem _)
    have hrl : (rels i (evs.take k)).length ≤ 5000 * 21 := by
      have := rels_len (i := i) (l := evs.take k) fun e he => hev e (List.mem_of_mem_take he)
      rw [List.length_take] at this
      omega
    have hcl := comps_len i last (evs.take k)
    rw [List.length_take] at hcl
    have hrk := rels_take (i := i) hk
    have hck := comps_take (i := i) (last := last) hk
    generalize hee : evs[k] = e at *
    have hw := wrap_nat k (by omega)
    simp [hn', h2', h14', ha, hag, pal54, stc_all sz54]
    rw [kseq_normal]
    have hp1 := ((Pres.refl h').new (.cells 54 [.int .i64 0, .int .i64 0, .int .i64 0, .int .i64 0, .int .i64 0, .int .i64 0] (some 0))).set (k := h'.next) (Nat.le_refl _) (.cells 54 (evc e) (some 0))
    have hbx : ((h'.new (.cells 54 [.int .i64 0, .int .i64 0, .int .i64 0, .int .i64 0, .int .i64 0, .int .i64 0] (some 0))).set h'.next (.cells 54 (evc e) (some 0))).get h'.next = .cells 54 (evc e) (some 0) := by simp
    have hbn1 : h'.next < ((h'.new (.cells 54 [.int .i64 0, .int .i64 0, .int .i64 0, .int .i64 0, .int .i64 0, .int .i64 0] (some 0))).set h'.next (.cells 54 (evc e) (some 0))).next := by simp
    generalize ((h'.new (.cells 54 [.int .i64 0, .int .i64 0, .int .i64 0, .int .i64 0, .int .i64 0, .int .i64 0] (some 0))).set h'.next (.cells 54 (evc e) (some 0))) = h1 at *
    have hgy := hg'.pres hp1
    have hgw := hw'.pres hp1
    have hlty : ∀ c, blk y' = some c → h.next ≤ c ∧ c < h'.next := fun c hc => hg'.blk hc
    have hltw : ∀ c, blk w' = some c → h.next ≤ c ∧ c < h'.next := fun c hc => hw'.blk hc
    have hpn := hp.1
    rw [AW_seq]
    refine AW_cut_nf (fun fr3 h3 => ∃ y3, fr3.get 12 = some y3 ∧ Gr h3 2 1 h.next y3 (one (rels i (evs.take k) ++ relOf i e)) ∧ Kp h1 y' h3 y3) ?_ ?_
    · simp [hn', h10', h12', fa54_1, fa54_4, hbx, atCells_one ag2, atCells_one ag3, kseq_normal]
      have hno : relOf i e = [] → ∃ y3, y' = y3 ∧ Gr h1 2 1 h.next y3 (one (rels i (evs.take k) ++ relOf i e)) ∧ Kp h1 y' h1 y3 := fun e1 => ⟨y', rfl, by rw [e1, List.append_nil]; exact hgy, Kp.refl _ _⟩
      refine Br.mk (fun hb1 => ?_) (fun hb1 => ?_)
      · simp [hb1, hn', h10', h12', fa54_1, fa54_4, hbx, atCells_one ag2, atCells_one ag3, kseq_normal]
        refine Br.mk (fun hb2 => ?_) (fun hb2 => ?_)
        · simp [hn', kseq_normal]
          refine AW_cut_x 4 _ (m6_l3 (y := y') (e := e) (eb := h'.next) (lo := h.next) (prev := rels i (evs.take k)) (by simp [hn']) (by simp [h12']) (by simp) (by simp) hbx hbn1 (fun hc => by have := hlty _ hc; omega) hgy (by omega) (by omega) he.1 he.2) ?_
          rintro fr2 h3 ⟨y2, a1, a2, a3⟩ hf2
          have e1 : relOf i e = List.replicate (e.b + 1).toNat e.tm := by simp [relOf, hb1, hb2]
          simp [a1]
          rw [e1]
          exact ⟨a2, a3⟩
        · simp [hb1, hb2, hn', h12', kseq_normal]
          simpa using hno (by simp [relOf, hb1, hb2])
      · simp [hb1, hn', h10', h12', fa54_1, fa54_4, hbx, atCells_one ag2, atCells_one ag3, kseq_normal]
        simpa using hno (by simp [relOf, hb1])
    rintro fr3 h3 ⟨y3, c12, c1, c2⟩ hf3
    have d0 : fr3.n = 139 := hf3.1.trans (by simp [hn'])
    have d10 := (hf3.2 10 (by kernel_rfl)).trans (by simp; exact h10')
    have d11 := (hf3.2 11 (by kernel_rfl)).trans (by simp; exact h11')
    have d13 := (hf3.2 13 (by kernel_rfl)).trans (by simp; exact h13')
    have d14 := (hf3.2 14 (by kernel_rfl)).trans (by simp; exact h14')
    have d15 := (hf3.2 15 (by kernel_rfl)).trans (by simp; rfl)
    clear hf3
    have hbx3 : h3.get h'.next = .cells 54 (evc e) (some 0) := (c2.2.1 _ hbn1 (fun hc => by have := hlty _ hc; omega)).trans hbx
    have hgw3 : Gr h3 2 1 h.next w' (one (comps i last (evs.take k))) := hgw.mono c2.1 fun c hc => c2.2.1 c (by have := hltw c hc; omega) fun hc2 => hyw c hc2 hc
    have hyw3 : ∀ c, blk y3 = some c → blk w' ≠ some c := fun c hc hc2 => by
      rcases c2.2.2 c hc with e1 | e1
      · exact hyw c e1 hc2
      · have := hltw c hc2; omega
    have hp3 : Pres h h3 := ⟨by have := c2.1; have := hp1.1; omega, fun c hc => (c2.2.1 c (by have := hp1.1; omega) (fun hc2 => by have := hlty c hc2; omega)).trans ((hp1.2 c (by omega)).trans (hp.2 c hc))⟩
    have hn3 : h.next ≤ h3.next := hp3.1
    clear hgy hgw hp1 hbx hbn1 c2 hg' hw' hlty hltw hyw hp ht' ha hag hbn
    rw [kseq_normal, AW_seq, AW_region_f]
    refine OW_cut (fun fr4 h4 => fr4.n = 139 ∧ fr4.get 93 = some (.bool (isComp i last e)) ∧ fr4.get 12 = fr3.get 12 ∧ fr4.get 13 = fr3.get 13 ∧ fr4.get 14 = fr3.get 14 ∧ fr4.get 15 = fr3.get 15 ∧ h4 = h3) ?_ ?_
    · simp [d0, d15, hbx3, fa54_1, atCells_one ag3]
      repeat' (first | refine Br.mk (fun hb => ?_) (fun hb => ?_) | simp [*, fa54_1, fa54_3, fa54_4, fa54_5, atCells_one ag2, atCells_one ag3, isComp])
    rintro fr4 h4 ⟨g0, g93, g12, g13, g14, g15, rfl⟩
    rw [c12] at g12; rw [d13] at g13; rw [d14] at g14; rw [d15] at g15
    simp [g0, g93, kseq_normal]
    refine Br.mk (fun hc => ?_) (fun hc => ?_)
    · simp [g0, g13, g14, g15, hbx3, fa54_0, atCells_one ag2, bs30, kseq_normal]
      obtain ⟨w2, h5, ho, hg5, hk5⟩ := grow hgw3 e.tm (by omega) (by omega)
      rw [ho]
      simp [g0, g14, kseq_normal, hw]
      rw [kloop_normal]
      refine ⟨evs.length - (k + 1), by omega, hJ _ _ _ ⟨k + 1, y3, w2, rfl, by omega, by simp [g12], by simp, by simp, ?_, ?_, ?_, ?_⟩⟩
      · rw [hrk]
        exact c1.mono hk5.1 fun c hc => hk5.2.1 c (c1.blk hc).2 (hyw3 c hc)
      · rw [hck, hc]; exact hg5
      · intro c hc hc2
        rcases hk5.2.2 c hc2 with e1 | e1
        · exact hyw3 c hc e1
        · have := (c1.blk hc).2; omega
      · exact ⟨by have := hk5.1; omega, fun c hc => (hk5.2.1 c (by omega) (fun e1 => by have := (hgw3.blk e1).1; omega)).trans (hp3.2 c hc)⟩
    · simp [g0, g14, kseq_normal, hw]
      rw [kloop_normal]
      refine ⟨evs.length - (k + 1), by omega, hJ _ _ _ ⟨k + 1, y3, w', rfl, by omega, by simp [g12], by simp [g13], by simp, by rw [hrk]; exact c1, by rw [hck, hc]; simpa using hgw3, hyw3, hp3⟩⟩
  · have : k = evs.length := by rw [ilt_false] at hb; omega
    subst this
    rw [List.take_length] at hg' hw'
    simp [hn', kseq_normal, h12', h13', hp, hg', hw']
end Go.Eng.L43
