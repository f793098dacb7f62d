/- Law 43: the program's Measure: its loops. -/
import Derived.Test.YtcjgagkkanokjaaL43D
import Derived.Test.YtcjgagkkanokjaaE23
namespace Go.Eng.L43
open Go.Proofs Go.Eng
/-- A heap in which one slice has grown. -/
def Kp (h : AHeap) (y : AV) (h' : AHeap) (y' : AV) : Prop := h.next ≤ h'.next ∧ (∀ c, c < h.next → blk y ≠ some c → h'.get c = h.get c) ∧ ∀ c, blk y' = some c → blk y = some c ∨ h.next ≤ c
theorem Kp.refl (h : AHeap) (y : AV) : Kp h y h y := ⟨Nat.le_refl _, fun _ _ _ => rfl, fun _ hc => .inl hc⟩
theorem Kp.trans {h h1 h2 : AHeap} {y y1 y2 : AV} (a : Kp h y h1 y1) (b : Kp h1 y1 h2 y2) : Kp h y h2 y2 := by
  refine ⟨Nat.le_trans a.1 b.1, fun c hc hy => ?_, fun c hc => ?_⟩
  · rw [b.2.1 c (Nat.lt_of_lt_of_le hc a.1) (fun e => by rcases a.2.2 c e with e | e; exact hy e; omega), a.2.1 c hc hy]
  · rcases b.2.2 c hc with e | e
    · exact a.2.2 c e
    · exact .inr (Nat.le_trans a.1 e)
theorem Kp.pres {h h1 : AHeap} {y : AV} (p : Pres h h1) : Kp h y h1 y := ⟨p.1, fun c hc _ => p.2 c hc, fun _ hc => .inl hc⟩
def ints (l : List Int) : List AV := l.map (AV.int .i64)
def one (l : List Int) : List (List AV) := (ints l).map fun v => [v]
theorem one_len (l : List Int) : (one l).length = l.length := by simp [one, ints]
theorem one_app (l : List Int) (v : Int) : one (l ++ [v]) = one l ++ [[.int .i64 v]] := by simp [one, ints]
theorem pal29 : pal Try.prog 29 = some (29, [.int .i64 0, .int .i64 0, .int .i64 0, .int .i64 0, .int .i64 0, .int .i64 0], .ptr) := by kernel_rfl
theorem pal44 : pal Try.prog 44 = some (44, [.int .i64 0, .int .i64 0, .int .i64 0, .int .i64 0, .int .i64 0, .int .i64 0], .ptr) := by kernel_rfl
theorem bs30 (v : Int) : pbs Try.prog 30 1 [(0, .int .i64 v)] = some (2, [.int .i64 v], .sl 1 1) := by kernel_rfl
/-- One value is appended. -/
theorem grow {h : AHeap} {lo : Nat} {y : AV} {l : List Int} (hg : Gr h 2 1 lo y (one l)) (v : Int) (hlo : lo ≤ h.next) (hl : l.length ≤ 1000000) :
    ∃ y' h', aappend Try.prog (h.new (.cells 2 [.int .i64 v] (some 0))) [30, 30] [y, .sl h.next 0 0 1 (.at_ 1)] = some (y', h') ∧ Gr h' 2 1 lo y' (one (l ++ [v])) ∧ Kp h y h' y' := by
  have hg2 := hg.pres ((Pres.refl h).new (.cells 2 [.int .i64 v] (some 0)))
  obtain ⟨y', h2, ho, hg3, hn2, hk, hf⟩ := hg2.append sl30 sz2 by2 z2 rfl (by omega) (b2 := h.next) (a := [.int .i64 v]) (by rw [AHeap.get_new, if_pos rfl]) rfl (by simp; omega) (by rw [one_len]; omega) (by rw [one_len]; omega)
  refine ⟨y', h2, ho, by rw [one_app]; exact hg3, by simp at hn2; omega, fun c hc hy => ?_, fun c hc => ?_⟩
  · rw [hk c (by simp; omega) hy, AHeap.get_new, if_neg (by omega)]
  · have := hf c hc; simp at this; exact .inr (by omega)
theorem take_full {α : Type} (l : List α) (v : α) (j m T : Nat) (hj : j ≤ m) (h1 : (l ++ List.replicate j v).length ≤ T) (h2 : j = m ∨ T ≤ (l ++ List.replicate j v).length) : (l ++ List.replicate m v).take T = l ++ List.replicate j v := by
  rcases h2 with rfl | h2
  · exact List.take_of_length_le h1
  · have e : List.replicate m v = List.replicate j v ++ List.replicate (m - j) v := by rw [List.replicate_append_replicate]; congr 1; omega
    rw [e, ← List.append_assoc, List.take_append_of_le_length h2, List.take_of_length_le h1]

theorem m5_l3 {fr : AFrame} {h : AHeap} {T : Nat} {tr y : AV} {e : Ev} {eb lo : Nat} {prev : List Int} (hn : fr.n = 135) (h2 : fr.get 2 = some tr) (hT : plen Try.prog 26 tr = some (.int .i64 (T : Int))) (hT2 : T ≤ 5000) (h13 : fr.get 13 = some y) (h15 : fr.get 15 = some (.ptr eb 0)) (h16 : fr.get 16 = some (.int .i64 0))
    (heb : h.get eb = .cells 29 (evc e) (some 0)) (hebn : eb < h.next) (hey : blk y ≠ some eb) (hg : Gr h 2 1 lo y (one prev)) (hpl : prev.length ≤ T + 1) (hlo : lo ≤ h.next) (hb0 : 0 ≤ e.b) (hb1 : e.b ≤ 20) :
    AW Try.prog (bodyAt Try.f5 [1, 1, 1, 0, 1, 0, 0, 1, 1, 0, 0, 1, 1, 1, 0, 1, 0, 0, 1, 1, 0, 0, 1, 1, 0, 1, 0]) fr h fun ex fr' h' => ex = .exit 4 ∧ ∃ y', fr'.get 13 = some y' ∧ Gr h' 2 1 lo y' (one ((prev ++ List.replicate (e.b + 1).toNat e.tm).take (T + 1))) ∧ Kp h y h' y' := by
  refine AW_loop_fr (fun k fr' h' => ∃ j y', k = (e.b + 1).toNat - j ∧ j ≤ (e.b + 1).toNat ∧ fr'.get 13 = some y' ∧ fr'.get 16 = some (.int .i64 (j : Nat)) ∧ Gr h' 2 1 lo y' (one (prev ++ List.replicate j e.tm)) ∧ (prev ++ List.replicate j e.tm).length ≤ T + 1 ∧ Kp h y h' y') ((e.b + 1).toNat)
    ⟨0, y, by simp, by omega, h13, by simpa using h16, by simpa using hg, by simpa using hpl, Kp.refl _ _⟩ ?_
  rintro J hJ k fr' h' ⟨j, y', rfl, hj, h13', h16', hg', hpl', hkp⟩ hfr
  have hn' : fr'.n = 135 := hfr.1.trans hn
  have h2' : fr'.get 2 = some tr := (hfr.2 2 (by kernel_rfl)).trans h2
  have h15' : fr'.get 15 = some (.ptr eb 0) := (hfr.2 15 (by kernel_rfl)).trans h15
  have heb' : h'.get eb = .cells 29 (evc e) (some 0) := (hkp.2.1 eb hebn hey).trans heb
  have hlen := hg'.sl.len sl30
  rw [one_len] at hlen
  simp [hn', h16', h15', fa29_5, heb', atCells_one ag2, kseq_normal]
  have hexit : (j = (e.b + 1).toNat ∨ T + 1 ≤ (prev ++ List.replicate j e.tm).length) → Gr h' 2 1 lo y' (one ((prev ++ List.replicate (e.b + 1).toNat e.tm).take (T + 1))) := fun hh => by
    rw [take_full prev e.tm j _ _ hj hpl' hh]; exact hg'
  clear hfr
  refine Br.mk (fun hb => ?_) (fun hb => ?_)
  · have hb' := hb
    rw [ilt_true] at hb'
    repeat' (first | refine Br.mk (fun hb => ?_) (fun hb => ?_) | simp [hb, hn', h16', h15', fa29_5, heb', h13', h2', hlen, hT, hkp, atCells_one ag2, kseq_normal])
    exact hexit (.inl (by omega))
  · have hb' := hb
    rw [ilt_false] at hb'
    simp [hb, hn', h16', h15', fa29_5, heb', h13', h2', hlen, hT, hkp, atCells_one ag2, kseq_normal]
    refine Br.mk (fun hb2 => ?_) (fun hb2 => ?_)
    · have hb2' := hb2
      rw [ilt_true] at hb2'
      simp [hb, hb2, hn', h16', h15', fa29_5, heb', h13', h2', hlen, hT, hkp, atCells_one ag2, kseq_normal]
      exact hexit (.inr (by simp; omega))
    · have hb2' := hb2
      rw [ilt_false] at hb2'
      simp [hb, hb2, hn', h16', h15', fa29_5, fa29_0, heb', h13', h2', hlen, hT, hkp, atCells_one ag2, kseq_normal, bs30]
      obtain ⟨y2, h2, ho, hg2, hk2⟩ := grow hg' e.tm (by have := hkp.1; omega) (by simp at hpl' ⊢; omega)
      rw [ho]
      simp [hn', h16', kseq_normal]
      rw [kloop_normal]
      refine ⟨(e.b + 1).toNat - (j + 1), by omega, hJ _ _ _ ⟨j + 1, y2, rfl, by omega, by simp, by simp [wrap_nat j (show j < 9223372036854775807 by omega)], ?_, by simp; omega, hkp.trans hk2⟩⟩
      rw [List.append_assoc] at hg2
      rw [List.replicate_succ']
      exact hg2
theorem take_app_take {α : Type} (a b : List α) (n : Nat) : ((a.take n) ++ b).take n = (a ++ b).take n := by
  by_cases h : n ≤ a.length
  · rw [List.take_append_of_le_length (by rw [List.length_take]; omega), List.take_append_of_le_length h, List.take_take, Nat.min_self]
  · rw [List.take_of_length_le (l := a) (by omega)]
theorem Kp.toPres {h h' : AHeap} {y y' : AV} (hk : Kp h y h' y') (hy : ∀ c, blk y = some c → ∀ g : AHeap, Pres g h → g.next ≤ c) {g : AHeap} (hp : Pres g h) : Pres g h' :=
  ⟨Nat.le_trans hp.1 hk.1, fun c hc => by rw [hk.2.1 c (Nat.lt_of_lt_of_le hc hp.1) (fun e => by have := hy c e g hp; omega), hp.2 c hc]⟩
theorem m5_l2 {fr : AFrame} {h : AHeap} {tr : AV} {evs : List Ev} {i : Nat} (hn : fr.n = 135) (h2 : fr.get 2 = some tr) (ht : Sl h 6 tr (evs.map evc)) (hT2 : evs.length ≤ 5000) (hev : ∀ e ∈ evs, 0 ≤ e.b ∧ e.b ≤ 20) (h10 : fr.get 10 = some (.int .i64 (i : Nat)))
    (h13 : fr.get 13 = some .nilsl) (h41 : fr.get 41 = some tr) (h42 : fr.get 42 = some (.int .i64 (evs.length : Nat))) (h43 : fr.get 43 = some (.int .i64 0)) :
    AW Try.prog (bodyAt Try.f5 [1, 1, 1, 0, 1, 0, 0, 1, 1, 0, 0, 1, 1, 1, 0, 1, 0]) fr h fun ex fr' h' => ex = .exit 2 ∧ ∃ y', fr'.get 13 = some y' ∧ Gr h' 2 1 h.next y' (one ((rels i evs).take (evs.length + 1))) ∧ Pres h h' := by
  refine AW_loop_fr (fun m fr' h' => ∃ k y', m = evs.length - k ∧ k ≤ evs.length ∧ fr'.get 13 = some y' ∧ fr'.get 43 = some (.int .i64 (k : Nat)) ∧ Gr h' 2 1 h.next y' (one ((rels i (evs.take k)).take (evs.length + 1))) ∧ Pres h h') evs.length
    ⟨0, .nilsl, by simp, by omega, h13, by simpa using h43, Gr.nil _ _ _ _, Pres.refl _⟩ ?_
  rintro J hJ m fr' h' ⟨k, y', rfl, hk, h13', h43', hg', hp⟩ hfr
  have hn' : fr'.n = 135 := hfr.1.trans hn
  have h2' : fr'.get 2 = some tr := (hfr.2 2 (by kernel_rfl)).trans h2
  have h10' : fr'.get 10 = some (.int .i64 (i : Nat)) := (hfr.2 10 (by kernel_rfl)).trans h10
  have h41' : fr'.get 41 = some tr := (hfr.2 41 (by kernel_rfl)).trans h41
  have h42' : fr'.get 42 = some (.int .i64 (evs.length : Nat)) := (hfr.2 42 (by kernel_rfl)).trans h42
  clear hfr h13 h43
  have ht' := ht.pres hp
  simp [hn', h42', h43', kseq_normal]
  refine Br.mk (fun hb => ?_) (fun hb => ?_)
  · have hk : k < evs.length := by rw [ilt_true] at hb; omega
    obtain ⟨b, o, ha, hbn, hag, _⟩ := ht'.at sl26 sz29 k (by simpa using hk)
    have hag := hag ag29
    simp only [List.getElem_map] at hag
    have he := hev evs[k] (List.getElem_mem _)
    generalize hee : evs[k] = e at *
    have hnext : ∀ (fr2 : AFrame) (h2 : AHeap) (y2 : AV), fr2.n = 135 → fr2.get 13 = some y2 → fr2.get 43 = some (.int .i64 (k : Nat)) → Gr h2 2 1 h.next y2 (one ((rels i (evs.take k) ++ relOf i e).take (evs.length + 1))) → Pres h h2 →
        ∃ j, j < evs.length - k ∧ J j ((fr2.upd 74 (.int .i64 ((k + 1 : Nat) : Int))).upd 43 (.int .i64 ((k + 1 : Nat) : Int))) h2 := fun fr2 h2 y2 a1 a2 a3 a4 a5 =>
      ⟨evs.length - (k + 1), by omega, hJ _ _ _ ⟨k + 1, y2, rfl, by omega, by simp [a2], by simp, by rw [rels_take hk, hee]; exact a4, a5⟩⟩
    have hw := wrap_nat k (by omega)
    simp [hn', h41', h43', ha, hag, pal29, stc_all sz29, kseq_normal, fa29_1, fa29_4, atCells_one ag2, atCells_one ag3]
    refine Br.mk (fun hb1 => ?_) (fun hb1 => ?_)
    · simp [hb1, hn', h41', h43', h10', kseq_normal, fa29_1, fa29_4, atCells_one ag2, atCells_one ag3]
      refine Br.mk (fun hb2 => ?_) (fun hb2 => ?_)
      · simp [hb1, hb2, hn', h41', h43', h10', kseq_normal]
        have hp1 := ((Pres.refl h').new (.cells 29 [.int .i64 0, .int .i64 0, .int .i64 0, .int .i64 0, .int .i64 0, .int .i64 0] (some 0))).set (k := h'.next) (Nat.le_refl _) (.cells 29 (evc e) (some 0))
        have hg1 := hg'.pres hp1
        have hlt : ∀ b, blk y' = some b → h.next ≤ b ∧ b < h'.next := fun b hb => hg'.blk hb
        refine AW_cut_x 4 _ (m5_l3 (T := evs.length) (tr := tr) (y := y') (e := e) (eb := h'.next) (lo := h.next) (prev := (rels i (evs.take k)).take (evs.length + 1)) (by simp [hn']) (by simp [h2']) (ht.len sl26 |>.trans (by simp)) hT2 (by simp [h13']) (by simp) (by simp) (by simp) (by simp) (fun hc => by have := hlt _ hc; omega) hg1 (by simp; omega) (by have := hp.1; simp; omega) he.1 he.2) ?_
        rintro fr2 h3 ⟨y2, a1, a2, a3⟩ hf2
        have a4 : fr2.n = 135 := hf2.1.trans (by simp [hn'])
        have a5 : fr2.get 43 = some (.int .i64 (k : Nat)) := (hf2.2 43 (by kernel_rfl)).trans (by simp [h43'])
        clear hf2
        simp [a4, a5, kseq_normal, hw]
        rw [kloop_normal]
        refine hnext fr2 h3 y2 a4 a1 a5 ?_ ?_
        · have e1 : relOf i e = List.replicate (e.b + 1).toNat e.tm := by simp [relOf, hb1, hb2]
          rw [e1, ← take_app_take]
          exact a2
        · have hp3 := hp.trans hp1
          exact ⟨Nat.le_trans hp3.1 a3.1, fun c hc => by rw [a3.2.1 c (Nat.lt_of_lt_of_le hc hp3.1) (fun hc2 => by have := hlt _ hc2; omega), hp3.2 c hc]⟩
      · have e1 : relOf i e = [] := by simp [relOf, hb1, hb2]
        have hp1 := ((Pres.refl h').new (.cells 29 [.int .i64 0, .int .i64 0, .int .i64 0, .int .i64 0, .int .i64 0, .int .i64 0] (some 0))).set (k := h'.next) (Nat.le_refl _) (.cells 29 (evc e) (some 0))
        simp [hb1, hb2, hn', h41', h43', h10', kseq_normal, hw]
        rw [kloop_normal]
        exact hnext _ _ y' (by simp [hn']) (by simp [h13']) (by simp [h43']) (by rw [e1, List.append_nil]; exact hg'.pres hp1) (hp.trans hp1)
    · have e1 : relOf i e = [] := by simp [relOf, hb1]
      have hp1 := ((Pres.refl h').new (.cells 29 [.int .i64 0, .int .i64 0, .int .i64 0, .int .i64 0, .int .i64 0, .int .i64 0] (some 0))).set (k := h'.next) (Nat.le_refl _) (.cells 29 (evc e) (some 0))
      simp [hb1, hn', h41', h43', h10', kseq_normal, fa29_1, fa29_4, atCells_one ag2, atCells_one ag3, hw]
      rw [kloop_normal]
      exact hnext _ _ y' (by simp [hn']) (by simp [h13']) (by simp [h43']) (by rw [e1, List.append_nil]; exact hg'.pres hp1) (hp.trans hp1)
  · have : k = evs.length := by rw [ilt_false] at hb; omega
    subst this
    rw [List.take_length] at hg'
    simp [hn', kseq_normal, h13', hp, hg']
end Go.Eng.L43
