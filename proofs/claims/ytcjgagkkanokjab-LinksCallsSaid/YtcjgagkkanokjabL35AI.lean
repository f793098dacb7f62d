/- Law 35: the law's walk. -/
import Derived.Test.YtcjgagkkanokjabL35AG
namespace Go.Eng.L35
open Go.Proofs Go.Eng
theorem Two.new {h h1 h2 : AHeap} {p q : Nat} {s : S} {v u : V} (hpl : PL h1 p s v) (n1 : NewV h h1 p v) (hp2 : Pres h1 h2) (hrl : RL h2 q s u) (n2 : NewV h1 h2 q u) : Two h2 p q s s v u := by
  refine ⟨hpl.pres hp2, hrl, fun c hc hu => ?_, fun c hc hv => ?_⟩
  · have hc : v.W p c := by
      rcases hc with hc | hc
      · exact hc
      · rw [n1.2.2] at hc; simp [blk] at hc
    have := n1.1 c hc
    rcases hu with hu | ⟨row, hm, _⟩ | hu
    · have := n2.1 c hu; omega
    · rw [n2.2.1] at hm; cases hm
    · rw [n2.2.2] at hu; simp [blk] at hu
  · have hc : u.W q c := by
      rcases hc with hc | hc
      · exact hc
      · rw [n2.2.2] at hc; simp [blk] at hc
    have := n2.1 c hc
    rcases hv with hv | ⟨row, hm, _⟩ | hv
    · have := n1.1 c hv; omega
    · rw [n1.2.1] at hm; cases hm
    · rw [n1.2.2] at hv; simp [blk] at hv
theorem NewV.out {h h1 h2 : AHeap} {p q : Nat} {v u : V} (hn : h.next ≤ h1.next) (n1 : NewV h h1 p v) (n2 : NewV h1 h2 q u) {c : Nat} (hc : c < h.next) : Out p q v u c :=
  ⟨⟨fun hw => by have := n1.1 c hw; omega, fun e => by rw [n1.2.2] at e; simp [blk] at e⟩, fun hw => by have := n2.1 c hw; omega, fun e => by rw [n2.2.2] at e; simp [blk] at e⟩
theorem bin2_eql_nil {P : Program} {e : TypeId} {t : TypeId} (hu : P.underlying t = some (.pointer e)) (x y : Operand) : bin2 P .eql t x y (some .nilptr) (some .nilptr) = some (.bool true) := by simp [bin2, okEq, pbin, aeq, hu]
variable [O35]
def AwakeSpec : Prop := ∀ h, Ca Try.prog 5 [] h fun r _ => r = .bool true
theorem law_sp (hsend : SendSpec) (hawake : AwakeSpec) {h : AHeap} {x : AV} {ops : List OpV} (w sz q t : Int) (hs : Sl h 5 x (ops.map OpV.row)) (hb : ∀ o ∈ ops, Bs h o.d o.bs ∧ o.bs.length ≤ 140737488355328) (hl : ops.length ≤ 140737488355328) :
    Ca Try.prog 3 [.agg [i64 w, i64 sz, i64 q, i64 t], x] h fun r _ => r = .bool true := by
  refine ci Try.func3 rfl (by decide) ?_
  intro fr hn hg
  replace hn : fr.n = 70 := hn
  have h0 : fr.get 0 = some (.agg [i64 w, i64 sz, i64 q, i64 t]) := hg 0 (by simp)
  have h1 : fr.get 1 = some x := hg 1 (by simp)
  clear hg
  show AW _ _ _ _ _
  have i00 : ∀ x : Int, ieq x x = true := fun x => ieq_true.2 rfl
  have hp1 : Pres h (h.new (.cells 23 [i64 w, i64 sz, i64 q, i64 t] (some 0))) := (Pres.refl h).new _
  simp [hn, h0]
  rw [kseq_normal]
  refine AW_gen (fun fr' h' => fr'.n = 70 ∧ fr'.get 1 = some x ∧ fr'.get 2 = some (.ptr h.next 0) ∧ h'.get h.next = .cells 23 [i64 w, i64 sz, i64 q, i64 t] (some 0) ∧ h.next < h'.next ∧ Pres h h') ⟨by simp [hn], by simp [h1], by simp, by simp, by simp, hp1⟩ ?_
  clear hn h0 h1 hp1
  rintro fr1 h1 ⟨hn, h1x, h2, hbx, hlt, hp1⟩
  simp [hn, h1x]
  refine (long_sp (hs.pres hp1) (fun o ho => ⟨(hb o ho).1.pres hp1, (hb o ho).2⟩) hl).mono ?_
  rintro r h2' ⟨⟨b, rfl, hlong⟩, hp2⟩
  cases b with
  | true =>
    simp [hn, kseq_normal]
    refine (hawake _).mono ?_
    rintro r h3 rfl
    simp [hn, kseq_normal]
  | false =>
    obtain ⟨h80, h12⟩ := hlong rfl
    have hb2 := (hp2.2 _ hlt).trans hbx
    simp [hn, h2, hb2, kseq_normal]
    refine (pnew_sp w sz q t).mono ?_
    rintro r h3 ⟨hp3, hr⟩
    have hb3 := (hp3.2 _ (Nat.lt_of_lt_of_le hlt hp2.1)).trans hb2
    rcases hr with ⟨hE, rfl⟩ | ⟨hE, p, v, rfl, hpl, n1⟩
    · simp [hn, h2, hb3, kseq_normal]
      refine (rnew_sp w sz q t).mono ?_
      rintro r h4 ⟨hp4, hr⟩
      rcases hr with ⟨_, rfl⟩ | ⟨hE', _⟩
      · have hE0 : ieq (newE w sz q t) 0 = false := ieq_false.2 hE
        simp [hn, i00, hE0, bin2_eql_nil pt27, kseq_normal]
        refine (hawake _).mono ?_
        rintro r h5 rfl
        simp [hn, kseq_normal]
      · exact absurd hE' hE
    · simp [hn, h2, hb3, kseq_normal]
      refine (rnew_sp w sz q t).mono ?_
      rintro r h4 ⟨hp4, hr⟩
      rcases hr with ⟨hE', _⟩ | ⟨_, p2, u, rfl, hrl, n2⟩
      · exact absurd hE hE'
      · have e00 : ieq 0 0 = true := rfl
        have hxl : plen Try.prog 24 x = some (i64 (ops.length : Int)) := by have := hs.len sl24; simpa using this
        have hp3h : h.next ≤ h3.next := Nat.le_trans hp1.1 (Nat.le_trans hp2.1 hp3.1)
        have hp12 : Pres h h2' := hp1.trans hp2
        obtain ⟨z, hz, inv0⟩ := Inv.new hE
        have two0 := Two.new hpl n1 hp4 hrl n2
        have hout0 : ∀ c, c < h.next → Out p p2 v u c := fun c hc => NewV.out hp3.1 n1 n2 (Nat.lt_of_lt_of_le hc hp12.1)
        have hget0 : ∀ c, c < h.next → h4.get c = h.get c := fun c hc => ((hp12.trans hp3).trans hp4).2 c hc
        have hle0 : h.next ≤ h4.next := Nat.le_trans hp3h hp4.1
        simp [hn, e00, h1x, bin2_eql_ptr pt27, hxl, kseq_normal]
        refine AW_cut_x 0 (fun fr' h' => True) ?_ ?_
        · refine AW_loop_fr (fun m fr' h' => ∃ k s v u, m = ops.length - k ∧ k ≤ ops.length ∧ fr'.get 53 = some (i64 (k : Nat)) ∧ Two h' p p2 s s v u ∧ Inv k z s ∧ h.next ≤ h'.next ∧ ∀ c, c < h.next → h'.get c = h.get c ∧ Out p p2 v u c) ops.length
            ⟨0, _, v, u, by simp, by omega, by simp, two0, inv0, hle0, fun c hc => ⟨hget0 c hc, hout0 c hc⟩⟩ ?_
          rintro J hJ m fr' h' ⟨k, s, v', u', rfl, hk, h53, two, inv, hle, hcc⟩ hfr
          have hn' : fr'.n = 70 := hfr.1.trans (by simp [hn])
          have h5' : fr'.get 5 = some (.ptr p 0) := (hfr.2 5 (by kernel_rfl)).trans (by simp)
          have h7' : fr'.get 7 = some (.ptr p2 0) := (hfr.2 7 (by kernel_rfl)).trans (by simp)
          have h51 : fr'.get 51 = some x := (hfr.2 51 (by kernel_rfl)).trans (by simp)
          have h52 : fr'.get 52 = some (i64 (ops.length : Int)) := (hfr.2 52 (by kernel_rfl)).trans (by simp)
          clear hfr
          simp [hn', h52, h53, kseq_normal]
          refine Br.mk (fun hc => ?_) (fun hc => ?_)
          case refine_2 =>
            simp [hn', kseq_normal]
          have hk1 : k < ops.length := by rw [ilt_true] at hc; omega
          have hs' : Sl h' 5 x (ops.map OpV.row) := Sl.keep hs hle fun c hc hl => (hcc c hl).1
          obtain ⟨b, o, _, hix, _, hag, _⟩ := Sl.at_blk hs' sl24 sz36 k (by simpa using hk1)
          have hag := hag ag36
          rw [List.getElem_map] at hag
          have hm := List.getElem_mem hk1
          obtain ⟨hob, _⟩ := hb ops[k] hm
          have hol := h12 ops[k] hm
          generalize ops[k] = op at *
          have hob' : Bs h' op.d op.bs := Sl.keep hob hle fun c hc hl => (hcc c hl).1
          obtain ⟨q1, q2, q3⟩ := hob.one
          have hpz : Pres h' ((h'.new (.cells 36 [i64 0, i64 0, .bool false, .nilsl, i64 0] (some 0))).set h'.next (.cells 36 op.row (some 0))) := ((Pres.refl h').new _).set (Nat.le_refl _) _
          simp [hn', h51, h53, h5', h7', hix, hag, stc_all sz36, q2, kseq_normal]
          refine (do_sp hsend (two.pres hpz) inv (by omega) (hob'.pres hpz) (fun c hc => (hcc c (hob.blk_lt hc)).2) (by omega)).mono ?_
          rintro r h6 ⟨rfl, s6, v6, u6, two6, inv6, kp6⟩
          have kp := (Kp.pres (p := p) (q := p2) (v := v') (u := u') hpz).trans kp6
          simp [hn', h5', h7', kseq_normal]
          refine (seen_sp two6 (by have := inv6.ul; omega)).mono ?_
          rintro r h7 ⟨rfl, hp7⟩
          have kp7 := kp.trans (Kp.pres hp7)
          simp [hn', h53, kseq_normal]
          rw [kloop_normal]
          exact ⟨ops.length - (k + 1), by omega, hJ _ _ _ ⟨k + 1, s6, v6, u6, rfl, hk1, by simp [wrap_nat k (by omega)], two6.pres hp7, inv6, Nat.le_trans hle kp7.next, fun c hc => ⟨(kp7.get c (Nat.lt_of_lt_of_le hc hle) (hcc c hc).2).trans (hcc c hc).1, kp7.out c (Nat.lt_of_lt_of_le hc hle) (hcc c hc).2⟩⟩⟩
        rintro fr5 h5 _ hfr
        have hn5 : fr5.n = 70 := hfr.1.trans (by simp [hn])
        clear hfr
        rw [kblock_exit_eq, kseq_normal]
        simp [hn5, kseq_normal]
        refine (hawake _).mono ?_
        rintro r h6 rfl
        simp [hn5, kseq_normal]
end Go.Eng.L35
