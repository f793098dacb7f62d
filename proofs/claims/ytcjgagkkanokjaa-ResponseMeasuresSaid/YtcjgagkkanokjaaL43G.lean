/- Law 43: the program's Measure. -/
import Derived.Test.YtcjgagkkanokjaaL43F
namespace Go.Eng.L43
open Go.Proofs Go.Eng
theorem Ko.refl (h : AHeap) (ob : Nat) : Ko h h ob := ⟨Nat.le_refl _, fun _ _ _ => rfl⟩
theorem Ko.trans {a b c : AHeap} {ob : Nat} (x : Ko a b ob) (y : Ko b c ob) : Ko a c ob := ⟨Nat.le_trans x.1 y.1, fun k hk hne => (y.2 k (Nat.lt_of_lt_of_le hk x.1) hne).trans (x.2 k hk hne)⟩
theorem Ko.pres {a b : AHeap} (x : Pres a b) (ob : Nat) : Ko a b ob := ⟨x.1, fun k hk _ => x.2 k hk⟩
theorem Sl.ko {h h' : AHeap} {ob n : Nat} {x : AV} {l : List (List AV)} (hs : Sl h n x l) (hk : Ko h h' ob) (hx : blk x ≠ some ob) : Sl h' n x l :=
  hs.keep hk.1 fun b hb hlt => hk.2 b hlt fun e => hx (by rw [hb, e])
theorem last_wrap (x : Tk) : IntKind.i64.wrap ((pln x : Int) - 2) = lastOf x := by
  unfold lastOf pln
  split <;> decide
theorem m5_l1 {fr : AFrame} {h : AHeap} {x tr : AV} {ts : List Tk} {evs : List Ev} {ob : Nat} (hn : fr.n = 135) (hs : Sl h 6 x (ts.map tkc)) (hlen : ts.length ≤ 1000) (ht : Sl h 6 tr (evs.map evc)) (hT2 : evs.length ≤ 5000) (hev : ∀ e ∈ evs, 0 ≤ e.b ∧ e.b ≤ 20)
    (h2 : fr.get 2 = some tr) (h9 : fr.get 9 = some (.sl ob 0 0 ts.length (.at_ ts.length))) (h29 : fr.get 29 = some x) (h30 : fr.get 30 = some (.int .i64 (ts.length : Nat))) (h31 : fr.get 31 = some (.int .i64 0))
    (hobn : ob < h.next) (hoc : h.get ob = .cells 2 (List.replicate ts.length (.int .i64 0)) (some 0)) (hxo : blk x ≠ some ob) (hto : blk tr ≠ some ob) :
    AW Try.prog (bodyAt Try.f5 [1, 1, 1, 0, 1, 0]) fr h fun ex fr' h' => (ex = .exit 0 ∧ ∃ o, outs ts evs ts.length = some o ∧ h'.get ob = .cells 2 (ints o) (some 0) ∧ Ko h h' ob) ∨
      (ex = .ret ∧ outs ts evs ts.length = none ∧ fr'.get 6 = some .nilsl ∧ fr'.get 7 = some (.int .i64 14) ∧ Ko h h' ob) := by
  refine AW_loop_fr (fun k fr' h' => ∃ i ol, k = ts.length - i ∧ i ≤ ts.length ∧ outs ts evs i = some ol ∧ fr'.get 31 = some (.int .i64 (i : Nat)) ∧ Ko h h' ob ∧ h'.get ob = .cells 2 (ints ol ++ List.replicate (ts.length - i) (.int .i64 0)) (some 0)) ts.length
    ⟨0, [], by simp, by omega, rfl, h31, Ko.refl _ _, by simpa [ints] using hoc⟩ ?_
  rintro J hJ k fr' h' ⟨i, ol, rfl, hi, hol, h31', hko, hoc'⟩ hfr
  have hn' : fr'.n = 135 := hfr.1.trans hn
  have h2' := (hfr.2 2 (by kernel_rfl)).trans h2
  have h9' := (hfr.2 9 (by kernel_rfl)).trans h9
  have h29' := (hfr.2 29 (by kernel_rfl)).trans h29
  have h30' := (hfr.2 30 (by kernel_rfl)).trans h30
  clear hfr h2 h9 h29 h30 h31
  have hs' := Sl.ko hs hko hxo
  have ht' := Sl.ko ht hko hto
  have hobn' : ob < h'.next := Nat.lt_of_lt_of_le hobn hko.1
  have holl := outs_len hol
  have hw := wrap_nat i (by omega)
  simp [hn', h30', h31', kseq_normal]
  refine Br.mk (fun hb => ?_) (fun hb => ?_)
  · have hi : i < ts.length := by rw [ilt_true] at hb; omega
    obtain ⟨b, o, ha, hbn, hag, _⟩ := hs'.at sl25 sz44 i (by simpa using hi)
    have hag := hag ag44
    simp only [List.getElem_map] at hag
    have hos := outs_succ hol hi
    generalize hee : ts[i] = tk at *
    simp [hn', h29', h31', ha, hag, pal44, stc_all sz44, kseq_normal, hb13, atCells_agg ag44 sz44]
    refine Ca.mono (program_sp _ (i : Int) tk) ?_
    rintro r h3 ⟨hr, hp3⟩
    replace hp3 := (((Pres.refl h').new _).set (Nat.le_refl _) _).trans hp3
    have ht3 := ht'.pres hp3
    have hko3 := hko.trans (Ko.pres hp3 ob)
    have hoc3 := (hp3.2 ob hobn').trans hoc'
    have hob3 : ob < h3.next := Nat.lt_of_lt_of_le hobn' hp3.1
    simp [hn', hr, h2', kseq_normal, last_wrap, ht3.len sl26]
    refine AW_cut_x 2 _ (m5_l2 (i := i) (evs := evs) (tr := tr) (by simp [hn']) (by simp [h2']) ht3 hT2 hev (by simp) (by simp) (by simp) (by simp) (by simp)) ?_
    rintro fr4 h4 ⟨y, c1, c2, c3⟩ hf4
    have d0 : fr4.n = 135 := hf4.1.trans (by simp [hn'])
    have d2 := (hf4.2 2 (by kernel_rfl)).trans (by simp; exact h2')
    have d9 := (hf4.2 9 (by kernel_rfl)).trans (by simp; exact h9')
    have d10 := (hf4.2 10 (by kernel_rfl)).trans (by simp; rfl)
    have d12 := (hf4.2 12 (by kernel_rfl)).trans (by simp; rfl)
    have d29 := (hf4.2 29 (by kernel_rfl)).trans (by simp; exact h29')
    have d30 := (hf4.2 30 (by kernel_rfl)).trans (by simp; exact h30')
    have d31 := (hf4.2 31 (by kernel_rfl)).trans (by simp; exact h31')
    clear hf4
    have ht4 := ht3.pres c3
    have hko4 := hko3.trans (Ko.pres c3 ob)
    have hoc4 := (c3.2 ob hob3).trans hoc3
    simp [d0, d2, kseq_normal, ht4.len sl26]
    have hms : measN ((rels i evs).take (evs.length + 1)) (comps i (lastOf tk) evs) (comps i (lastOf tk) evs).length = meas i tk evs := measN_rel _ (by have := comps_len i (lastOf tk) evs; omega)
    have hil : (ints ol).length = i := by simp [ints, holl]
    refine AW_mono _ _ _ _ _ (AW_fr _ _ _ _ (m5_l4 (i := i) (n := ts.length) (ob := ob) (lo := h3.next) (evs := evs) (tr := tr) (y := y) (last := lastOf tk) (R := (rels i evs).take (evs.length + 1)) (cells := ints ol ++ List.replicate (ts.length - i) (.int .i64 0))
      (by simp [d0]) ht4 hT2 (by simp [d10]) (by simp [d9]) (by simp [d12]) (by simp [c1]) c2 (by simp) (by simp) (by simp) (by simp) hob3 (Nat.lt_of_lt_of_le hob3 c3.1) hoc4 (by simp [hil]; omega) hi (by rw [List.getElem?_append_right (by omega), hil, Nat.sub_self, List.getElem?_replicate, if_pos (by omega)]) hto)) ?_
    rintro ex fr5 h5 ⟨hex, hf5⟩
    have e0 : fr5.n = 135 := hf5.1.trans (by simp [d0])
    have e31 := (hf5.2 31 (by kernel_rfl)).trans (by simp; exact d31)
    clear hf5
    rcases hex with ⟨rfl, m, hm, hoc5, hko5⟩ | ⟨rfl, hm, g6, g7, hko5⟩
    · rw [hms] at hm
      rw [hm] at hos
      simp [e0, e31, kseq_normal, hw]
      rw [kloop_normal]
      refine ⟨ts.length - (i + 1), by omega, hJ _ _ _ ⟨i + 1, ol ++ [m], rfl, by omega, hos, by simp, hko4.trans hko5, ?_⟩⟩
      rw [hoc5]
      congr 1
      rw [show ts.length - i = (ts.length - (i + 1)) + 1 by omega, List.replicate_succ, List.set_append_right _ _ (by omega), hil, Nat.sub_self]
      simp [ints]
    · rw [hms] at hm
      rw [hm] at hos
      simp [kseq_normal, g6, g7]
      exact ⟨outs_none hos _ (by omega), hko4.trans hko5⟩
  · have : i = ts.length := by rw [ilt_false] at hb; omega
    subst this
    simp [hn', kseq_normal]
    exact ⟨ol, hol, by simpa using hoc', hko⟩
theorem measure_sp (h : AHeap) (x tr : AV) (ts : List Tk) (evs : List Ev) (hs : Sl h 6 x (ts.map tkc)) (hlen : ts.length ≤ 1000) (ht : Sl h 6 tr (evs.map evc)) (hT : evs.length ≤ 5000) (hev : ∀ e ∈ evs, 0 ≤ e.b ∧ e.b ≤ 20)
    (t0 t1 : Int) (cs : List Int) (hl : cs.length = 24) : Ca Try.prog 5 [tbV t0 t1 cs, x, tr] h fun r h' => MeasR h' r t0 t1 cs ts evs ∧ Pres h h' := by
  refine Ca_intro Try.func5 rfl ?_
  intro fr hn hg
  replace hn : fr.n = 135 := hn
  have h0 : fr.get 0 = some (tbV t0 t1 cs) := hg 0 (by simp)
  have h1 : fr.get 1 = some x := hg 1 (by simp)
  have h2 : fr.get 2 = some tr := hg 2 (by simp)
  clear hg
  show AW _ _ _ _ _
  simp [hn, h0, h1, kseq_normal, hb12, atCells_agg ag24 sz24, hl]
  rw [List.take_of_length_le (by simp [hl])]
  have hs1 := hs.pres ((Pres.refl h).new (.cells 24 (tbV t0 t1 cs).cells (some 0)))
  refine Ca.mono (check_sp _ x ts hs1 hlen t0 t1 cs hl) ?_
  rintro r h3 ⟨rfl, hp⟩
  replace hp := ((Pres.refl h).new _).trans hp
  have hs2 := hs.pres hp
  simp [hn, kseq_normal]
  refine Br.mk (fun hb => ?_) (fun hb => ?_)
  · rw [ieq_true] at hb
    simp [hn, kseq_normal, h1, hs2.len sl25]
    rw [pms_int sl30 sz2 by2 z2 (by omega) (by omega)]
    simp [hn, kseq_normal, h1, hs2.len sl25]
    have hob : h.next ≤ h3.next := hp.1
    have hxo : blk x ≠ some h3.next := fun e => by have := Sl.blk_lt hs2 e; omega
    have hto : blk tr ≠ some h3.next := fun e => by have := Sl.blk_lt (ht.pres hp) e; omega
    have hp4 := (Pres.refl h3).new (.cells 2 (List.replicate ts.length (.int .i64 0)) (some 0))
    refine AW_mono _ _ _ _ _ (AW_fr _ _ _ _ (m5_l1 (x := x) (tr := tr) (ts := ts) (evs := evs) (ob := h3.next) (by simp [hn]) (hs2.pres hp4) hlen ((ht.pres hp).pres hp4) hT hev (by simp [h2]) (by simp) (by simp) (by simp) (by simp) (by simp) (by simp) hxo hto)) ?_
    rintro ex fr5 h5 ⟨hex, hf5⟩
    have e0 : fr5.n = 135 := hf5.1.trans (by simp [hn])
    have e9 := (hf5.2 9 (by kernel_rfl)).trans (by simp; rfl)
    clear hf5
    have hfin : ∀ g : AHeap, Ko (h3.new (.cells 2 (List.replicate ts.length (.int .i64 0)) (some 0))) g h3.next → Pres h g := fun g hk =>
      ⟨by have := hp.1; have := hk.1; simp at this; omega, fun c hc => (hk.2 c (by have := hp.1; simp; omega) (by have := hp.1; omega)).trans ((hp.new _).2 c hc)⟩
    rcases hex with ⟨rfl, o, ho, hoc5, hko5⟩ | ⟨rfl, ho, g6, g7, hko5⟩
    · simp [e0, e9, kseq_normal]
      refine ⟨?_, hfin _ hko5⟩
      simp only [MeasR, hb, if_true, ho]
      refine ⟨_, rfl, ?_⟩
      have hol := outs_len ho
      exact Sl.whole (cs := ints o) hoc5 (by have := hko5.1; simp at this; omega) (by simp [ints, hol])
    · simp [g6, g7]
      refine ⟨?_, hfin _ hko5⟩
      simp only [MeasR, hb, if_true, ho]
  · rw [ieq_false] at hb
    simp [hn, kseq_normal, MeasR, hb, hp]
end Go.Eng.L43
