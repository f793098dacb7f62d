/- Law 41: words that are read; IndexFunc and ContainsFunc. -/
import Derived.Test.YtcjgagkkanokjacGreatDoorB1
namespace Go.Eng.L41
open Go.Proofs Go.Eng
/-- A value that reads as a word. -/
def Wd (h : AHeap) (x : AV) (W : List Prt) : Prop := Sl h 2 x (W.map pc)
theorem Wd.pres {h h' : AHeap} {x : AV} {W : List Prt} (hw : Wd h x W) (hp : Pres h h') : Wd h' x W := Sl.pres hw hp
theorem Wd.len23 {h : AHeap} {x : AV} {W : List Prt} (hw : Wd h x W) : plen Tryz.prog 23 x = some (.int .i64 (W.length : Int)) := by
  have := Sl.len hw sl23
  simpa using this
theorem Wd.len30 {h : AHeap} {x : AV} {W : List Prt} (hw : Wd h x W) : plen Tryz.prog 30 x = some (.int .i64 (W.length : Int)) := by
  have := Sl.len hw sl30
  simpa using this
theorem Wd.at23 {h : AHeap} {x : AV} {W : List Prt} (hw : Wd h x W) (i : Nat) (hi : i < W.length) : ∃ b o, pindexAddr Tryz.prog 23 x (.int .i64 (i : Int)) = some (.ptr b o) ∧ atCells Tryz.prog 25 (h.get b) o = some (.agg (pc W[i])) := by
  obtain ⟨b, o, h0, h1, h2, h3, _⟩ := Sl.at_blk hw sl23 sz25 i (by simpa using hi)
  exact ⟨b, o, h1, by simpa using h3 ag25⟩
theorem Wd.at30 {h : AHeap} {x : AV} {W : List Prt} (hw : Wd h x W) (i : Nat) (hi : i < W.length) : ∃ b o, pindexAddr Tryz.prog 30 x (.int .i64 (i : Int)) = some (.ptr b o) ∧ atCells Tryz.prog 3 (h.get b) o = some (.int .i64 W[i].1) ∧ atCells Tryz.prog 9 (h.get b) (o + 1) = some (.str W[i].2) := by
  obtain ⟨b, o, h0, h1, h2, _, h3⟩ := Sl.at_blk hw sl30 sz31 i (by simpa using hi)
  exact ⟨b, o, h1, by simpa [pc] using h3 0 3 ag3 (by omega), by simpa [pc] using h3 1 9 ag9 (by omega)⟩
variable [O41]
theorem index_sp (h : AHeap) (x : AV) (W : List Prt) (hw : Wd h x W) (hl : W.length < 9223372036854775807) : Ca Tryz.prog 10 [x, .func 5 []] h fun r h' => ∃ k, r = .int .i64 k ∧ ilt k 0 = !(W.any oddP) ∧ Pres h h' := by
  refine ci Tryz.func10 rfl (by decide) ?_
  intro fr hn hg
  replace hn : fr.n = 19 := hn
  have h0 : fr.get 0 = some x := hg 0 (by simp)
  have h1 : fr.get 1 = some (.func 5 []) := hg 1 (by simp)
  clear hg
  show AW _ _ _ _ _
  simp [hn, h0, h1, hw.len23, kseq_normal]
  refine AW_loop_fr (fun m fr' h' => ∃ i, m = W.length - i ∧ i ≤ W.length ∧ fr'.get 8 = some (.int .i64 (i : Nat)) ∧ (W.take i).any oddP = false ∧ Pres h h') W.length
    ⟨0, by simp, by omega, by simp, by simp, Pres.refl h⟩ ?_
  rintro J hJ m fr' h' ⟨i, rfl, hi, h8, hno, hp⟩ hfr
  have hn' : fr'.n = 19 := hfr.1.trans (by simp [hn])
  have h0' : fr'.get 0 = some x := (hfr.2 0 (by kernel_rfl)).trans (by simp [h0])
  have h1' : fr'.get 1 = some (.func 5 []) := (hfr.2 1 (by kernel_rfl)).trans (by simp [h1])
  have h7' : fr'.get 7 = some (.int .i64 (W.length : Int)) := (hfr.2 7 (by kernel_rfl)).trans (by simp)
  clear hfr
  simp [hn', h7', h8, kseq_normal]
  refine Br.mk (fun hb => ?_) (fun hb => ?_)
  · have hi : i < W.length := by rw [ilt_true] at hb; omega
    obtain ⟨b, o, e1, e2⟩ := (hw.pres hp).at23 i hi
    simp [hn', h0', h1', h8, e1, e2, kseq_normal]
    refine Ca.mono (odd_sp _ _) ?_
    rintro r h2 ⟨rfl, hp2⟩
    simp [hn', kseq_normal]
    refine Br.mk (fun hc => ?_) (fun hc => ?_)
    · simp [hn', h8, kseq_normal]
      refine ⟨?_, hp.trans hp2⟩
      rw [show ilt (i : Int) 0 = false by rw [ilt_false]; omega]
      symm
      rw [Bool.not_eq_false', List.any_eq_true]
      exact ⟨W[i], List.getElem_mem _, hc⟩
    · simp [hn', h8, kseq_normal]
      rw [kloop_normal]
      refine ⟨W.length - (i + 1), by omega, hJ _ _ _ ⟨i + 1, rfl, by omega, ?_, ?_, hp.trans hp2⟩⟩
      · simp [wrap_nat i (by omega)]
      · rw [List.take_add_one, List.getElem?_eq_getElem hi, List.any_append, hno]
        simp [hc]
  · have : i = W.length := by rw [ilt_false] at hb; omega
    subst this
    simp [hn', kseq_normal]
    refine ⟨?_, hp⟩
    rw [List.take_length] at hno
    rw [hno]; rfl
theorem contains_sp (h : AHeap) (x : AV) (W : List Prt) (hw : Wd h x W) (hl : W.length < 9223372036854775807) : Ca Tryz.prog 4 [x, .func 5 []] h fun r h' => r = .bool (W.any oddP) ∧ Pres h h' := by
  refine ci Tryz.func4 rfl (by decide) ?_
  intro fr hn hg
  replace hn : fr.n = 9 := hn
  have h0 : fr.get 0 = some x := hg 0 (by simp)
  have h1 : fr.get 1 = some (.func 5 []) := hg 1 (by simp)
  clear hg
  show AW _ _ _ _ _
  simp [hn, h0, h1, kseq_normal]
  refine Ca.mono (index_sp h x W hw hl) ?_
  rintro r h' ⟨k, rfl, hk, hp⟩
  simp [hn, kseq_normal, hk, hp]
end Go.Eng.L41
/- Law 41: how often a byte stands in a string. -/
namespace Go.Eng.L41
open Go.Proofs Go.Eng
theorem hb16 : hasBody Tryz.prog 16 = false := by kernel_rfl
variable [O41]
theorem count_sp (h : AHeap) (s : List UInt8) (c : UInt8) : Ca Tryz.prog 7 [.str s, .str [c]] h fun r h' => (∃ k : Nat, r = .int .i64 (k : Int)) ∧ h' = h := by
  refine ci Tryz.func7 rfl (by decide) ?_
  intro fr hn hg
  replace hn : fr.n = 34 := hn
  have h0 : fr.get 0 = some (.str s) := hg 0 (by simp)
  have h1 : fr.get 1 = some (.str [c]) := hg 1 (by simp)
  clear hg
  show AW _ _ _ _ _
  have i0 : pindex Tryz.prog 9 (.str [c]) (.int .i64 0) = some (byteAV c) := ix9 [c] 0
  simp [hn, h0, h1, kseq_normal, show ieq 1 0 = false by rfl, show ieq 1 1 = true by rfl, i0]
  refine CW_ext hb16 (v := .int .i64 (Lib.countByte s (c.toNat : Int).toNat.toUInt8 : Nat)) (h' := h) rfl ?_
  simp [hn, kseq_normal]
  exact ⟨_, rfl⟩
end Go.Eng.L41
