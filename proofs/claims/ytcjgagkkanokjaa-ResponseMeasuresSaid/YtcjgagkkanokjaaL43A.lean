/- Law 43: facts of the types; the checks. -/
import Derived.Test.YtcjgagkkanokjaaE21
import Derived.Test.YtcjgagkkanokjaaProg
import Derived.KernelRfl
namespace Go.Eng.L43
open Go.Proofs Go.Eng
/-- What is known of calls: awake says true (shown elsewhere, by a run). -/
def oc (f : FuncId) (args : List AV) (h : AHeap) : Option (AV × AHeap) := match f, args with
  | 4, [] => some (.bool true, h)
  | _, _ => none
theorem oc_nx : ∀ f args h r h', oc f args h = some (r, h') → h.next ≤ h'.next ∧ h'.glob = h.glob := by
  intro f args h r h' ho
  unfold oc at ho
  split at ho
  · cases ho; exact ⟨Nat.le_refl _, rfl⟩
  · cases ho
instance orc43 : Orc := ⟨oc, oc_nx⟩

theorem sz2 : tsz Try.prog 2 = some 1 := by kernel_rfl
theorem sz3 : tsz Try.prog 3 = some 1 := by kernel_rfl
theorem sz31 : tsz Try.prog 31 = some 1 := by kernel_rfl
theorem sz22 : tsz Try.prog 22 = some 24 := by kernel_rfl
theorem sz24 : tsz Try.prog 24 = some 26 := by kernel_rfl
theorem sz35 : tsz Try.prog 35 = some 26 := by kernel_rfl
theorem sz44 : tsz Try.prog 44 = some 6 := by kernel_rfl
theorem sz53 : tsz Try.prog 53 = some 6 := by kernel_rfl
theorem sz29 : tsz Try.prog 29 = some 6 := by kernel_rfl
theorem sz54 : tsz Try.prog 54 = some 6 := by kernel_rfl
theorem sz67 : tsz Try.prog 67 = some 7 := by kernel_rfl
theorem sz70 : tsz Try.prog 70 = some 7 := by kernel_rfl
theorem sz30 : tsz Try.prog 30 = some 1 := by kernel_rfl
theorem ag2 : isAggT Try.prog 2 = some false := by kernel_rfl
theorem ag3 : isAggT Try.prog 3 = some false := by kernel_rfl
theorem ag31 : isAggT Try.prog 31 = some false := by kernel_rfl
theorem ag30 : isAggT Try.prog 30 = some false := by kernel_rfl
theorem ag22 : isAggT Try.prog 22 = some true := by kernel_rfl
theorem ag24 : isAggT Try.prog 24 = some true := by kernel_rfl
theorem ag35 : isAggT Try.prog 35 = some true := by kernel_rfl
theorem ag44 : isAggT Try.prog 44 = some true := by kernel_rfl
theorem ag53 : isAggT Try.prog 53 = some true := by kernel_rfl
theorem ag29 : isAggT Try.prog 29 = some true := by kernel_rfl
theorem ag54 : isAggT Try.prog 54 = some true := by kernel_rfl
theorem ag67 : isAggT Try.prog 67 = some true := by kernel_rfl
theorem ag70 : isAggT Try.prog 70 = some true := by kernel_rfl
theorem sl25 : Try.prog.underlying 25 = some (.slice 44) := by kernel_rfl
theorem sl37 : Try.prog.underlying 37 = some (.slice 53) := by kernel_rfl
theorem sl26 : Try.prog.underlying 26 = some (.slice 29) := by kernel_rfl
theorem sl39 : Try.prog.underlying 39 = some (.slice 54) := by kernel_rfl
theorem sl30 : Try.prog.underlying 30 = some (.slice 2) := by kernel_rfl
theorem sl48 : Try.prog.underlying 48 = some (.slice 67) := by kernel_rfl
theorem sl51 : Try.prog.underlying 51 = some (.slice 70) := by kernel_rfl
theorem by53 : tbytes Try.prog 53 = some 48 := by kernel_rfl
theorem by54 : tbytes Try.prog 54 = some 48 := by kernel_rfl
theorem by2 : tbytes Try.prog 2 = some 8 := by kernel_rfl
theorem by67 : tbytes Try.prog 67 = some 88 := by kernel_rfl
theorem by70 : tbytes Try.prog 70 = some 88 := by kernel_rfl
theorem z2 : tzero Try.prog 2 = some (.int .i64 0) := by kernel_rfl
theorem z44 : tzero Try.prog 44 = some (.agg [.int .i64 0, .int .i64 0, .int .i64 0, .int .i64 0, .int .i64 0, .int .i64 0]) := by kernel_rfl
theorem z53 : tzero Try.prog 53 = some (.agg [.int .i64 0, .int .i64 0, .int .i64 0, .int .i64 0, .int .i64 0, .int .i64 0]) := by kernel_rfl
theorem z29 : tzero Try.prog 29 = some (.agg [.int .i64 0, .int .i64 0, .int .i64 0, .int .i64 0, .int .i64 0, .int .i64 0]) := by kernel_rfl
theorem z54 : tzero Try.prog 54 = some (.agg [.int .i64 0, .int .i64 0, .int .i64 0, .int .i64 0, .int .i64 0, .int .i64 0]) := by kernel_rfl
theorem z67 : tzero Try.prog 67 = some (.agg [.int .i64 0, .int .i64 0, .int .i64 0, .int .i64 0, .int .i64 0, .nilsl, .nilsl]) := by kernel_rfl
theorem z70 : tzero Try.prog 70 = some (.agg [.int .i64 0, .int .i64 0, .int .i64 0, .int .i64 0, .int .i64 0, .nilsl, .nilsl]) := by kernel_rfl
theorem z35 : tzero Try.prog 35 = some (.agg (.int .i64 0 :: .int .i64 0 :: List.replicate 24 (.int .i64 0))) := by kernel_rfl
theorem fa24_0 (b o : Nat) : pfieldAddr Try.prog 24 (.ptr b o) 0 = some (.ptr b (o + 0)) := by kernel_rfl
theorem fa24_1 (b o : Nat) : pfieldAddr Try.prog 24 (.ptr b o) 1 = some (.ptr b (o + 1)) := by kernel_rfl
theorem fa24_2 (b o : Nat) : pfieldAddr Try.prog 24 (.ptr b o) 2 = some (.ptr b (o + 2)) := by kernel_rfl
theorem fa35_0 (b o : Nat) : pfieldAddr Try.prog 35 (.ptr b o) 0 = some (.ptr b (o + 0)) := by kernel_rfl
theorem fa35_1 (b o : Nat) : pfieldAddr Try.prog 35 (.ptr b o) 1 = some (.ptr b (o + 1)) := by kernel_rfl
theorem fa35_2 (b o : Nat) : pfieldAddr Try.prog 35 (.ptr b o) 2 = some (.ptr b (o + 2)) := by kernel_rfl
theorem fa44_0 (b o : Nat) : pfieldAddr Try.prog 44 (.ptr b o) 0 = some (.ptr b (o + 0)) := by kernel_rfl
theorem fa44_1 (b o : Nat) : pfieldAddr Try.prog 44 (.ptr b o) 1 = some (.ptr b (o + 1)) := by kernel_rfl
theorem fa44_2 (b o : Nat) : pfieldAddr Try.prog 44 (.ptr b o) 2 = some (.ptr b (o + 2)) := by kernel_rfl
theorem fa44_3 (b o : Nat) : pfieldAddr Try.prog 44 (.ptr b o) 3 = some (.ptr b (o + 3)) := by kernel_rfl
theorem fa44_4 (b o : Nat) : pfieldAddr Try.prog 44 (.ptr b o) 4 = some (.ptr b (o + 4)) := by kernel_rfl
theorem fa44_5 (b o : Nat) : pfieldAddr Try.prog 44 (.ptr b o) 5 = some (.ptr b (o + 5)) := by kernel_rfl
theorem fa53_0 (b o : Nat) : pfieldAddr Try.prog 53 (.ptr b o) 0 = some (.ptr b (o + 0)) := by kernel_rfl
theorem fa53_1 (b o : Nat) : pfieldAddr Try.prog 53 (.ptr b o) 1 = some (.ptr b (o + 1)) := by kernel_rfl
theorem fa53_2 (b o : Nat) : pfieldAddr Try.prog 53 (.ptr b o) 2 = some (.ptr b (o + 2)) := by kernel_rfl
theorem fa53_3 (b o : Nat) : pfieldAddr Try.prog 53 (.ptr b o) 3 = some (.ptr b (o + 3)) := by kernel_rfl
theorem fa53_4 (b o : Nat) : pfieldAddr Try.prog 53 (.ptr b o) 4 = some (.ptr b (o + 4)) := by kernel_rfl
theorem fa53_5 (b o : Nat) : pfieldAddr Try.prog 53 (.ptr b o) 5 = some (.ptr b (o + 5)) := by kernel_rfl
theorem fa29_0 (b o : Nat) : pfieldAddr Try.prog 29 (.ptr b o) 0 = some (.ptr b (o + 0)) := by kernel_rfl
theorem fa29_1 (b o : Nat) : pfieldAddr Try.prog 29 (.ptr b o) 1 = some (.ptr b (o + 1)) := by kernel_rfl
theorem fa29_2 (b o : Nat) : pfieldAddr Try.prog 29 (.ptr b o) 2 = some (.ptr b (o + 2)) := by kernel_rfl
theorem fa29_3 (b o : Nat) : pfieldAddr Try.prog 29 (.ptr b o) 3 = some (.ptr b (o + 3)) := by kernel_rfl
theorem fa29_4 (b o : Nat) : pfieldAddr Try.prog 29 (.ptr b o) 4 = some (.ptr b (o + 4)) := by kernel_rfl
theorem fa29_5 (b o : Nat) : pfieldAddr Try.prog 29 (.ptr b o) 5 = some (.ptr b (o + 5)) := by kernel_rfl
theorem fa54_0 (b o : Nat) : pfieldAddr Try.prog 54 (.ptr b o) 0 = some (.ptr b (o + 0)) := by kernel_rfl
theorem fa54_1 (b o : Nat) : pfieldAddr Try.prog 54 (.ptr b o) 1 = some (.ptr b (o + 1)) := by kernel_rfl
theorem fa54_2 (b o : Nat) : pfieldAddr Try.prog 54 (.ptr b o) 2 = some (.ptr b (o + 2)) := by kernel_rfl
theorem fa54_3 (b o : Nat) : pfieldAddr Try.prog 54 (.ptr b o) 3 = some (.ptr b (o + 3)) := by kernel_rfl
theorem fa54_4 (b o : Nat) : pfieldAddr Try.prog 54 (.ptr b o) 4 = some (.ptr b (o + 4)) := by kernel_rfl
theorem fa54_5 (b o : Nat) : pfieldAddr Try.prog 54 (.ptr b o) 5 = some (.ptr b (o + 5)) := by kernel_rfl
theorem ut22 : Try.prog.underlying 22 = some (.array 24 2) := by kernel_rfl
theorem hb4 : hasBody Try.prog 4 = true := by kernel_rfl
theorem hb5 : hasBody Try.prog 5 = true := by kernel_rfl
theorem hb7 : hasBody Try.prog 7 = true := by kernel_rfl
theorem hb8 : hasBody Try.prog 8 = true := by kernel_rfl
theorem hb9 : hasBody Try.prog 9 = true := by kernel_rfl
theorem hb12 : hasBody Try.prog 12 = true := by kernel_rfl
theorem hb13 : hasBody Try.prog 13 = true := by kernel_rfl
theorem hb14 : hasBody Try.prog 14 = true := by kernel_rfl
theorem hb15 : hasBody Try.prog 15 = true := by kernel_rfl
theorem hb18 : hasBody Try.prog 18 = true := by kernel_rfl
theorem hb19 : hasBody Try.prog 19 = true := by kernel_rfl
theorem hb20 : hasBody Try.prog 20 = true := by kernel_rfl
theorem hb21 : hasBody Try.prog 21 = true := by kernel_rfl
theorem hb22 : hasBody Try.prog 22 = true := by kernel_rfl
theorem hb23 : hasBody Try.prog 23 = true := by kernel_rfl
theorem hb24 : hasBody Try.prog 24 = true := by kernel_rfl
theorem hb31 : hasBody Try.prog 31 = true := by kernel_rfl
theorem hb6 : hasBody Try.prog 6 = true := by kernel_rfl
theorem hb3 : hasBody Try.prog 3 = true := by kernel_rfl
theorem ix22 {cs : List AV} {i : Nat} (hi : i < 24) : pindex Try.prog 22 (.agg cs) (.int .i64 (i : Int)) = cs[i]? := by
  simp only [pindex, nat?, ut22, sz2, apart, ag2]
  simp [hi]
def tbV (t0 t1 : Int) (cs : List Int) : AV := .agg (.int .i64 t0 :: .int .i64 t1 :: cs.map (.int .i64))
@[simp] theorem allOne_tbV (t0 t1 : Int) (cs : List Int) : allOne (tbV t0 t1 cs) = true := by simp [tbV]
@[simp] theorem cells_tbV (t0 t1 : Int) (cs : List Int) : (tbV t0 t1 cs).cells = .int .i64 t0 :: .int .i64 t1 :: cs.map (.int .i64) := rfl
def tbBad (t0 t1 : Int) : Bool := ilt t0 1 || ilt 1000 t0 || ilt t1 0 || ilt 100 t1
def cBad (c : Int) : Bool := ilt c 1 || ilt 1000 c
def cAny : List Int → Bool
  | [] => false
  | c :: r => cBad c || cAny r
theorem cAny_append : ∀ a b : List Int, cAny (a ++ b) = (cAny a || cAny b)
  | [], _ => rfl
  | x :: r, b => by simp [cAny, cAny_append r b, Bool.or_assoc]
theorem cAny_take {cs : List Int} {i : Nat} (hi : i < cs.length) : cAny (cs.take (i + 1)) = (cAny (cs.take i) || cBad cs[i]) := by
  rw [List.take_add_one, cAny_append]; simp [List.getElem?_eq_getElem hi, cAny]
theorem cAny_bad {cs : List Int} {i : Nat} (hi : i < cs.length) (h : cBad cs[i] = true) : cAny cs = true := by
  rw [← List.take_append_drop (i + 1) cs, cAny_append, cAny_take hi, h]; simp
def tbOk (t0 t1 : Int) (cs : List Int) : Bool := !tbBad t0 t1 && !cAny cs
theorem wrap_nat (i : Nat) (hi : i < 9223372036854775807) : IntKind.i64.wrap ((i : Int) + 1) = ((i + 1 : Nat) : Int) := by rw [IntWalk.i64_in _ (by omega)]; omega

theorem ia22 {b : Nat} {i : Nat} (hi : i < 24) : pindexAddr Try.prog 22 (.ptr b 2) (.int .i64 (i : Int)) = some (.ptr b (i + 2)) := by
  simp only [pindexAddr, nat?, ut22, sz2]
  simp [hi, Nat.add_comm]

theorem costs_Check (h : AHeap) (t0 t1 : Int) (cs : List Int) (hl : cs.length = 24) : Ca Try.prog 18 [tbV t0 t1 cs] h fun r h' => r = .int .i64 (if tbOk t0 t1 cs then 0 else 34) ∧ Pres h h' := by
  refine Ca_intro Try.func18 rfl ?_
  intro fr hn hg
  replace hn : fr.n = 35 := hn
  have h0 : fr.get 0 = some (tbV t0 t1 cs) := hg 0 (by simp)
  clear hg
  show AW _ _ _ _ _
  simp [hn, h0]
  rw [kseq_normal, AW_seq, AW_seq, AW_region_f]
  refine OW_cut (fun fr' h' => fr'.n = 35 ∧ fr'.get 1 = some (.ptr h.next 0) ∧ fr'.get 22 = some (.bool (tbBad t0 t1)) ∧ h' = h.new (.cells 24 (tbV t0 t1 cs).cells (some 0))) ?_ ?_
  · simp [hn, fa24_0, fa24_1, atCells_one ag2]
    repeat' (first | refine Br.mk (fun hb => ?_) (fun hb => ?_) | simp [*, fa24_0, fa24_1, atCells_one ag2, tbBad])
  rintro fr h1 ⟨hn, hg1, hg22, rfl⟩
  simp [hn, hg1, hg22, kseq_normal]
  refine Br.mk (fun hb => ?_) (fun hb => ?_)
  · simp [hn, ares, ares1, tbOk, hb, (Pres.refl h).new, kseq_normal]
  simp [hn, hg1, fa24_2, atCells_agg ag22 sz22, hl]
  rw [kseq_normal, AW_block]
  rw [List.take_of_length_le (by simp [hl])]
  refine AW_loop (fun k fr' h' => ∃ i, k = 24 - i ∧ i ≤ 24 ∧ cAny (cs.take i) = false ∧ fr'.n = 35 ∧ fr'.get 24 = some (.agg (cs.map (.int .i64))) ∧ fr'.get 25 = some (.int .i64 i) ∧ Pres h h') 24 ⟨0, by simp, by simp, rfl, by simp [hn], by simp, by simp, (Pres.refl h).new _⟩ ?_
  rintro k fr h1 ⟨i, rfl, hi, hc, hn, h24, h25, hp⟩
  simp [hn, h25, kseq_normal]
  refine Br.mk (fun hb => ?_) (fun hb => ?_)
  · have hi : i < 24 := by rw [ilt_true] at hb; omega
    simp [hn, kseq_normal, h24, h25, ix22 hi, hl, hi]
    repeat' (first | refine Br.mk (fun hb => ?_) (fun hb => ?_) | simp [*, kseq_normal])
    · have : cBad cs[i] = true := by simp [cBad, *]
      simp [hn, kseq_normal, hp, tbOk, cAny_bad _ this]
    · have : cBad cs[i] = true := by simp [cBad, *]
      simp [hn, kseq_normal, hp, tbOk, cAny_bad _ this]
    · have : cBad cs[i] = false := by simp [cBad, *]
      simp [kloop_normal, hn, h24, h25, hp]
      refine ⟨24 - (i + 1), by omega, i + 1, rfl, by omega, by rw [cAny_take (by omega), hc, this]; rfl, wrap_nat i (by omega)⟩
  · have : i = 24 := by rw [ilt_false] at hb; omega
    subst this
    rw [List.take_of_length_le (by omega)] at hc
    simp [hn, kseq_normal, tbOk, *]


theorem ref_costs_Check (h : AHeap) (t0 t1 : Int) (cs : List Int) (hl : cs.length = 24) : Ca Try.prog 23 [tbV t0 t1 cs] h fun r h' => r = .int .i64 (if tbOk t0 t1 cs then 0 else 34) ∧ Pres h h' := by
  refine Ca_intro Try.func23 rfl ?_
  intro fr hn hg
  replace hn : fr.n = 38 := hn
  have h0 : fr.get 0 = some (tbV t0 t1 cs) := hg 0 (by simp)
  clear hg
  show AW _ _ _ _ _
  simp [hn, h0]
  rw [kseq_normal, AW_seq, AW_seq, AW_region_f]
  refine OW_cut (fun fr' h' => fr'.n = 38 ∧ fr'.get 1 = some (.ptr h.next 0) ∧ fr'.get 21 = some (.bool (tbBad t0 t1)) ∧ h' = h.new (.cells 35 (tbV t0 t1 cs).cells (some 0))) ?_ ?_
  · simp [hn, fa35_0, fa35_1, atCells_one ag2]
    repeat' (first | refine Br.mk (fun hb => ?_) (fun hb => ?_) | simp [*, fa35_0, fa35_1, atCells_one ag2, tbBad])
  rintro fr h1 ⟨hn, hg1, hg22, rfl⟩
  simp [hn, hg1, hg22, kseq_normal]
  refine Br.mk (fun hb => ?_) (fun hb => ?_)
  · simp [hn, tbOk, hb, (Pres.refl h).new, kseq_normal]
  simp [hn, hg1]
  rw [kseq_normal, AW_block]
  refine AW_loop (fun k fr' h' => ∃ i, k = 24 - i ∧ i ≤ 24 ∧ cAny (cs.take i) = false ∧ fr'.n = 38 ∧ fr'.get 1 = some (.ptr h.next 0) ∧ h'.get h.next = .cells 35 (tbV t0 t1 cs).cells (some 0) ∧ fr'.get 3 = some (.int .i64 i) ∧ Pres h h') 24 ⟨0, by simp, by simp, rfl, by simp [hn], by simp [hg1], by simp, by simp, (Pres.refl h).new _⟩ ?_
  rintro k fr h1 ⟨i, rfl, hi, hc, hn, hg1, hbx, h25, hp⟩
  simp [hn, h25, kseq_normal]
  refine Br.mk (fun hb => ?_) (fun hb => ?_)
  · have hi : i < 24 := by rw [ilt_true] at hb; omega
    simp [hn, kseq_normal, h25, ia22 hi, hl, hi, hg1, fa35_2, hbx, atCells_one ag2]
    repeat' (first | refine Br.mk (fun hb => ?_) (fun hb => ?_) | simp [*, kseq_normal, ia22 hi, fa35_2, atCells_one ag2])
    · have : cBad cs[i] = true := by simp [cBad, *]
      simp [tbOk, cAny_bad _ this]
    · have : cBad cs[i] = true := by simp [cBad, *]
      simp [tbOk, cAny_bad _ this]
    · have : cBad cs[i] = false := by simp [cBad, *]
      simp [kloop_normal, hn, h25, hp, hg1, hbx]
      refine ⟨24 - (i + 1), by omega, i + 1, rfl, by omega, by rw [cAny_take (by omega), hc, this]; rfl, wrap_nat i (by omega)⟩
  · have : i = 24 := by rw [ilt_false] at hb; omega
    subst this
    rw [List.take_of_length_le (by omega)] at hc
    simp [hn, kseq_normal, tbOk, *]
end Go.Eng.L43
