/- Law 43: the checks of the tasks. -/
import Derived.Test.YtcjgagkkanokjaaL43A
namespace Go.Eng.L43
open Go.Proofs Go.Eng
structure Tk where
  (p per dl off wk cr : Int)
abbrev tkc (x : Tk) : List AV := [.int .i64 x.p, .int .i64 x.per, .int .i64 x.dl, .int .i64 x.off, .int .i64 x.wk, .int .i64 x.cr]
def timedB (x : Tk) : Bool := !ilt x.per 1 && !ilt 100000 x.per && !ilt x.dl 1 && !ilt x.per x.dl && !ilt x.off 0 && !ilt 99999 x.off && !ilt x.wk 1 && !ilt 1000 x.wk && !ilt x.cr 0 && !ilt 1000 x.cr
def tkBad (x : Tk) : Bool := ilt x.p 1 || ilt 255 x.p || !timedB x
def tAny : List Tk → Bool
  | [] => false
  | c :: r => tkBad c || tAny r
theorem tAny_append : ∀ a b : List Tk, tAny (a ++ b) = (tAny a || tAny b)
  | [], _ => rfl
  | x :: r, b => by simp [tAny, tAny_append r b, Bool.or_assoc]
theorem tAny_take {cs : List Tk} {i : Nat} (hi : i < cs.length) : tAny (cs.take (i + 1)) = (tAny (cs.take i) || tkBad cs[i]) := by
  rw [List.take_add_one, tAny_append]; simp [List.getElem?_eq_getElem hi, tAny]
theorem tAny_bad {cs : List Tk} {i : Nat} (hi : i < cs.length) (h : tkBad cs[i] = true) : tAny cs = true := by
  rw [← List.take_append_drop (i + 1) cs, tAny_append, tAny_take hi, h]; simp

theorem timed_sp (h : AHeap) (x : Tk) : Ca Try.prog 22 [.agg (tkc x)] h fun r h' => r = .bool (timedB x) ∧ Pres h h' := by
  refine Ca_intro Try.func22 rfl ?_
  intro fr hn hg
  replace hn : fr.n = 53 := hn
  have h0 : fr.get 0 = some (.agg (tkc x)) := hg 0 (by simp)
  clear hg
  show AW _ _ _ _ _
  simp [hn, h0]
  rw [kseq_normal, AW_seq, AW_region_f]
  refine OW_cut (fun fr' h' => fr'.n = 53 ∧ fr'.get 2 = some (.bool (timedB x)) ∧ Pres h h') ?_ ?_
  · simp [hn, fa44_1, atCells_one ag2]
    repeat' (first | refine Br.mk (fun hb => ?_) (fun hb => ?_) | simp [*, fa44_1, fa44_2, fa44_3, fa44_4, fa44_5, atCells_one ag2, timedB, (Pres.refl h).new])
  rintro fr h1 ⟨hn, hg2, hp⟩
  simp [hn, hg2, kseq_normal, hp]
theorem right_sp (h : AHeap) (x : Tk) : Ca Try.prog 24 [.agg (tkc x)] h fun r h' => r = .bool (timedB x) ∧ Pres h h' := by
  refine Ca_intro Try.func24 rfl ?_
  intro fr hn hg
  replace hn : fr.n = 53 := hn
  have h0 : fr.get 0 = some (.agg (tkc x)) := hg 0 (by simp)
  clear hg
  show AW _ _ _ _ _
  simp [hn, h0]
  rw [kseq_normal, AW_seq, AW_region_f]
  refine OW_cut (fun fr' h' => fr'.n = 53 ∧ fr'.get 2 = some (.bool (timedB x)) ∧ Pres h h') ?_ ?_
  · simp [hn, fa53_1, atCells_one ag2]
    repeat' (first | refine Br.mk (fun hb => ?_) (fun hb => ?_) | simp [*, fa53_1, fa53_2, fa53_3, fa53_4, fa53_5, atCells_one ag2, timedB, (Pres.refl h).new])
  rintro fr h1 ⟨hn, hg2, hp⟩
  simp [hn, hg2, kseq_normal, hp]
theorem check1_sp (h : AHeap) (x : Tk) : Ca Try.prog 21 [.agg (tkc x)] h fun r h' => r = .bool (tkBad x) ∧ Pres h h' := by
  refine Ca_intro Try.func21 rfl ?_
  intro fr hn hg
  replace hn : fr.n = 16 := hn
  have h0 : fr.get 0 = some (.agg (tkc x)) := hg 0 (by simp)
  clear hg
  show AW _ _ _ _ _
  simp [hn, h0]
  rw [kseq_normal, AW_seq, AW_region_f]
  refine OW_cut (fun fr' h' => fr'.n = 16 ∧ fr'.get 2 = some (.bool (tkBad x)) ∧ Pres h h') ?_ ?_
  · simp [hn, fa44_0, atCells_one ag3]
    repeat' (first | refine Br.mk (fun hb => ?_) (fun hb => ?_) | refine Ca.mono (timed_sp _ x) (fun r h1 hr => ?_); obtain ⟨rfl, hp⟩ := hr; have hp := ((Pres.refl h).new _).trans hp | simp [*, fa44_0, atCells_one ag3, atCells_agg ag44 sz44, hb22, tkBad, (Pres.refl h).new])
  rintro fr h1 ⟨hn, hg2, hp⟩
  simp [hn, hg2, kseq_normal, hp]
theorem index_sp (h : AHeap) (x : AV) (ts : List Tk) (hs : Sl h 6 x (ts.map tkc)) (hlen : ts.length ≤ 1000) : Ca Try.prog 31 [x, .func 21 []] h fun r h' => ((∃ i : Nat, r = .int .i64 i ∧ tAny ts = true) ∨ (r = .int .i64 (-1) ∧ tAny ts = false)) ∧ Pres h h' := by
  refine Ca_intro Try.func31 rfl ?_
  intro fr hn hg
  replace hn : fr.n = 19 := hn
  have h0 : fr.get 0 = some x := hg 0 (by simp)
  have h1 : fr.get 1 = some (.func 21 []) := hg 1 (by simp)
  clear hg
  show AW _ _ _ _ _
  simp [hn, h0, h1, kseq_normal, hs.len sl25]
  refine AW_loop (fun k fr' h' => ∃ i, k = ts.length - i ∧ i ≤ ts.length ∧ tAny (ts.take i) = false ∧ fr'.n = 19 ∧ fr'.get 0 = some x ∧ fr'.get 1 = some (.func 21 []) ∧ fr'.get 7 = some (.int .i64 ts.length) ∧ fr'.get 8 = some (.int .i64 i) ∧ Pres h h') ts.length ⟨0, by simp, by simp, rfl, by simp [hn], by simp [h0], by simp [h1], by simp, by simp, Pres.refl h⟩ ?_
  rintro k fr h1 ⟨i, rfl, hi, hc, hn, h0, hg1, h7, h8, hp⟩
  have hs1 := hs.pres hp
  simp [hn, h7, h8, kseq_normal]
  refine Br.mk (fun hb => ?_) (fun hb => ?_)
  · have hi : i < ts.length := by rw [ilt_true] at hb; omega
    obtain ⟨b, o, ha, hbn, hag, _⟩ := hs1.at sl25 sz44 i (by simpa using hi)
    have hag := hag ag44
    simp only [List.getElem_map] at hag
    simp [hn, kseq_normal, h0, hg1, h8, ha, hag, hb21]
    refine Ca.mono (check1_sp h1 ts[i]) ?_
    rintro r h2 ⟨rfl, hp2⟩
    simp [hn, kseq_normal]
    refine Br.mk (fun hb => ?_) (fun hb => ?_)
    · simp [hn, kseq_normal, tAny_bad hi hb, hp.trans hp2]
      exact ⟨i, rfl⟩
    · simp [kloop_normal, hn, kseq_normal, h0, hg1, h7, h8, hp.trans hp2]
      exact ⟨ts.length - (i + 1), by omega, i + 1, rfl, by omega, by rw [tAny_take hi, hc, hb]; rfl, wrap_nat i (by omega)⟩
  · have : i = ts.length := by rw [ilt_false] at hb; omega
    subst this
    rw [List.take_length] at hc
    simp [hn, kseq_normal, *]
theorem contains_sp (h : AHeap) (x : AV) (ts : List Tk) (hs : Sl h 6 x (ts.map tkc)) (hlen : ts.length ≤ 1000) : Ca Try.prog 20 [x, .func 21 []] h fun r h' => r = .bool (tAny ts) ∧ Pres h h' := by
  refine Ca_intro Try.func20 rfl ?_
  intro fr hn hg
  replace hn : fr.n = 9 := hn
  have h0 : fr.get 0 = some x := hg 0 (by simp)
  have h1 : fr.get 1 = some (.func 21 []) := hg 1 (by simp)
  clear hg
  show AW _ _ _ _ _
  simp [hn, h0, h1, kseq_normal, hb31]
  refine Ca.mono (index_sp h x ts hs hlen) ?_
  rintro r h2 ⟨hr, hp2⟩
  rcases hr with ⟨i, rfl, hr⟩ | ⟨rfl, hr⟩
  · have : ilt (i : Int) 0 = false := by rw [ilt_false]; omega
    simp [hn, kseq_normal, hr, hp2, this]
  · have : ilt (-1) 0 = true := by rw [ilt_true]; omega
    simp [hn, kseq_normal, hr, hp2, this]
def cntE (n : Nat) : Int := if ieq n 0 then 9 else if ilt 12 n then 18 else 0
theorem count_sp (h : AHeap) (x : AV) (ts : List Tk) (hs : Sl h 6 x (ts.map tkc)) : Ca Try.prog 19 [x] h fun r h' => r = .int .i64 (cntE ts.length) ∧ Pres h h' := by
  refine Ca_intro Try.func19 rfl ?_
  intro fr hn hg
  replace hn : fr.n = 11 := hn
  have h0 : fr.get 0 = some x := hg 0 (by simp)
  clear hg
  show AW _ _ _ _ _
  simp [hn, h0, kseq_normal, hs.len sl25]
  repeat' (first | refine Br.mk (fun hb => ?_) (fun hb => ?_) | simp [*, kseq_normal, cntE, Pres.refl h, hs.len sl25])
def chkE (t0 t1 : Int) (cs : List Int) (ts : List Tk) : Int := if tbOk t0 t1 cs then if ieq ts.length 0 then 9 else if ilt 12 ts.length then 18 else if tAny ts then 34 else 0 else 34
theorem ieq_self (a : Int) : ieq a a = true := by simp [ieq]
theorem check_sp (h : AHeap) (x : AV) (ts : List Tk) (hs : Sl h 6 x (ts.map tkc)) (hlen : ts.length ≤ 1000) (t0 t1 : Int) (cs : List Int) (hl : cs.length = 24) : Ca Try.prog 12 [tbV t0 t1 cs, x] h fun r h' => r = .int .i64 (chkE t0 t1 cs ts) ∧ Pres h h' := by
  refine Ca_intro Try.func12 rfl ?_
  intro fr hn hg
  replace hn : fr.n = 16 := hn
  have h0 : fr.get 0 = some (tbV t0 t1 cs) := hg 0 (by simp)
  have h1 : fr.get 1 = some x := hg 1 (by simp)
  clear hg
  show AW _ _ _ _ _
  simp [hn, h0, h1, kseq_normal, hb18, atCells_agg ag24 sz24, hl]
  rw [List.take_of_length_le (by simp [hl])]
  refine Ca.mono (costs_Check _ t0 t1 cs hl) ?_
  rintro r h2 ⟨rfl, hp⟩
  have hp := ((Pres.refl h).new _).trans hp
  have hs2 := hs.pres hp
  cases htb : tbOk t0 t1 cs
  · simp [hn, kseq_normal, chkE, htb, hp, show ieq 34 0 = false from rfl]
  simp [hn, kseq_normal, ieq_self, h1, hb19]
  refine Ca.mono (count_sp h2 x ts hs2) ?_
  rintro r h3 ⟨rfl, hp3⟩
  have hp := hp.trans hp3
  have hs2 := hs.pres hp
  simp [hn, kseq_normal, cntE]
  cases hz : ieq ts.length 0
  · cases hz2 : ilt 12 ts.length
    · simp [hn, h1, kseq_normal, ieq_self, hb20]
      refine Ca.mono (contains_sp h3 x ts hs2 hlen) ?_
      rintro r h4 ⟨rfl, hp4⟩
      have hp := hp.trans hp4
      simp [hn, kseq_normal]
      refine Br.mk (fun hb => ?_) (fun hb => ?_)
      · simp [hn, kseq_normal, chkE, htb, hz, hz2, hb, hp]
      · simp [hn, kseq_normal, chkE, htb, hz, hz2, hb, hp]
    · simp [hn, kseq_normal, chkE, htb, hz, hz2, hp, show ieq 18 0 = false from rfl]
  · simp [hn, kseq_normal, chkE, htb, hz, hp, show ieq 9 0 = false from rfl]
theorem ref_check_sp (h : AHeap) (x : AV) (ts : List Tk) (hs : Sl h 6 x (ts.map tkc)) (hlen : ts.length ≤ 1000) (t0 t1 : Int) (cs : List Int) (hl : cs.length = 24) : Ca Try.prog 14 [tbV t0 t1 cs, x] h fun r h' => r = .int .i64 (chkE t0 t1 cs ts) ∧ Pres h h' := by
  refine Ca_intro Try.func14 rfl ?_
  intro fr hn hg
  replace hn : fr.n = 43 := hn
  have h0 : fr.get 0 = some (tbV t0 t1 cs) := hg 0 (by simp)
  have h1 : fr.get 1 = some x := hg 1 (by simp)
  clear hg
  show AW _ _ _ _ _
  simp [hn, h0, h1, kseq_normal, hb23, atCells_agg ag35 sz35, hl]
  rw [List.take_of_length_le (by simp [hl])]
  refine Ca.mono (ref_costs_Check _ t0 t1 cs hl) ?_
  rintro r h2 ⟨rfl, hp⟩
  have hp := ((Pres.refl h).new _).trans hp
  have hs2 := hs.pres hp
  cases htb : tbOk t0 t1 cs
  · simp [hn, kseq_normal, chkE, htb, hp, show ieq 34 0 = false from rfl]
  simp [hn, kseq_normal, ieq_self, h1, hs2.len sl37]
  refine Br.mk (fun hz => ?_) (fun hz => ?_)
  · simp [hn, kseq_normal, chkE, htb, hz, hp]
  simp [hn, kseq_normal, h1, hs2.len sl37]
  refine Br.mk (fun hz2 => ?_) (fun hz2 => ?_)
  · simp [hn, kseq_normal, chkE, htb, hz, hz2, hp]
  simp [hn, kseq_normal, h1]
  refine AW_loop (fun k fr' h' => ∃ i, k = ts.length - i ∧ i ≤ ts.length ∧ tAny (ts.take i) = false ∧ fr'.n = 43 ∧ fr'.get 1 = some x ∧ fr'.get 5 = some (.int .i64 i) ∧ Pres h h') ts.length ⟨0, by simp, by simp, rfl, by simp [hn], by simp [h1], by simp, hp⟩ ?_
  rintro k fr h1 ⟨i, rfl, hi, hc, hn, hg1, h5, hp⟩
  have hs1 := hs.pres hp
  simp [hn, h5, hg1, kseq_normal, hs1.len sl37]
  refine Br.mk (fun hb => ?_) (fun hb => ?_)
  · have hi : i < ts.length := by rw [ilt_true] at hb; omega
    obtain ⟨b, o, ha, hbn, hag, hfl⟩ := hs1.at sl37 sz53 i (by simpa using hi)
    have hag := hag ag53
    have hf0 := hfl 0 3 ag3 (by omega)
    simp only [List.getElem_map, Nat.add_zero] at hag hf0
    simp [hn, kseq_normal, hg1, h5, ha, fa53_0, hf0, hb24]
    repeat' (first | refine Br.mk (fun hb => ?_) (fun hb => ?_) | refine Ca.mono (right_sp _ ts[i]) (fun r h1 hr => ?_); obtain ⟨rfl, hp2⟩ := hr; have hp := hp.trans hp2 | simp [*, kseq_normal, fa53_0, hb24])
    · have tk : tkBad ts[i] = true := by simp [tkBad, *]
      simp [chkE, htb, hz, hz2, tAny_bad hi tk]
    · have tk : tkBad ts[i] = true := by simp [tkBad, *]
      simp [chkE, htb, hz, hz2, tAny_bad hi tk]
    · have tk : tkBad ts[i] = false := by simp [tkBad, *]
      simp [kloop_normal, hn, kseq_normal, hg1, h5, hp]
      exact ⟨ts.length - (i + 1), by omega, i + 1, rfl, by omega, by rw [tAny_take hi, hc, tk]; rfl, wrap_nat i (by omega)⟩
    · have tk : tkBad ts[i] = true := by simp [tkBad, *]
      simp [chkE, htb, hz, hz2, tAny_bad hi tk]
  · have : i = ts.length := by rw [ilt_false] at hb; omega
    subst this
    rw [List.take_length] at hc
    simp [hn, kseq_normal, chkE, *]
end Go.Eng.L43
