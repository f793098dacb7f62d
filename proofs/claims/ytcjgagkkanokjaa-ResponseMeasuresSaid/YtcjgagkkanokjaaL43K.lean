/- PROVED: 'orpimentlaw43.ResponseMeasures' returns true for every input, and each argument reads behind the call as it read before (the statement Rows.ResponseMeasuresSaid; no further condition). -/
import Derived.Test.YtcjgagkkanokjaaL43J
import Derived.Test.YtcjgagkkanokjaaE25
import Derived.Test.YtcjgagkkanokjaaRows
import Derived.ProofKit
namespace Go.Eng.L43
open Go.Proofs Go.Eng
theorem ng_all : (Try.prog.funcs.all fun fn => !(fn.name == "runtime.NumGoroutine")) = true := by kernel_rfl
theorem pok : POk Try.prog := by
  refine ⟨fun f fn hf => ?_, by kernel_rfl⟩
  have := ng_all
  rw [Array.all_eq_true] at this
  obtain ⟨hl, rfl⟩ := Array.getElem?_eq_some_iff.1 hf
  have := this f hl
  simpa using this
def okTrue (r : Option (AV × AHeap)) : Bool := match r with | some (.bool true, _) => true | _ => false
set_option maxRecDepth 100000 in
theorem awake_run : okTrue (@acall Try.prog Orc.none 60 4 [] hp0) = true := by kernel_rfl
theorem oc_ok : CallOk Try.prog (@Orc.call orc43) := by
  intro f args h r h' ρ w cargs ho hs hargs
  change oc f args h = some (r, h') at ho
  unfold oc at ho
  split at ho
  · cases ho
    simp only [concs, Option.some.injEq] at hargs
    subst hargs
    have hrun := awake_run
    cases hx : @acall Try.prog Orc.none 60 4 [] hp0 with
    | none => rw [hx] at hrun; cases hrun
    | some x =>
      obtain ⟨v, h1⟩ := x
      rw [hx] at hrun
      have hv : v = .bool true := by
        unfold okTrue at hrun
        split at hrun
        · rename_i hh; cases hh; rfl
        · cases hrun
      subst hv
      exact calls_closed pok hx (fun _ _ => rfl) hs
  · cases ho
theorem tk_of (l : List Int) (h : l.length = 6) : ∃ x : Tk, l.map (AV.int .i64) = tkc x :=
  match l, h with
  | [a, b, c, d, e, f], _ => ⟨⟨a, b, c, d, e, f⟩, rfl⟩
theorem tks_of : ∀ ls : List (List Int), (∀ l ∈ ls, l.length = 6) → ∃ ts : List Tk, (ls.map fun l => l.map (AV.int .i64)) = ts.map tkc
  | [], _ => ⟨[], rfl⟩
  | l :: r, h => by
    obtain ⟨x, hx⟩ := tk_of l (h l (by simp))
    obtain ⟨ts, ht⟩ := tks_of r fun l hl => h l (by simp [hl])
    exact ⟨x :: ts, by simp only [List.map_cons, hx, ht]⟩
theorem ev_of (l : List Int) (h : l.length = 6) : ∃ x : Ev, l.map (AV.int .i64) = evc x :=
  match l, h with
  | [a, b, c, d, e, f], _ => ⟨⟨a, b, c, d, e, f⟩, rfl⟩
theorem evs_of : ∀ ls : List (List Int), (∀ l ∈ ls, l.length = 6) → ∃ ts : List Ev, (ls.map fun l => l.map (AV.int .i64)) = ts.map evc
  | [], _ => ⟨[], rfl⟩
  | l :: r, h => by
    obtain ⟨x, hx⟩ := ev_of l (h l (by simp))
    obtain ⟨ts, ht⟩ := evs_of r fun l hl => h l (by simp [hl])
    exact ⟨x :: ts, by simp only [List.map_cons, hx, ht]⟩
theorem flat44 : flatB Try.prog 44 6 = true := by kernel_rfl
theorem flat29 : flatB Try.prog 29 6 = true := by kernel_rfl
theorem co44 : Try.prog.cellsOf 44 = 6 := by kernel_rfl
theorem co29 : Try.prog.cellsOf 29 = 6 := by kernel_rfl
theorem ints24 : intsB Try.prog 24 26 = true := by kernel_rfl
/-- Two blocks that are read. -/
theorem two_sim {W : World} {o1 o2 : AObj} {p1 p2 : Option Place} (w1 : o1.writes = false) (w2 : o2.writes = false) (l1 : o1.live = true → ∃ p, p1 = some p ∧ ∀ ρ, ObjRel ρ o1 p W) (l2 : o2.live = true → ∃ p, p2 = some p ∧ ∀ ρ, ObjRel ρ o2 p W) :
    ∃ (ρ : Rho) (h : AHeap), ρ 0 = p1 ∧ ρ 1 = p2 ∧ h.next = 2 ∧ h.get 0 = o1 ∧ h.get 1 = o2 ∧ Sim ρ h W ∧ ∀ b, (h.get b).writes = false := by
  let h : AHeap := (hp0.new o1).new o2
  have g0 : h.get 0 = o1 := by simp [h, hp0]
  have g1 : h.get 1 = o2 := by simp [h, hp0]
  have g2 : ∀ b, 2 ≤ b → h.get b = .dead := fun b hb => by
    simp only [h, AHeap.get_new, new_next]
    rw [if_neg (by simp [hp0]; omega), if_neg (by simp [hp0]; omega), hp0_get]
  have gw : ∀ b, (h.get b).writes = false := fun b => by
    match b with
    | 0 => rw [g0]; exact w1
    | 1 => rw [g1]; exact w2
    | b + 2 => rw [g2 (b + 2) (by omega)]; rfl
  refine ⟨fun b => match b with | 0 => p1 | 1 => p2 | _ => none, h, rfl, rfl, rfl, g0, g1, ⟨fun b pl hb => ?_, fun b hl => ?_, fun b b' pl pl' hw => ?_, fun g hg => ?_, Nat.zero_le _⟩, gw⟩
  · match b, hb with
    | 0, _ => show 0 < 2; omega
    | 1, _ => show 1 < 2; omega
    | b + 2, hb => cases hb
  · match b, hl with
    | 0, hl =>
      rw [g0] at hl
      obtain ⟨p, hp, hr⟩ := l1 hl
      exact ⟨p, hp, by rw [g0]; exact hr _⟩
    | 1, hl =>
      rw [g1] at hl
      obtain ⟨p, hp, hr⟩ := l2 hl
      exact ⟨p, hp, by rw [g1]; exact hr _⟩
    | b + 2, hl => rw [g2 (b + 2) (by omega)] at hl; cases hl
  · rw [gw b] at hw; cases hw
  · exact absurd hg (Nat.not_lt_zero _)
theorem law_world {H : Type} {enc : TypeId × Value → H} {W : World} {base : Nat} {v0 v1 v2 : Value} {d1 d2 : DataW H} {q1 q2 : List MemPlace} (k0 : Value.okWide Try.prog W .any base 24 v0) (k1 : Value.okWide Try.prog W .any base 25 v1) (k2 : Value.okWide Try.prog W .any base 26 v2)
    (e1 : DataW.Trod enc Try.prog W 0 (fun _ => true) true 25 v1 d1 q1) (e2 : DataW.Trod enc Try.prog W 0 (fun _ => true) true 26 v2 d2 q2) :
    Calls Try.prog 3 #[v0, v1, v2] W fun e W' => e = .returned (.bool true) ∧ Go.RowKit.Below W.heap.size W W' := by
  obtain ⟨l, hl, rfl⟩ := open_ints ints24 k0
  obtain ⟨a1, o1, p1, ls1, len1, c1, w1, li1, s1⟩ := open_arg sl25 flat44 co44 (by omega) k1 e1
  obtain ⟨a2, o2, p2, ls2, len2, c2, w2, li2, s2⟩ := open_arg sl26 flat29 co29 (by omega) k2 e2
  obtain ⟨ts, ht⟩ := tks_of ls1 len1
  obtain ⟨evs, he⟩ := evs_of ls2 len2
  obtain ⟨ρ, h, r0, r1, hn, g0, g1, hsim, hw⟩ := two_sim (W := W) w1 w2 li1 li2
  have hs1 := s1 h 0 (by omega) g0
  have hs2 := s2 h 1 (by omega) g1
  rw [ht] at hs1
  rw [he] at hs2
  obtain ⟨t0, t1, cs, hcs, rfl⟩ : ∃ t0 t1 cs, cs.length = 24 ∧ l = t0 :: t1 :: cs := by
    match l, hl with
    | t0 :: t1 :: cs, hl => exact ⟨t0, t1, cs, by simpa using hl, rfl⟩
  obtain ⟨n, r, h', hrun, rfl⟩ := Ca_out (law_sp h (a1 0) (a2 1) ts evs hs1 hs2 t0 t1 cs hcs)
  have hargs : concs ρ [tbV t0 t1 cs, a1 0, a2 1] = some [.agg ((t0 :: t1 :: cs).map (Value.int .i64)).toArray, v1, v2] := by
    have htb : tbV t0 t1 cs = .agg ((t0 :: t1 :: cs).map (AV.int .i64)) := rfl
    have hca : conc ρ (tbV t0 t1 cs) = some (.agg ((t0 :: t1 :: cs).map (Value.int .i64)).toArray) := by
      rw [htb]
      simp only [conc, conc_ints]
    exact concs_cons_mk hca (concs_cons_mk (c1 ρ 0 r0) (concs_cons_mk (c2 ρ 1 r1) rfl))
  have := acall_sound pok oc_ok n 3 _ h _ h' ρ W _ hrun hsim hargs
  refine Calls.mono this ?_
  rintro e W' ⟨c, ρ', rfl, hc, hst⟩
  simp only [conc, Option.some.injEq] at hc
  subst hc
  exact ⟨rfl, hst.keep.os, hst.keep.tape, hst.keep.output, hst.keep.size, fun k hk => (hst.keep.old k hk fun ⟨b, pl, hb, _⟩ => by rw [hw b] at hb; cases hb).1⟩

open Go.ChangeShapes Go.WideShapes Go.ChangeAt Go.RowKit
open Go.Proofs.Ytcjgagkkanokjaa
theorem ub4 : Try.prog.underlying 4 = some .bool := by kernel_rfl
theorem own : ownKnob Try.prog.godebug = none := by kernel_rfl
theorem laidOut : laidOutB Try.prog = true := by kernel_rfl
set_option maxRecDepth 100000 in
theorem lifted (os : Os) (started : os.Started) (H : Type) (enc : TypeId × Value → H) :
    ReturnsInHanded {} Try.checked os 3 .any (Rows.responseMeasuresSpec.pre6 enc Try.prog Try.f3 Rows.responseMeasuresRow.domain false) (Rows.responseMeasuresSpec.post enc Try.prog Try.f3 false true false false) := by
  refine returnsInHanded_of_change (C := Try.checked) own started (by kernel_rfl) Try.func3
    (ChangeSpec.witness6 (enc := enc) (C := Try.checked) false ⟨#[], #[.agg (Array.replicate 26 (.int .i64 0)), .slice none 0 0, .slice none 0 0], []⟩ 8 (by kernel_rfl) (by kernel_rfl) (by kernel_rfl) (by kernel_rfl)) ?_
  intro W base args ds gs before hval0 hW hcnd _
  have hval : ∀ (j : Nat) t v, Try.f3.params[j]? = some t → args[j]? = some v → Value.okWide Try.prog W .any base t v := hval0
  have hW' := hW
  obtain ⟨p, q, hA0, hV, rfl, hfz, hnd⟩ := hW
  have hA : DataW.TrodAll enc Try.prog W 0 (fun _ => true) true Try.f3.params.toList args.toList ds p := hA0
  rw [Try.params3] at hA hval
  obtain ⟨v0, v1, v2, d0, d1, d2, p0, p1, p2, rfl, rfl, rfl, h0, h1, h2⟩ := trodAll_three hA
  obtain ⟨rfl, rfl⟩ := trodVars_none hV
  have lt0 : ∀ x ∈ p0, x.block < W.heap.size := fun x hx => by simpa using hW'.lt x (by simp [hx])
  have lt1 : ∀ x ∈ p1, x.block < W.heap.size := fun x hx => by simpa using hW'.lt x (by simp [hx])
  have lt2 : ∀ x ∈ p2, x.block < W.heap.size := fun x hx => by simpa using hW'.lt x (by simp [hx])
  refine (law_world (hval 0 24 v0 rfl rfl) (hval 1 25 v1 rfl rfl) (hval 2 26 v2 rfl rfl) h1 h2).mono fun e W' ⟨he, hb⟩ => ?_
  subst he
  refine ⟨_, rfl, [d0, d1, d2], [], _, [], p0 ++ (p1 ++ p2), [], hW', ?_, ?_, ?_, Below.frame hb _, fun h => by cases h⟩
  · exact trodAll_mk1 (shut_bool ub4 true)
  · exact trodAll_mk3 (Below.trod laidOut (by kernel_rfl) (of_decide_eq_true (by kernel_rfl)) h0 hb lt0) (Below.trod laidOut (by kernel_rfl) (of_decide_eq_true (by kernel_rfl)) h1 hb lt1) (Below.trod laidOut (by kernel_rfl) (of_decide_eq_true (by kernel_rfl)) h2 hb lt2)
  · rfl
end Go.Eng.L43
namespace Go.Proofs.Ytcjgagkkanokjaa
theorem responseMeasures_holds : Rows.ResponseMeasuresSaid :=
  OpenClaim.holds_of_wide 3 Try.f3 rfl rfl rfl rfl rfl rfl rfl ⟨rfl, rfl, rfl, rfl, rfl⟩ rfl rfl rfl rfl rfl (by kernel_rfl) Try.func3 (by kernel_rfl)
    (of_decide_eq_true (by kernel_rfl)) (by unfold Func.isWrapper; first | (rw [if_pos (by decide +kernel)]; kernel_rfl) | (rw [if_neg (by decide +kernel)]; exact ⟨rfl, rfl⟩))
    (fun os started H enc _ => Go.Eng.L43.lifted os started H enc)
end Go.Proofs.Ytcjgagkkanokjaa
