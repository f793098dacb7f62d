/- The engine, part 10: copy, clear, calls: one operation. -/
import Derived.Test.YtcjgagkkanokjaaE9
namespace Go.Eng

theorem srcFirst {P : Program} {ρ : Rho} {h : AHeap} {w : World} {tx : TypeId} {x : AV} {size n : Nat} {new : List AV} {cx : Value} {news : List Value} (hv : srcCells P h tx x size = some (n, new)) (hx : conc ρ x = some cx) (hs : Sim ρ h w)
    (hnw : concs ρ new = some news) (m : Nat) (hm : m ≤ n) : (Builtin.firstCells size m cx).run P w = .ok (news.take (m * size)).toArray w := by
  unfold srcCells at hv
  split at hv
  · rename_i e b o z len cap hu
    obtain ⟨pl, hb, hle, rfl⟩ := conc_sl hx
    split at hv
    · rename_i h0
      cases hv
      obtain rfl : m = 0 := by omega
      exact run_firstCells_some w size 0 _ _ _ _ (by simp) (fun j u hj => by simp at hj)
    · rename_i h0
      split at hv
      · rename_i ty cs wr hg
        split at hv
        · rename_i hc
          cases hv
          obtain ⟨c, fz, xs, hcc, he, hl, h1, hxs, hi, hf⟩ := hs.cells hb hg
          have hxl := concs_length _ _ hxs
          have hnews := concs_take (n * size) _ _ (concs_drop o _ _ hxs)
          rw [hnews] at hnw
          cases hnw
          have hmn : m * size ≤ n * size := Nat.mul_le_mul_right _ hm
          refine run_firstCells_some w size m _ _ _ _ (by simp; omega) (fun j u hj => ?_)
          rw [slAt_pos (by omega), addr_add, cell_of hcc]
          rw [List.getElem?_take] at hj
          split at hj
          · rw [List.getElem?_take] at hj
            split at hj
            · rw [List.getElem?_drop] at hj
              rw [Nat.add_assoc]; exact hi _ _ hj
            · cases hj
          · cases hj
        · cases hv
      · cases hv
  · cases hv
    obtain rfl : cx = .slice none 0 0 := by simpa [conc] using hx.symm
    obtain rfl : m = 0 := by omega
    simp only [concs, Option.some.injEq] at hnw
    subst hnw
    simpa using run_firstCells_none (P := P) w size 0 0 0
  · rename_i s hu
    split at hv
    · rename_i h1
      cases hv
      subst h1
      rw [conc_str hx]
      rw [concs_bytes] at hnw
      cases hnw
      simp only [Builtin.firstCells, Sem.run_pure, Nat.mul_one]
      congr 1
      apply Array.ext'
      simp [← List.map_take]
    · cases hv
  · cases hv

def acopy (P : Program) (h : AHeap) (ts : List TypeId) (args : List AV) : Option (AV × AHeap) :=
  match ts, args with
  | [t, tx], [d, x] =>
    match P.underlying t with
    | some (.slice e) =>
      match tsz P e with
      | some size =>
        match srcCells P h tx x size with
        | some (sn, new) =>
          match d with
          | .nilsl => some (.int .i64 0, h)
          | .sl b o _ len _ =>
            if Nat.min sn len = 0 then some (.int .i64 0, h) else
            match h.get b with
            | .cells ty cs (some f) =>
              if f ≤ o ∧ o + (new.take (Nat.min sn len * size)).length ≤ cs.length then some (.int .i64 (Nat.min sn len), h.set b (.cells ty (splice cs o (new.take (Nat.min sn len * size))) (some f))) else none
            | _ => none
          | _ => none
        | none => none
      | none => none
    | _ => none
  | _, _ => none
theorem acopy_sound {P : Program} {ρ : Rho} {h h' : AHeap} {w : World} {ts : List TypeId} {ty : TypeId} {args : List AV} {cargs : List Value} {v : AV} (hv : acopy P h ts args = some (v, h')) (ha : concs ρ args = some cargs) (hs : Sim ρ h w) :
    ∃ c w' ρ', (Builtin.copy_ ts.toArray ty cargs.toArray).run P w = .ok c w' ∧ conc ρ' v = some c ∧ Step ρ h w ρ' h' w' := by
  unfold acopy at hv
  split at hv
  case h_2 => cases hv
  rename_i t tx d x
  obtain ⟨cd, cr, hcd, hcr, rfl⟩ := concs_cons ha
  obtain ⟨cx, cr2, hcx, hcr2, rfl⟩ := concs_cons hcr
  simp [concs] at hcr2; subst hcr2
  split at hv
  case h_2 => cases hv
  rename_i e hu
  split at hv
  case h_2 => cases hv
  rename_i size hn
  split at hv
  case h_2 => cases hv
  rename_i sn new hsc
  obtain ⟨cnews, hnw, hsrc, h1⟩ := srcCells_sound hsc hcx hs
  split at hv
  · obtain rfl : cd = .slice none 0 0 := by simpa [conc] using hcd.symm
    cases hv
    have hf := srcFirst hsc hcx hs hnw 0 (Nat.zero_le _)
    have e0 : Nat.min sn 0 = 0 := Nat.min_zero _
    refine ⟨_, w, ρ, ?_, rfl, Step.refl hs⟩
    simp only [Builtin.copy_, List.getElem?_toArray, List.getElem?_cons_zero, List.getElem?_cons_succ, Sem.run_bind, run_underlying hu, hsrc.len, Result.andThen_ok, run_sizeOf_tsz hn, e0, hf]
    simp [goInt]
  · rename_i b o z' len cap
    obtain ⟨pl, hbp, hle, rfl⟩ := conc_sl hcd
    have hf := srcFirst hsc hcx hs hnw (Nat.min sn len) (Nat.min_le_left _ _)
    split at hv
    · rename_i h0
      cases hv
      refine ⟨_, w, ρ, ?_, rfl, Step.refl hs⟩
      rw [h0] at hf
      simp only [Builtin.copy_, List.getElem?_toArray, List.getElem?_cons_zero, List.getElem?_cons_succ, Sem.run_bind, run_underlying hu, hsrc.len, Result.andThen_ok, run_sizeOf_tsz hn, h0, hf]
      simp [goInt, storeCells]
    · rename_i h0
      split at hv
      case h_2 => cases hv
      rename_i tyb cs f hg
      split at hv
      · rename_i hc
        cases hv
        have hlen0 : slCap pl o cap ≠ 0 := by
          have : Nat.min sn len ≤ len := Nat.min_le_right _ _
          omega
        obtain ⟨w', hr, hst⟩ := hs.store (P := P) hbp hg hc.1 hc.2 (concs_take _ _ _ hnw) (all_take h1 _)
        refine ⟨_, w', ρ, ?_, rfl, hst⟩
        simp only [Builtin.copy_, List.getElem?_toArray, List.getElem?_cons_zero, List.getElem?_cons_succ, Sem.run_bind, run_underlying hu, hsrc.len, Result.andThen_ok, run_sizeOf_tsz hn, hf, slAt_pos hlen0, hr]
        simp [goInt]
      · cases hv
  · cases hv

def aclear (P : Program) (h : AHeap) (ts : List TypeId) (args : List AV) : Option (AV × AHeap) :=
  match ts, args with
  | [t], [d] =>
    match P.underlying t, d with
    | some (.slice _), .nilsl => some (.tuple [], h)
    | some (.slice e), .sl b o _ len _ =>
      if len = 0 then some (.tuple [], h) else
      match tzero P e, h.get b with
      | some z, .cells ty cs (some f) =>
        if f ≤ o ∧ o + (reps len z.cells).length ≤ cs.length ∧ z.cells.all AV.one = true then some (.tuple [], h.set b (.cells ty (splice cs o (reps len z.cells)) (some f))) else none
      | _, _ => none
    | _, _ => none
  | _, _ => none
theorem aclear_sound {P : Program} {ρ : Rho} {h h' : AHeap} {w : World} {ts : List TypeId} {ty : TypeId} {args : List AV} {cargs : List Value} {v : AV} (hv : aclear P h ts args = some (v, h')) (ha : concs ρ args = some cargs) (hs : Sim ρ h w) :
    ∃ c w' ρ', (Builtin.clear_ ts.toArray ty cargs.toArray).run P w = .ok c w' ∧ conc ρ' v = some c ∧ Step ρ h w ρ' h' w' := by
  unfold aclear at hv
  split at hv
  case h_2 => cases hv
  rename_i t d
  obtain ⟨cd, cr, hcd, hcr, rfl⟩ := concs_cons ha
  simp [concs] at hcr; subst hcr
  split at hv
  · rename_i e hu
    obtain rfl : cd = .slice none 0 0 := by simpa [conc] using hcd.symm
    cases hv
    exact ⟨_, w, ρ, by simp [Builtin.clear_, run_underlying hu], rfl, Step.refl hs⟩
  · rename_i e b o z' len cap hu
    obtain ⟨pl, hbp, hle, rfl⟩ := conc_sl hcd
    split at hv
    · rename_i h0
      cases hv
      subst h0
      exact ⟨_, w, ρ, by simp [Builtin.clear_, run_underlying hu], rfl, Step.refl hs⟩
    · rename_i h0
      split at hv
      case h_2 => cases hv
      rename_i z tyb cs f hz hg
      split at hv
      · rename_i hc
        cases hv
        obtain ⟨cz, hcz, _, hrz⟩ := tzero_sound (ρ := ρ) hz
        have hreps := concs_reps (conc_cells hcz) len
        obtain ⟨w', hr, hst⟩ := hs.store (P := P) hbp hg hc.1 hc.2.1 hreps (reps_one hc.2.2 len)
        refine ⟨.tuple #[], w', ρ, ?_, rfl, hst⟩
        have e1 : (Builtin.zeroCells cz.cells len).toList = (List.replicate len cz.cells.toList).flatten := by
          have := madeCells_flat cz.cells len
          unfold madeCells at this
          simp only [Builtin.zeroCells, this]
        obtain ⟨len', rfl⟩ : ∃ k, len = k + 1 := ⟨len - 1, by omega⟩
        simp only [Builtin.clear_, List.getElem?_toArray, List.getElem?_cons_zero, Sem.run_bind, run_underlying hu, Result.andThen_ok, hrz, e1, slAt_pos (show slCap pl o cap ≠ 0 by omega), hr, Sem.run_pure]
      · cases hv
  · cases hv

end Go.Eng
