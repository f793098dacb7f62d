/- Law 41: awake, on every heap that holds the variables. -/
import Derived.Test.YtcjgagkkanokjacGreatDoorA42
namespace Go.Eng.L41
open Go.Proofs Go.Eng
section
variable (t1 t2 t3 : TypeId)
theorem hL_get (b : Nat) : (hL t1 t2 t3).get b = if 11 = b then .map behL 4 false else if 10 = b then .cells t3 opsL none else if 2 = b then .cells t2 [.map 11] none else if 1 = b then .cells t1 [.sl 10 0 0 8 (.at_ 8)] none else .dead := by
  simp only [hL, AHeap.get_set]
  have : (⟨12, 10, .nil⟩ : AHeap).get b = .dead := by simp [AHeap.get, T.get_nil]
  rw [this]
theorem hL_writes (b : Nat) : ((hL t1 t2 t3).get b).writes = false := by
  rw [hL_get]
  split
  · rfl
  split
  · rfl
  split
  · rfl
  split
  · rfl
  · rfl
end
def Cl (v : AV) : Prop := ∀ ρ ρ' : Rho, conc ρ v = conc ρ' v
theorem entRel_cl {ρ ρ' : Rho} : ∀ (es : List (AV × AV × Nat)) (ces : List MapEntry), (∀ x ∈ kvs es, Cl x.1 ∧ Cl x.2) → entRel ρ es ces → entRel ρ' es ces
  | [], [], _, _ => trivial
  | (k, v, b) :: r, e :: es, hc, ⟨h1, h2, h3, h4⟩ => by
    have h0 := hc (k, v) (by simp [kvs])
    exact ⟨(h0.1 ρ' ρ).trans h1, (h0.2 ρ' ρ).trans h2, h3, entRel_cl r es (fun x hx => hc x (by simp only [kvs, List.map_cons, List.mem_cons]; exact .inr hx)) h4⟩
  | [], _ :: _, _, h => h.elim
  | _ :: _, [], _, h => h.elim
theorem beh_cl : ∀ x ∈ kvs behL, Cl x.1 ∧ Cl x.2 := by
  intro x hx
  simp only [behL, kvs, List.map_cons, List.map_nil, List.mem_cons, List.not_mem_nil, or_false] at hx
  rcases hx with rfl | rfl | rfl | rfl <;> exact ⟨fun _ _ => rfl, fun _ _ => rfl⟩
theorem ops_cl (ρ ρ' : Rho) : concs ρ opsL = concs ρ' opsL := rfl
theorem awake_any {h : AHeap} (hl : Laid h) {ρ : Rho} {w : World} (hs : Sim ρ h w) :
    Calls Tryz.prog 6 #[] w fun e w' => ∃ c ρ', e = .returned c ∧ conc ρ' (.bool true) = some c ∧ Step ρ h w ρ' h w' := by
  obtain ⟨hg, b1, b2, t1, t2, t3, g1, g2, g3, g4⟩ := hl
  have hrun := awake_run t1 t2 t3
  cases hx : @acall Tryz.prog orA 100 6 [] (hL t1 t2 t3) with
  | none => rw [hx] at hrun; cases hrun
  | some x =>
    obtain ⟨v, h1⟩ := x
    rw [hx] at hrun
    have hv : v = .bool true := by
      unfold okTrue at hrun
      split at hrun
      · rename_i hh; cases hh; rfl
      · cases hrun
    subst hv
    obtain ⟨ρL, hρ⟩ : ∃ ρL : Rho, ρL = fun b => if b < 10 then ρ b else if b = 10 then ρ b1 else if b = 11 then ρ b2 else none := ⟨_, rfl⟩
    have r10 : ρL 10 = ρ b1 := by rw [hρ]; simp
    have r11 : ρL 11 = ρ b2 := by rw [hρ]; simp
    have rlo : ∀ b, b < 10 → ρL b = ρ b := fun b hb => by rw [hρ]; simp [hb]
    have hsL : Sim ρL (hL t1 t2 t3) w := by
      refine ⟨fun b pl hb => ?_, fun b hlv => ?_, fun b b' pl pl' hw => ?_, fun g hg' => ?_, (by show 10 ≤ 12; omega)⟩
      · show b < 12
        rw [hρ] at hb
        simp only at hb
        split at hb
        · omega
        · split at hb
          · omega
          · split at hb
            · omega
            · cases hb
      · rw [hL_get] at hlv ⊢
        by_cases e11 : 11 = b
        · subst e11
          rw [if_pos rfl, r11]
          obtain ⟨pl, h1, h2⟩ := hs.obj b2 (by rw [g4]; rfl)
          rw [g4] at h2
          obtain ⟨es', cl', k1, es0, k2, k3⟩ := h2
          exact ⟨pl, h1, es', cl', k1, es0, k2, entRel_cl _ _ (fun x hx => beh_cl x (k2.mem_iff.1 hx)) k3⟩
        rw [if_neg e11] at hlv ⊢
        by_cases e10 : 10 = b
        · subst e10
          rw [if_pos rfl, r10]
          obtain ⟨pl, h1, h2⟩ := hs.obj b1 (by rw [g3]; rfl)
          rw [g3] at h2
          obtain ⟨c, fz, xs, k1, k2, k3, k4, k5, k6⟩ := h2
          exact ⟨pl, h1, c, fz, xs, k1, k2, k3, k4, (ops_cl ρL ρ).trans k5, k6⟩
        rw [if_neg e10] at hlv ⊢
        by_cases e2 : 2 = b
        · subst e2
          rw [if_pos rfl, rlo 2 (by omega)]
          obtain ⟨pl, h1, h2⟩ := hs.obj 2 (by rw [g2]; rfl)
          rw [g2] at h2
          obtain ⟨c, fz, xs, k1, k2, k3, k4, k5, k6⟩ := h2
          exact ⟨pl, h1, c, fz, xs, k1, k2, k3, rfl, by simpa only [concs, conc, r11] using k5, k6⟩
        rw [if_neg e2] at hlv ⊢
        by_cases e1 : 1 = b
        · subst e1
          rw [if_pos rfl, rlo 1 (by omega)]
          obtain ⟨pl, h1, h2⟩ := hs.obj 1 (by rw [g1]; rfl)
          rw [g1] at h2
          obtain ⟨c, fz, xs, k1, k2, k3, k4, k5, k6⟩ := h2
          exact ⟨pl, h1, c, fz, xs, k1, k2, k3, rfl, by simpa only [concs, conc, r10] using k5, k6⟩
        rw [if_neg e1] at hlv
        cases hlv
      · rw [hL_writes] at hw; cases hw
      · obtain ⟨e, he⟩ := hs.glob g (by have : g < 10 := hg'; omega)
        exact ⟨e, (rlo g hg').trans he⟩
    refine (@acall_sound Tryz.prog orA pok callA_ok 100 6 [] (hL t1 t2 t3) _ h1 ρL w [] hx hsL rfl).mono ?_
    rintro e w' ⟨c, ρ', rfl, hcv, hst⟩
    exact ⟨c, ρ, rfl, hcv, Step.idleR hs (hL_writes t1 t2 t3) hst⟩
end Go.Eng.L41
