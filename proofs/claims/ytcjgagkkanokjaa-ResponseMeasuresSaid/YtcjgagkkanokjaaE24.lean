/- The engine, part 24: a closed call, run on nothing, is known on every heap. -/
import Derived.Test.YtcjgagkkanokjaaE23
namespace Go.Eng
def hp0 : AHeap := ⟨0, 0, .nil⟩
theorem hp0_get (b : Nat) : hp0.get b = .dead := by simp [hp0, AHeap.get, T.get_nil]
theorem Sim.empty (w : World) : Sim (fun _ => none) hp0 w :=
  ⟨fun b pl h => (by cases h), fun b hl => (by rw [hp0_get] at hl; cases hl), fun b b' pl pl' hw => (by rw [hp0_get] at hw; cases hw), fun g hg => (by cases hg), Nat.le_refl _⟩
theorem Step.idle {ρ ρ' : Rho} {h h' : AHeap} {w w' : World} (hs : Sim ρ h w) (hst : Step (fun _ => none) hp0 w ρ' h' w') : Step ρ h w ρ h w' := by
  have old : ∀ k, k < w.heap.size → w'.heap[k]? = w.heap[k]? := fun k hk => (hst.keep.old k hk (fun ⟨b, pl, _, h2, _⟩ => by cases h2)).1
  refine ⟨Ext.refl ρ, ⟨hs.rng, fun b hl => ?_, hs.sep, hs.glob, hs.gl⟩, ⟨hst.keep.size, hst.keep.os, hst.keep.tape, hst.keep.output, fun k hk hn => ⟨old k hk, hn⟩, fun _ _ hn => hn⟩, Nat.le_refl _, rfl⟩
  obtain ⟨pl, h1, h2⟩ := hs.obj b hl
  exact ⟨pl, h1, h2.mono (Ext.refl ρ) (old _ (h2.lt hl))⟩
theorem CallOk.none (P : Program) : CallOk P (@Orc.call Orc.none) := fun _ _ _ _ _ _ _ _ h => by cases h
/-- A call of a function without arguments that answers with one value free of places. -/
theorem calls_closed {P : Program} (hP : POk P) {f : FuncId} {n : Nat} {r : AV} {h1 : AHeap} (hrun : @acall P Orc.none n f [] hp0 = some (r, h1)) (hc : ∀ ρ ρ' : Rho, conc ρ r = conc ρ' r) {ρ : Rho} {h : AHeap} {w : World} (hs : Sim ρ h w) :
    Calls P f #[] w fun e w' => ∃ c ρ', e = .returned c ∧ conc ρ' r = some c ∧ Step ρ h w ρ' h w' := by
  have := @acall_sound P Orc.none hP (CallOk.none P) n f [] hp0 r h1 (fun _ => Option.none) w [] hrun (Sim.empty w) rfl
  refine this.mono ?_
  rintro e w' ⟨c, ρ', rfl, hcv, hst⟩
  exact ⟨c, ρ, rfl, by rw [hc ρ ρ']; exact hcv, Step.idle hs hst⟩
end Go.Eng
