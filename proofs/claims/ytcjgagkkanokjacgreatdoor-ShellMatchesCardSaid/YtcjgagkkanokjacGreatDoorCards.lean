/-
  DERIVED. GIVEN WITH THE SEED: THE CARDS: each row of YtcjgagkkanokjacGreatDoorRows.lean that lists a variable, with what it lists TIED to the program's text (the seventh form; the later family's looks); each row that meets fmt, with fmt's text TOLD by the authors' own Lean function (tested against real Go, not proved from fmt's source: count such statements apart). THE CARD IS WHAT COUNTS. Prove the row's statement (the work); the ties are given (YtcjgagkkanokjacGreatDoorTie.lean); close each card by the builder's one call (the guide's Derived/Test/ToyasCard.lean, 'card_holds'). Laid BY PROGRAM, IN A SANDBOX (cutbox-door.mjs). By AI agents, Wed Nov 11 2026. No macro, syntax, notation, axiom, sorry.
-/
import Derived.Test.YtcjgagkkanokjacGreatDoorRows
import GoSem.ClaimSeven
namespace Go.Proofs.YtcjgagkkanokjacGreatDoor
namespace Rows

/-- THE TIED CARD OF 'orpimentlaw41.ShellMatches'. -/
def shellMatchesCard : Claim7 := { stood := { row := shellMatchesRow, standIns := [], harness := (true, "3960afa13051c78d16bf6f79aa2073fd8070414b562b616bfddbbc61cf94384e"), looks := true }, kinds := [], alts := [], laidByText := true, laidKinds := [.data, .data, .data, .data, .sentinel, .sentinel, .data, .mapped, .pinned], laidTests := true, laidLooks := .later }
def ShellMatchesCardSaid : Prop := Claim7.holds Tryz.pinned (.plain (OpenSpec.ofChange shellMatchesSpec)) shellMatchesCard

/-- THE SECOND FORM's CARD OF 'orpimentlaw41.ShellMatches'. -/
def shellMatchesUptoCard : Claim7 := { stood := { row := shellMatchesUptoRow, standIns := [], harness := (true, "3960afa13051c78d16bf6f79aa2073fd8070414b562b616bfddbbc61cf94384e"), looks := true }, kinds := [], alts := [], laidByText := true, laidKinds := [.data, .data, .data, .data, .sentinel, .sentinel, .data, .mapped, .pinned], laidTests := true, laidLooks := .later }
def ShellMatchesUptoCardSaid : Prop := Claim7.holds Tryz.pinned (.plain (OpenSpec.upto shellMatchesSpec)) shellMatchesUptoCard
end Rows
end Go.Proofs.YtcjgagkkanokjacGreatDoor
