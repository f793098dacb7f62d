/- Law 41: a world that lays the variables (the witness). -/
import Derived.Test.YtcjgagkkanokjacGreatDoorB14
import Derived.Lay
namespace Go.Eng.L41
open Go.Proofs Go.Eng
open Go.Proofs.YtcjgagkkanokjacGreatDoor
noncomputable def door (os : Os) : World := World.doorLaid Tryz.prog 102 os
def greatL : List (String × DataW Unit) := [("unicode/utf8.first", Rows.laid_unicode_utf8_first)]
noncomputable def wit (os : Os) : World := (door os).layVars Tryz.prog greatL
noncomputable def bks (os : Os) : List Nat := (List.range (door os).heap.size).filter fun b => !(Tryz.prog.globalNamed "unicode/utf8.first" == some b)
noncomputable def mem (os : Os) (args : Array Value) : World := ((wit os).forCall (fun _ _ => 0) ⟨#[], args, []⟩).memory
def args0' : Array Value := #[.slice none 0 0, .string ⟨#[]⟩]
set_option maxRecDepth 100000
theorem w_fits (os : Os) : (door os).layFits Tryz.prog greatL (bks os) = true := by kernel_rfl
theorem w_ifaces (os : Os) : (door os).layIfaces Tryz.prog greatL (mem os args0') = true := by kernel_rfl
theorem w_shape1 (os : Os) : ((wit os).forCall (fun _ _ => 0) ⟨#[], args0', []⟩).variablesZipB Tryz.prog = true := by kernel_rfl
end Go.Eng.L41
