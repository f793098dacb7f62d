/- Law 41: the witness meets the row's condition. -/
import Derived.Test.YtcjgagkkanokjacGreatDoorB15
import Derived.LaidMore
namespace Go.Eng.L41
open Go.Proofs Go.Eng
open Go.Proofs.YtcjgagkkanokjacGreatDoor
set_option maxRecDepth 100000
noncomputable def smallL : List (String × DataW Unit) := Rows.shellMatchesRow.laid.filter fun x => !(["unicode/utf8.first"] : List String).contains x.1
theorem w_shape2 (os : Os) : (((wit os).forCall (fun _ _ => 0) ⟨#[], args0', []⟩).heap.toList.drop Tryz.prog.globals.size).take ((begin Tryz.prog (fun _ _ => 0) default).world.heap.size - Tryz.prog.globals.size) =
      (begin Tryz.prog (fun _ _ => 0) default).world.heap.toList.drop Tryz.prog.globals.size := by kernel_rfl
theorem w_small (os : Os) : LaidIn Tryz.prog (mem os args0') smallL (bks os) :=
  LaidIn.of_run (bks os) 8 (by kernel_rfl) (by kernel_rfl) (by kernel_rfl) (by kernel_rfl)
theorem w_met (os : Os) : laidMetH Tryz.prog Rows.shellMatchesRow.laid (mem os args0') := by
  rw [MakeChecks.laidMetH_plain _ _ _ (by kernel_rfl)]
  exact laidMet_layVars (w0 := door os) ["unicode/utf8.first"] (bks os) (by kernel_rfl) (w_fits os) (w_ifaces os) (w_small os)
end Go.Eng.L41
