/-
  The tie of the listed variables to the text of the program.
-/
import Derived.Test.YtdckhbgmlojfkaaGreatDoorTieWE
import Derived.Test.YtdckhbgmlojfkaaGreatDoorTieWF
import Derived.Test.YtdckhbgmlojfkaaGreatDoorTieP
import Derived.Test.YtdckhbgmlojfkaaGreatDoorTieB
import Derived.Test.YtdckhbgmlojfkaaGreatDoorTieC
import Derived.Test.YtdckhbgmlojfkaaGreatDoorTieD
import Derived.Test.YtdckhbgmlojfkaaGreatDoorTieE
namespace Go.Proofs.YtdckhbgmlojfkaaGreatDoor
open Go Go.Ev
theorem noOwnUns : Tryz.pinned.checked.prog.headLifts.contains "ownunsafe" = false := by kernel_rfl
theorem tieWhole : Tryz.prog.laidByTextLater laidList [.data, .data, .data, .sentinel, .sentinel, .data, .data, .data] true :=
  Program.laidByTextLater_of_run 742 400 8 tieW tieW2 tieRoot tieK tieG tieN tieD tieE tieF
/-- The condition of the rows, where the door's run has left its heap. -/
theorem door_met (os : Os) (args : Array Value) : laidMetH Tryz.prog laidAll ((World.laidAll Tryz.prog os laidAll).forCall (fun _ _ => 0) ⟨#[], args, []⟩).memory := by
  rw [MakeChecks.laidMetH_plain _ _ _ (by kernel_rfl)]
  exact laidMet_laidAll _ (layF os) (layI os)
end Go.Proofs.YtdckhbgmlojfkaaGreatDoor
