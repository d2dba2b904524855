/-
  The tie of the listed variables to the text of the program.
-/
import Derived.Test.YtehpbcpnmnhdbaaGreatDoorTieB
import Derived.Test.YtehpbcpnmnhdbaaGreatDoorTieC
import Derived.Test.YtehpbcpnmnhdbaaGreatDoorTieD
import Derived.Test.YtehpbcpnmnhdbaaGreatDoorTieE
namespace Go.Proofs.YtehpbcpnmnhdbaaGreatDoor
open Go Go.Ev
theorem noOwnUns : Tryz.pinned.checked.prog.headLifts.contains "ownunsafe" = false := by kernel_rfl
theorem tieWhole : Tryz.prog.laidByTextLater laidList [.data, .data, .data, .sentinel, .sentinel] true :=
  Program.laidByTextLater_of_run 545 400 8 tieW tieW2 tieRoot tieK tieG tieN tieD tieE tieF
/-- The condition of the rows, where the door's run has left its heap. -/
theorem door_met (os : Os) (args : Array Value) : laidMetH Tryz.prog laidList ((doorAt Tryz.prog 400 545 os).forCall (fun _ _ => 0) ⟨#[], args, []⟩).memory := by
  rw [MakeChecks.laidMetH_plain _ _ _ (by kernel_rfl)]
  have h := laidMet_of_run' 8 (tieE os (fun _ _ => 0)) (tieF os (fun _ _ => 0))
  exact h.of_heap (by kernel_rfl)
end Go.Proofs.YtehpbcpnmnhdbaaGreatDoor
