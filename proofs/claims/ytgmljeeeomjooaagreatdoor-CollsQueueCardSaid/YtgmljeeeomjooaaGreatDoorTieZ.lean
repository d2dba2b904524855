/-
  The tie of the listed variables to the text of the program.
-/
import Derived.Test.YtgmljeeeomjooaaGreatDoorTieB
import Derived.Test.YtgmljeeeomjooaaGreatDoorTieC
import Derived.Test.YtgmljeeeomjooaaGreatDoorTieD
import Derived.Test.YtgmljeeeomjooaaGreatDoorTieE
namespace Go.Proofs.YtgmljeeeomjooaaGreatDoor
open Go Go.Ev
theorem noOwnUns : Tryz.pinned.checked.prog.headLifts.contains "ownunsafe" = false := by kernel_rfl
theorem tieWhole : Tryz.prog.laidByTextLater laidList [.data, .data, .data, .sentinel, .sentinel] true :=
  Program.laidByTextLater_of_run 615 400 8 tieW tieW2 tieRoot tieK tieG tieN tieD tieE tieF
/-- The condition of the rows, where the door's run has left its heap. -/
theorem door_met (os : Os) (args : Array Value) : laidMetH Tryz.prog laidList ((doorAt Tryz.prog 400 615 os).forCall (fun _ _ => 0) ⟨#[], args, []⟩).memory := by
  rw [MakeChecks.laidMetH_plain _ _ _ (by kernel_rfl)]
  have h := laidMet_of_run' 8 (tieE os (fun _ _ => 0)) (tieF os (fun _ _ => 0))
  exact h.of_heap (by kernel_rfl)
end Go.Proofs.YtgmljeeeomjooaaGreatDoor
