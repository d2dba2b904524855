/-
  The tie: one of its facts.
-/
import Derived.Test.YtmgkcbhhnnbppaaGreatDoorTieA
namespace Go.Proofs.YtmgkcbhhnnbppaaGreatDoor
open Go Go.Ev
theorem tieD : ∀ os tape, varsDone Tryz.prog 400 549 os tape = true := fun _ _ => by kernel_rfl
end Go.Proofs.YtmgkcbhhnnbppaaGreatDoor
