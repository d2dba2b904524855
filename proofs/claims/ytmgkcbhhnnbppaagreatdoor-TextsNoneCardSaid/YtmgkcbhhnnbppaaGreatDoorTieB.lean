/-
  The tie: one of its facts.
-/
import Derived.Test.YtmgkcbhhnnbppaaGreatDoorTieA
namespace Go.Proofs.YtmgkcbhhnnbppaaGreatDoor
open Go Go.Ev
theorem tieN : varsNamedLaterB Tryz.prog 549 laidList = true := by kernel_rfl
end Go.Proofs.YtmgkcbhhnnbppaaGreatDoor
