/-
  The tie: one of its facts.
-/
import Derived.Test.YtfochmdckacemaaGreatDoorTieA
namespace Go.Proofs.YtfochmdckacemaaGreatDoor
open Go Go.Ev
theorem tieN : varsNamedLaterB Tryz.prog 620 laidList = true := by kernel_rfl
end Go.Proofs.YtfochmdckacemaaGreatDoor
