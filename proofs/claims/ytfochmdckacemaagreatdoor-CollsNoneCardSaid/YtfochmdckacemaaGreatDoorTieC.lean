/-
  The tie: one of its facts.
-/
import Derived.Test.YtfochmdckacemaaGreatDoorTieA
namespace Go.Proofs.YtfochmdckacemaaGreatDoor
open Go Go.Ev
theorem tieD : ∀ os tape, varsDone Tryz.prog 400 620 os tape = true := fun _ _ => by kernel_rfl
end Go.Proofs.YtfochmdckacemaaGreatDoor
