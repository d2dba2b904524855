/-
  The tie: one of its facts.
-/
import Derived.Test.YtdckhbgmlojfkaaGreatDoorTieA
namespace Go.Proofs.YtdckhbgmlojfkaaGreatDoor
open Go Go.Ev
theorem tieD : ∀ os tape, varsDone Tryz.prog 400 742 os tape = true := fun _ _ => by kernel_rfl
end Go.Proofs.YtdckhbgmlojfkaaGreatDoor
