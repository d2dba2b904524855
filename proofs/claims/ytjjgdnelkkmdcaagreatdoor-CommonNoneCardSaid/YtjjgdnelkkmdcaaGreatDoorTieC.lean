/-
  The tie: one of its facts.
-/
import Derived.Test.YtjjgdnelkkmdcaaGreatDoorTieA
namespace Go.Proofs.YtjjgdnelkkmdcaaGreatDoor
open Go Go.Ev
theorem tieD : ∀ os tape, varsDone Tryz.prog 400 576 os tape = true := fun _ _ => by kernel_rfl
end Go.Proofs.YtjjgdnelkkmdcaaGreatDoor
