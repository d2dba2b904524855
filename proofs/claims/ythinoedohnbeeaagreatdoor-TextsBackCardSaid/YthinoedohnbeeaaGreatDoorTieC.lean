/-
  The tie: one of its facts.
-/
import Derived.Test.YthinoedohnbeeaaGreatDoorTieA
namespace Go.Proofs.YthinoedohnbeeaaGreatDoor
open Go Go.Ev
theorem tieD : ∀ os tape, varsDone Tryz.prog 400 543 os tape = true := fun _ _ => by kernel_rfl
end Go.Proofs.YthinoedohnbeeaaGreatDoor
