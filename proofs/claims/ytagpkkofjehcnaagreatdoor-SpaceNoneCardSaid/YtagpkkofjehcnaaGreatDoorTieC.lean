/-
  The tie: one of its facts.
-/
import Derived.Test.YtagpkkofjehcnaaGreatDoorTieA
namespace Go.Proofs.YtagpkkofjehcnaaGreatDoor
open Go Go.Ev
theorem tieD : ∀ os tape, varsDone Tryz.prog 400 579 os tape = true := fun _ _ => by kernel_rfl
end Go.Proofs.YtagpkkofjehcnaaGreatDoor
