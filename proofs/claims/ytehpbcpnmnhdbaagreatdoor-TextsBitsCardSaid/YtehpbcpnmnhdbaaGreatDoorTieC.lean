/-
  The tie: one of its facts.
-/
import Derived.Test.YtehpbcpnmnhdbaaGreatDoorTieA
namespace Go.Proofs.YtehpbcpnmnhdbaaGreatDoor
open Go Go.Ev
theorem tieD : ∀ os tape, varsDone Tryz.prog 400 545 os tape = true := fun _ _ => by kernel_rfl
end Go.Proofs.YtehpbcpnmnhdbaaGreatDoor
