/-
  The tie: one of its facts.
-/
import Derived.Test.YthinoedohnbeeaaGreatDoorTieA
namespace Go.Proofs.YthinoedohnbeeaaGreatDoor
open Go Go.Ev
theorem tieN : varsNamedLaterB Tryz.prog 543 laidList = true := by kernel_rfl
end Go.Proofs.YthinoedohnbeeaaGreatDoor
