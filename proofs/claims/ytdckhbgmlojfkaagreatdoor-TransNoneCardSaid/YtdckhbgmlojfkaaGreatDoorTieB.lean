/-
  The tie: one of its facts.
-/
import Derived.Test.YtdckhbgmlojfkaaGreatDoorTieA
namespace Go.Proofs.YtdckhbgmlojfkaaGreatDoor
open Go Go.Ev
theorem tieN : varsNamedLaterB Tryz.prog 742 laidList = true := by kernel_rfl
end Go.Proofs.YtdckhbgmlojfkaaGreatDoor
