/-
  The tie: one of its facts.
-/
import Derived.Test.YtjjgdnelkkmdcaaGreatDoorTieA
namespace Go.Proofs.YtjjgdnelkkmdcaaGreatDoor
open Go Go.Ev
theorem tieN : varsNamedLaterB Tryz.prog 576 laidList = true := by kernel_rfl
end Go.Proofs.YtjjgdnelkkmdcaaGreatDoor
