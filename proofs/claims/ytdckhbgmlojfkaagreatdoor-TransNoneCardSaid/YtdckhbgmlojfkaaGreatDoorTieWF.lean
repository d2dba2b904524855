/-
  The start that lays all listed variables: one of its facts.
-/
import Derived.Test.YtdckhbgmlojfkaaGreatDoorTieW
import Derived.Lay
namespace Go.Proofs.YtdckhbgmlojfkaaGreatDoor
open Go Go.Ev
theorem layI (os : Os) : (World.holding Tryz.prog os ⟨#[], #[], []⟩).layIfaces Tryz.prog laidAll (World.laidAll Tryz.prog os laidAll) = true := by kernel_rfl
end Go.Proofs.YtdckhbgmlojfkaaGreatDoor
