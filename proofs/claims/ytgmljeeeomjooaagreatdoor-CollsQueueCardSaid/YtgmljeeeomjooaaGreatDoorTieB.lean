/-
  The tie: one of its facts.
-/
import Derived.Test.YtgmljeeeomjooaaGreatDoorTieA
namespace Go.Proofs.YtgmljeeeomjooaaGreatDoor
open Go Go.Ev
theorem tieN : varsNamedLaterB Tryz.prog 615 laidList = true := by kernel_rfl
end Go.Proofs.YtgmljeeeomjooaaGreatDoor
