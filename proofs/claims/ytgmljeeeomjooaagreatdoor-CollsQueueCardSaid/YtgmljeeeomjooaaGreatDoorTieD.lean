/-
  The tie: one of its facts.
-/
import Derived.Test.YtgmljeeeomjooaaGreatDoorTieA
namespace Go.Proofs.YtgmljeeeomjooaaGreatDoor
open Go Go.Ev
theorem tieE : ∀ os tape, (DataW.laidRun Tryz.prog (varsWorld Tryz.prog 400 615 os tape).memory 8 (laidList.map (·.1))).map (·.1) = some laidList := fun _ _ => by kernel_rfl
end Go.Proofs.YtgmljeeeomjooaaGreatDoor
