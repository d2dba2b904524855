/-
  The tie: one of its facts.
-/
import Derived.Test.YtgmljeeeomjooaaGreatDoorTieA
namespace Go.Proofs.YtgmljeeeomjooaaGreatDoor
open Go Go.Ev
theorem tieD : ∀ os tape, varsDone Tryz.prog 400 615 os tape = true := fun _ _ => by kernel_rfl
end Go.Proofs.YtgmljeeeomjooaaGreatDoor
