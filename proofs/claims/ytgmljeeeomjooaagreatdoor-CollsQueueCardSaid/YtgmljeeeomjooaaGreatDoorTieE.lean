/-
  The tie: one of its facts.
-/
import Derived.Test.YtgmljeeeomjooaaGreatDoorTieA
namespace Go.Proofs.YtgmljeeeomjooaaGreatDoor
open Go Go.Ev
theorem tieF : ∀ os tape, (DataW.laidRun Tryz.prog (varsWorld Tryz.prog 400 615 os tape).memory 8 (laidList.map (·.1))).map (fun x => decide x.2.Nodup && laidRowsB Tryz.prog (varsWorld Tryz.prog 400 615 os tape).memory x.2) = some true := fun _ _ => by kernel_rfl
end Go.Proofs.YtgmljeeeomjooaaGreatDoor
