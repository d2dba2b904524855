/-
  CollsQueue: closed facts of the row and of the card.
-/
import Derived.Test.YtgmljeeeomjooaaGreatDoorCards
import Derived.Test.YtgmljeeeomjooaaGreatDoorEvD
import Derived.Test.YtgmljeeeomjooaaGreatDoorEvF
namespace Go.Proofs.YtgmljeeeomjooaaGreatDoor.collsQueue
open Go Go.Ev
theorem jf4 : (Tryz.f3.params.all (Tryz.prog.readableRec ·)) = true := by kernel_rfl
theorem jf8 : ((Rows.collsQueueRow.knobs == [])) = true := by kernel_rfl
theorem jf12 : ((Rows.collsQueueRow.recurses == Tryz.prog.recurses 3)) = true := by kernel_rfl
theorem jf16 : ((Rows.collsQueueRow.mapsOut == Tryz.prog.mapsAmong Tryz.f3.resultTypes.toList)) = true := by kernel_rfl
theorem jf20 : (Tryz.f3.resultTypes.all (fun t => Tryz.prog.readableRec t && decide (t < Tryz.prog.types.size))) = true := by kernel_rfl
theorem jf24 : (Rows.collsQueueRow.shortTexts.isNone) = true := by kernel_rfl
theorem jf28 : ((Tryz.prog.make == some Rows.collsQueueRow.make)) = true := by kernel_rfl
theorem jf32 : (Rows.collsQueueRow.veiledFits Tryz.prog Tryz.f3.params.toList (Tryz.f3.params.toList ++ (OpenSpec.ofChange Rows.collsQueueSpec).bare.plain.varTypes Tryz.prog ++ Tryz.f3.resultTypes.toList)) = true := by kernel_rfl
theorem noInit : Tryz.prog.inits.idxOf? 3 = none := by kernel_rfl
end Go.Proofs.YtgmljeeeomjooaaGreatDoor.collsQueue
