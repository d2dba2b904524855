/-
  CollsQueue: closed facts of the row and of the card.
-/
import Derived.Test.YtgmljeeeomjooaaGreatDoorCards
import Derived.Test.YtgmljeeeomjooaaGreatDoorEvD
import Derived.Test.YtgmljeeeomjooaaGreatDoorEvF
namespace Go.Proofs.YtgmljeeeomjooaaGreatDoor.collsQueue
open Go Go.Ev
theorem jf2 : (laidOutB Tryz.prog) = true := by kernel_rfl
theorem jf6 : ((Rows.collsQueueRow.stops == [])) = true := by kernel_rfl
theorem jf10 : ((Rows.collsQueueRow.inPlace == Tryz.prog.inPlace 3)) = true := by kernel_rfl
theorem jf14 : ((Rows.collsQueueRow.maps == (Tryz.f3.params.toList ++ (OpenSpec.ofChange Rows.collsQueueSpec).bare.plain.varTypes Tryz.prog).any (Tryz.prog.mapsRec ·))) = true := by kernel_rfl
theorem jf18 : ((Rows.collsQueueRow.wideKeys == (Tryz.f3.params.toList ++ (OpenSpec.ofChange Rows.collsQueueSpec).bare.plain.varTypes Tryz.prog ++ Tryz.f3.resultTypes.toList).any (Tryz.prog.wideKeysFrom ·))) = true := by kernel_rfl
theorem jf22 : ((Rows.collsQueueRow.loopsOut == Tryz.f3.resultTypes.toList.any (Tryz.prog.loopsFrom ·))) = true := by kernel_rfl
theorem jf26 : (Tryz.prog.mayEnter) = true := by kernel_rfl
theorem jf30 : ((Rows.collsQueueRow.pinned == Rows.collsQueueRow.pinnedBy)) = true := by kernel_rfl
theorem noGo : Tryz.prog.funcs.toList.any goesB = false := by kernel_rfl
theorem noStandIn0 : Tryz.prog.wantsStandIn 22 = false := by kernel_rfl
end Go.Proofs.YtgmljeeeomjooaaGreatDoor.collsQueue
