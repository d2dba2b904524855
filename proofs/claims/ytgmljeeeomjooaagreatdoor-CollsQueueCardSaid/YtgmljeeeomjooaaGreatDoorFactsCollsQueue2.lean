/-
  CollsQueue: closed facts of the row and of the card.
-/
import Derived.Test.YtgmljeeeomjooaaGreatDoorCards
import Derived.Test.YtgmljeeeomjooaaGreatDoorEvD
import Derived.Test.YtgmljeeeomjooaaGreatDoorEvF
namespace Go.Proofs.YtgmljeeeomjooaaGreatDoor.collsQueue
open Go Go.Ev
theorem jf3 : (mapsRowed Tryz.prog) = true := by kernel_rfl
theorem jf7 : ((Tryz.prog.stops == [])) = true := by kernel_rfl
theorem jf11 : ((Rows.collsQueueRow.unfollowed == Tryz.prog.unfollowed 3)) = true := by kernel_rfl
theorem jf15 : ((Rows.collsQueueRow.ifaces == (Tryz.f3.params.toList ++ (OpenSpec.ofChange Rows.collsQueueSpec).bare.plain.varTypes Tryz.prog).any (Tryz.prog.ifacesRec ·))) = true := by kernel_rfl
theorem jf19 : ((OpenSpec.ofChange Rows.collsQueueSpec).bare.vars.all (Tryz.prog.varReadable ·)) = true := by kernel_rfl
theorem jf23 : ((Rows.collsQueueRow.plainKeys == Tryz.prog.plainKeys)) = true := by kernel_rfl
theorem jf27 : ((Rows.collsQueueRow.lifted == Tryz.prog.liftsFinal)) = true := by kernel_rfl
theorem jf31 : ((Rows.collsQueueRow.veiled == (Tryz.f3.params.toList ++ (OpenSpec.ofChange Rows.collsQueueSpec).bare.plain.varTypes Tryz.prog ++ Tryz.f3.resultTypes.toList).any (Tryz.prog.veiledRec ·))) = true := by kernel_rfl
theorem mainIs : Tryz.prog.mainIs = some (Rows.collsQueueCard.stood.harness.1, Rows.collsQueueCard.stood.harness.2.toList) := by kernel_rfl
theorem noStandIn1 : Tryz.prog.wantsStandIn 4 = false := by kernel_rfl
end Go.Proofs.YtgmljeeeomjooaaGreatDoor.collsQueue
