/-
  CollsQueue: closed facts of the row and of the card.
-/
import Derived.Test.YtgmljeeeomjooaaGreatDoorCards
import Derived.Test.YtgmljeeeomjooaaGreatDoorEvD
import Derived.Test.YtgmljeeeomjooaaGreatDoorEvF
namespace Go.Proofs.YtgmljeeeomjooaaGreatDoor.collsQueue
open Go Go.Ev
theorem jf1 : (Rows.collsQueueRow.wf (OpenSpec.ofChange (OpenSpec.ofChange Rows.collsQueueSpec).bare)) = true := by kernel_rfl
theorem jf5 : (namedTie Tryz.prog Rows.collsQueueRow.named (OpenSpec.ofChange Rows.collsQueueSpec).bare.vars) = true := by kernel_rfl
theorem jf9 : ((Tryz.prog.stopKnobs == [])) = true := by kernel_rfl
theorem jf13 : ((Rows.collsQueueRow.named == Tryz.prog.varsNamed 3)) = true := by kernel_rfl
theorem jf17 : ((Rows.collsQueueRow.loops == (Tryz.f3.params.toList ++ (OpenSpec.ofChange Rows.collsQueueSpec).bare.plain.varTypes Tryz.prog).any (Tryz.prog.loopsFrom ·))) = true := by kernel_rfl
theorem jf21 : ((Rows.collsQueueRow.ifacesOut == Tryz.f3.resultTypes.toList.any (Tryz.prog.ifacesRec ·))) = true := by kernel_rfl
theorem jf25 : (Tryz.prog.stopsHeard) = true := by kernel_rfl
theorem jf29 : (jfKinds Tryz.prog Tryz.f3 Rows.collsQueueRow) = true := by kernel_rfl
theorem wfb : Rows.collsQueueRow.wfByText (OpenSpec.ofChange Rows.collsQueueSpec) = true := by kernel_rfl
theorem looked : true = Tryz.prog.looks [] := by kernel_rfl
end Go.Proofs.YtgmljeeeomjooaaGreatDoor.collsQueue
