/-
  CollsQueue: the closed facts of the row and of the card.
-/
import Derived.Test.YtgmljeeeomjooaaGreatDoorFactsCollsQueue0
import Derived.Test.YtgmljeeeomjooaaGreatDoorFactsCollsQueue1
import Derived.Test.YtgmljeeeomjooaaGreatDoorFactsCollsQueue2
import Derived.Test.YtgmljeeeomjooaaGreatDoorFactsCollsQueue3
namespace Go.Proofs.YtgmljeeeomjooaaGreatDoor.collsQueue
open Go Go.Ev
theorem named : Tryz.prog.funcNamed "stillroom/stillroomlaw21.CollsQueue" = some 3 := funcNamed_bytes (by kernel_rfl)
theorem goesBy : false = Rows.collsQueueRow.goesBy Tryz.prog := goesBy_of rfl noGo
set_option maxRecDepth 100000 in
theorem facts : joinedFacts Tryz.prog 3 Tryz.f3 (OpenSpec.ofChange Rows.collsQueueSpec).bare Rows.collsQueueRow = true :=
  haveI : Gho := ⟨fun _ _ _ => True⟩; joinedFacts_of jf1 jf2 jf3 jf4 jf5 jf6 jf7 jf8 jf9 jf10 jf11 jf12 jf13 jf14 jf15 jf16 jf17 jf18 jf19 jf20 jf21 jf22 jf23 jf24 jf25 jf26 jf27 jf28 jf29 jf30 jf31 jf32
end Go.Proofs.YtgmljeeeomjooaaGreatDoor.collsQueue
