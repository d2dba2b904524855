/-
  TransNone: closed facts of the row and of the card.
-/
import Derived.Test.YtdckhbgmlojfkaaGreatDoorFactsTransNoneC
namespace Go.Proofs.YtdckhbgmlojfkaaGreatDoor.transNone
open Go
set_option maxRecDepth 100000
theorem jf10 : ((Rows.transNoneRow.inPlace == Tryz.prog.inPlace 3)) = true := by
  unfold Program.inPlace
  rw [clo]
  kernel_rfl
end Go.Proofs.YtdckhbgmlojfkaaGreatDoor.transNone
