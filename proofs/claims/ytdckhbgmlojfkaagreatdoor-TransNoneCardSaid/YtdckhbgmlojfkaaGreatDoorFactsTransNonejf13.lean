/-
  TransNone: closed facts of the row and of the card.
-/
import Derived.Test.YtdckhbgmlojfkaaGreatDoorFactsTransNoneC
namespace Go.Proofs.YtdckhbgmlojfkaaGreatDoor.transNone
open Go
set_option maxRecDepth 100000
theorem jf13 : ((Rows.transNoneRow.named == Tryz.prog.varsNamed 3)) = true := by
  unfold Program.varsNamed
  rw [clo]
  kernel_rfl
end Go.Proofs.YtdckhbgmlojfkaaGreatDoor.transNone
