/-
  TransNone: closed facts of the row and of the card.
-/
import Derived.Test.YtdckhbgmlojfkaaGreatDoorCards
import Derived.KernelRfl
namespace Go.Proofs.YtdckhbgmlojfkaaGreatDoor.transNone
open Go
theorem laidRows : ((List.range Tryz.prog.types.size).all (rowFine Tryz.prog)) = true := by kernel_rfl
end Go.Proofs.YtdckhbgmlojfkaaGreatDoor.transNone
