/-
  TransNone: closed facts of the row and of the card.
-/
import Derived.Test.YtdckhbgmlojfkaaGreatDoorCards
import Derived.Test.YtdckhbgmlojfkaaGreatDoorEvD
import Derived.Test.YtdckhbgmlojfkaaGreatDoorEvF
namespace Go.Proofs.YtdckhbgmlojfkaaGreatDoor.transNone
open Go Go.Ev
theorem jf3 : (mapsRowed Tryz.prog) = true := by kernel_rfl
theorem jf7 : ((Tryz.prog.stops == [])) = true := by kernel_rfl
theorem jf12 : ((Rows.transNoneRow.recurses == Tryz.prog.recurses 3)) = true := by kernel_rfl
theorem jf18 : ((Rows.transNoneRow.wideKeys == (Tryz.f3.params.toList ++ (OpenSpec.ofChange Rows.transNoneSpec).bare.plain.varTypes Tryz.prog ++ Tryz.f3.resultTypes.toList).any (Tryz.prog.wideKeysFrom ·))) = true := by kernel_rfl
theorem jf22 : ((Rows.transNoneRow.loopsOut == Tryz.f3.resultTypes.toList.any (Tryz.prog.loopsFrom ·))) = true := by kernel_rfl
theorem jf26 : (Tryz.prog.mayEnter) = true := by kernel_rfl
theorem jf30 : ((Rows.transNoneRow.pinned == Rows.transNoneRow.pinnedBy)) = true := by kernel_rfl
theorem noGo : Tryz.prog.funcs.toList.any goesB = false := by kernel_rfl
theorem noStandIn0 : Tryz.prog.wantsStandIn 25 = false := by kernel_rfl
end Go.Proofs.YtdckhbgmlojfkaaGreatDoor.transNone
