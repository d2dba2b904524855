/-
  CommonNone: closed facts of the row and of the card.
-/
import Derived.Test.YtjjgdnelkkmdcaaGreatDoorCards
import Derived.Test.YtjjgdnelkkmdcaaGreatDoorEvLaw
import Derived.Test.YtjjgdnelkkmdcaaGreatDoorEvTie
namespace Go.Proofs.YtjjgdnelkkmdcaaGreatDoor.commonNone
open Go Go.Ev
theorem jf2 : (laidOutB Tryz.prog) = true := by kernel_rfl
theorem jf6 : ((Rows.commonNoneRow.stops == [])) = true := by kernel_rfl
theorem jf10 : ((Rows.commonNoneRow.inPlace == Tryz.prog.inPlace 3)) = true := by kernel_rfl
theorem jf14 : ((Rows.commonNoneRow.maps == (Tryz.f3.params.toList ++ (OpenSpec.ofChange Rows.commonNoneSpec).bare.plain.varTypes Tryz.prog).any (Tryz.prog.mapsRec ·))) = true := by kernel_rfl
theorem jf18 : ((Rows.commonNoneRow.wideKeys == (Tryz.f3.params.toList ++ (OpenSpec.ofChange Rows.commonNoneSpec).bare.plain.varTypes Tryz.prog ++ Tryz.f3.resultTypes.toList).any (Tryz.prog.wideKeysFrom ·))) = true := by kernel_rfl
theorem jf22 : ((Rows.commonNoneRow.loopsOut == Tryz.f3.resultTypes.toList.any (Tryz.prog.loopsFrom ·))) = true := by kernel_rfl
theorem jf26 : (Tryz.prog.mayEnter) = true := by kernel_rfl
theorem jf30 : ((Rows.commonNoneRow.pinned == Rows.commonNoneRow.pinnedBy)) = true := by kernel_rfl
theorem noGo : Tryz.prog.funcs.toList.any goesB = false := by kernel_rfl
theorem noStandIn0 : Tryz.prog.wantsStandIn 28 = false := by kernel_rfl
end Go.Proofs.YtjjgdnelkkmdcaaGreatDoor.commonNone
