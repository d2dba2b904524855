/-
  CollsNone: closed facts of the row and of the card.
-/
import Derived.Test.YtfochmdckacemaaGreatDoorCards
import Derived.Test.YtfochmdckacemaaGreatDoorEvD
import Derived.Test.YtfochmdckacemaaGreatDoorEvF
namespace Go.Proofs.YtfochmdckacemaaGreatDoor.collsNone
open Go Go.Ev
theorem jf2 : (laidOutB Tryz.prog) = true := by kernel_rfl
theorem jf6 : ((Rows.collsNoneRow.stops == [])) = true := by kernel_rfl
theorem jf10 : ((Rows.collsNoneRow.inPlace == Tryz.prog.inPlace 3)) = true := by kernel_rfl
theorem jf14 : ((Rows.collsNoneRow.maps == (Tryz.f3.params.toList ++ (OpenSpec.ofChange Rows.collsNoneSpec).bare.plain.varTypes Tryz.prog).any (Tryz.prog.mapsRec ·))) = true := by kernel_rfl
theorem jf18 : ((Rows.collsNoneRow.wideKeys == (Tryz.f3.params.toList ++ (OpenSpec.ofChange Rows.collsNoneSpec).bare.plain.varTypes Tryz.prog ++ Tryz.f3.resultTypes.toList).any (Tryz.prog.wideKeysFrom ·))) = true := by kernel_rfl
theorem jf22 : ((Rows.collsNoneRow.loopsOut == Tryz.f3.resultTypes.toList.any (Tryz.prog.loopsFrom ·))) = true := by kernel_rfl
theorem jf26 : (Tryz.prog.mayEnter) = true := by kernel_rfl
theorem jf30 : ((Rows.collsNoneRow.pinned == Rows.collsNoneRow.pinnedBy)) = true := by kernel_rfl
theorem noGo : Tryz.prog.funcs.toList.any goesB = false := by kernel_rfl
theorem noStandIn0 : Tryz.prog.wantsStandIn 28 = false := by kernel_rfl
end Go.Proofs.YtfochmdckacemaaGreatDoor.collsNone
