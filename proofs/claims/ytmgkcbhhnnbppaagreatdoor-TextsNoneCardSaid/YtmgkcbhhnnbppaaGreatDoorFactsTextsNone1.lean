/-
  TextsNone: closed facts of the row and of the card.
-/
import Derived.Test.YtmgkcbhhnnbppaaGreatDoorCards
import Derived.Test.YtmgkcbhhnnbppaaGreatDoorEvLaw
import Derived.Test.YtmgkcbhhnnbppaaGreatDoorEvTie
namespace Go.Proofs.YtmgkcbhhnnbppaaGreatDoor.textsNone
open Go Go.Ev
theorem jf2 : (laidOutB Tryz.prog) = true := by kernel_rfl
theorem jf6 : ((Rows.textsNoneRow.stops == [])) = true := by kernel_rfl
theorem jf10 : ((Rows.textsNoneRow.inPlace == Tryz.prog.inPlace 3)) = true := by kernel_rfl
theorem jf14 : ((Rows.textsNoneRow.maps == (Tryz.f3.params.toList ++ (OpenSpec.ofChange Rows.textsNoneSpec).bare.plain.varTypes Tryz.prog).any (Tryz.prog.mapsRec ·))) = true := by kernel_rfl
theorem jf18 : ((Rows.textsNoneRow.wideKeys == (Tryz.f3.params.toList ++ (OpenSpec.ofChange Rows.textsNoneSpec).bare.plain.varTypes Tryz.prog ++ Tryz.f3.resultTypes.toList).any (Tryz.prog.wideKeysFrom ·))) = true := by kernel_rfl
theorem jf22 : ((Rows.textsNoneRow.loopsOut == Tryz.f3.resultTypes.toList.any (Tryz.prog.loopsFrom ·))) = true := by kernel_rfl
theorem jf26 : (Tryz.prog.mayEnter) = true := by kernel_rfl
theorem jf30 : ((Rows.textsNoneRow.pinned == Rows.textsNoneRow.pinnedBy)) = true := by kernel_rfl
theorem noGo : Tryz.prog.funcs.toList.any goesB = false := by kernel_rfl
theorem noStandIn0 : Tryz.prog.wantsStandIn 28 = false := by kernel_rfl
end Go.Proofs.YtmgkcbhhnnbppaaGreatDoor.textsNone
