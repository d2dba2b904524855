/-
  SpaceNone: closed facts of the row and of the card.
-/
import Derived.Test.YtagpkkofjehcnaaGreatDoorCards
import Derived.Test.YtagpkkofjehcnaaGreatDoorEvD
import Derived.Test.YtagpkkofjehcnaaGreatDoorEvF
namespace Go.Proofs.YtagpkkofjehcnaaGreatDoor.spaceNone
open Go Go.Ev
theorem jf2 : (laidOutB Tryz.prog) = true := by kernel_rfl
theorem jf6 : ((Rows.spaceNoneRow.stops == [])) = true := by kernel_rfl
theorem jf10 : ((Rows.spaceNoneRow.inPlace == Tryz.prog.inPlace 3)) = true := by kernel_rfl
theorem jf14 : ((Rows.spaceNoneRow.maps == (Tryz.f3.params.toList ++ (OpenSpec.ofChange Rows.spaceNoneSpec).bare.plain.varTypes Tryz.prog).any (Tryz.prog.mapsRec ·))) = true := by kernel_rfl
theorem jf18 : ((Rows.spaceNoneRow.wideKeys == (Tryz.f3.params.toList ++ (OpenSpec.ofChange Rows.spaceNoneSpec).bare.plain.varTypes Tryz.prog ++ Tryz.f3.resultTypes.toList).any (Tryz.prog.wideKeysFrom ·))) = true := by kernel_rfl
theorem jf22 : ((Rows.spaceNoneRow.loopsOut == Tryz.f3.resultTypes.toList.any (Tryz.prog.loopsFrom ·))) = true := by kernel_rfl
theorem jf26 : (Tryz.prog.mayEnter) = true := by kernel_rfl
theorem jf30 : ((Rows.spaceNoneRow.pinned == Rows.spaceNoneRow.pinnedBy)) = true := by kernel_rfl
theorem noGo : Tryz.prog.funcs.toList.any goesB = false := by kernel_rfl
theorem noStandIn0 : Tryz.prog.wantsStandIn 22 = false := by kernel_rfl
end Go.Proofs.YtagpkkofjehcnaaGreatDoor.spaceNone
