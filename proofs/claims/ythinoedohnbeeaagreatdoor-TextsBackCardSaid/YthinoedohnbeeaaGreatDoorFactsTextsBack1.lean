/-
  TextsBack: closed facts of the row and of the card.
-/
import Derived.Test.YthinoedohnbeeaaGreatDoorCards
import Derived.Test.YthinoedohnbeeaaGreatDoorEvD
import Derived.Test.YthinoedohnbeeaaGreatDoorEvF
namespace Go.Proofs.YthinoedohnbeeaaGreatDoor.textsBack
open Go Go.Ev
theorem jf2 : (laidOutB Tryz.prog) = true := by kernel_rfl
theorem jf6 : ((Rows.textsBackRow.stops == [])) = true := by kernel_rfl
theorem jf10 : ((Rows.textsBackRow.inPlace == Tryz.prog.inPlace 3)) = true := by kernel_rfl
theorem jf14 : ((Rows.textsBackRow.maps == (Tryz.f3.params.toList ++ (OpenSpec.ofChange Rows.textsBackSpec).bare.plain.varTypes Tryz.prog).any (Tryz.prog.mapsRec ·))) = true := by kernel_rfl
theorem jf18 : ((Rows.textsBackRow.wideKeys == (Tryz.f3.params.toList ++ (OpenSpec.ofChange Rows.textsBackSpec).bare.plain.varTypes Tryz.prog ++ Tryz.f3.resultTypes.toList).any (Tryz.prog.wideKeysFrom ·))) = true := by kernel_rfl
theorem jf22 : ((Rows.textsBackRow.loopsOut == Tryz.f3.resultTypes.toList.any (Tryz.prog.loopsFrom ·))) = true := by kernel_rfl
theorem jf26 : (Tryz.prog.mayEnter) = true := by kernel_rfl
theorem jf30 : ((Rows.textsBackRow.pinned == Rows.textsBackRow.pinnedBy)) = true := by kernel_rfl
theorem noGo : Tryz.prog.funcs.toList.any goesB = false := by kernel_rfl
theorem noStandIn0 : Tryz.prog.wantsStandIn 2 = false := by kernel_rfl
end Go.Proofs.YthinoedohnbeeaaGreatDoor.textsBack
