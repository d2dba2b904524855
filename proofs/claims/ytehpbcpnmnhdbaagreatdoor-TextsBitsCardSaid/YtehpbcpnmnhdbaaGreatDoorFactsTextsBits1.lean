/-
  TextsBits: closed facts of the row and of the card.
-/
import Derived.Test.YtehpbcpnmnhdbaaGreatDoorCards
import Derived.Test.YtehpbcpnmnhdbaaGreatDoorEvD
import Derived.Test.YtehpbcpnmnhdbaaGreatDoorEvF
namespace Go.Proofs.YtehpbcpnmnhdbaaGreatDoor.textsBits
open Go Go.Ev
theorem jf2 : (laidOutB Tryz.prog) = true := by kernel_rfl
theorem jf6 : ((Rows.textsBitsRow.stops == [])) = true := by kernel_rfl
theorem jf10 : ((Rows.textsBitsRow.inPlace == Tryz.prog.inPlace 3)) = true := by kernel_rfl
theorem jf14 : ((Rows.textsBitsRow.maps == (Tryz.f3.params.toList ++ (OpenSpec.ofChange Rows.textsBitsSpec).bare.plain.varTypes Tryz.prog).any (Tryz.prog.mapsRec ·))) = true := by kernel_rfl
theorem jf18 : ((Rows.textsBitsRow.wideKeys == (Tryz.f3.params.toList ++ (OpenSpec.ofChange Rows.textsBitsSpec).bare.plain.varTypes Tryz.prog ++ Tryz.f3.resultTypes.toList).any (Tryz.prog.wideKeysFrom ·))) = true := by kernel_rfl
theorem jf22 : ((Rows.textsBitsRow.loopsOut == Tryz.f3.resultTypes.toList.any (Tryz.prog.loopsFrom ·))) = true := by kernel_rfl
theorem jf26 : (Tryz.prog.mayEnter) = true := by kernel_rfl
theorem jf30 : ((Rows.textsBitsRow.pinned == Rows.textsBitsRow.pinnedBy)) = true := by kernel_rfl
theorem noGo : Tryz.prog.funcs.toList.any goesB = false := by kernel_rfl
theorem noStandIn0 : Tryz.prog.wantsStandIn 24 = false := by kernel_rfl
end Go.Proofs.YtehpbcpnmnhdbaaGreatDoor.textsBits
