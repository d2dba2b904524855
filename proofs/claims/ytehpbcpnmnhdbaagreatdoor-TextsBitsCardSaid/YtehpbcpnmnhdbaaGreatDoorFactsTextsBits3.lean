/-
  TextsBits: closed facts of the row and of the card.
-/
import Derived.Test.YtehpbcpnmnhdbaaGreatDoorCards
import Derived.Test.YtehpbcpnmnhdbaaGreatDoorEvD
import Derived.Test.YtehpbcpnmnhdbaaGreatDoorEvF
namespace Go.Proofs.YtehpbcpnmnhdbaaGreatDoor.textsBits
open Go Go.Ev
theorem jf4 : (Tryz.f3.params.all (Tryz.prog.readableRec ·)) = true := by kernel_rfl
theorem jf8 : ((Rows.textsBitsRow.knobs == [])) = true := by kernel_rfl
theorem jf12 : ((Rows.textsBitsRow.recurses == Tryz.prog.recurses 3)) = true := by kernel_rfl
theorem jf16 : ((Rows.textsBitsRow.mapsOut == Tryz.prog.mapsAmong Tryz.f3.resultTypes.toList)) = true := by kernel_rfl
theorem jf20 : (Tryz.f3.resultTypes.all (fun t => Tryz.prog.readableRec t && decide (t < Tryz.prog.types.size))) = true := by kernel_rfl
theorem jf24 : (Rows.textsBitsRow.shortTexts.isNone) = true := by kernel_rfl
theorem jf28 : ((Tryz.prog.make == some Rows.textsBitsRow.make)) = true := by kernel_rfl
theorem jf32 : (Rows.textsBitsRow.veiledFits Tryz.prog Tryz.f3.params.toList (Tryz.f3.params.toList ++ (OpenSpec.ofChange Rows.textsBitsSpec).bare.plain.varTypes Tryz.prog ++ Tryz.f3.resultTypes.toList)) = true := by kernel_rfl
theorem noInit : Tryz.prog.inits.idxOf? 3 = none := by kernel_rfl
end Go.Proofs.YtehpbcpnmnhdbaaGreatDoor.textsBits
