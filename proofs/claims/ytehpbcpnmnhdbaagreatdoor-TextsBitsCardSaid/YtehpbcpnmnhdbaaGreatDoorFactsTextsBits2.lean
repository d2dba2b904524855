/-
  TextsBits: closed facts of the row and of the card.
-/
import Derived.Test.YtehpbcpnmnhdbaaGreatDoorCards
import Derived.Test.YtehpbcpnmnhdbaaGreatDoorEvD
import Derived.Test.YtehpbcpnmnhdbaaGreatDoorEvF
namespace Go.Proofs.YtehpbcpnmnhdbaaGreatDoor.textsBits
open Go Go.Ev
theorem jf3 : (mapsRowed Tryz.prog) = true := by kernel_rfl
theorem jf7 : ((Tryz.prog.stops == [])) = true := by kernel_rfl
theorem jf11 : ((Rows.textsBitsRow.unfollowed == Tryz.prog.unfollowed 3)) = true := by kernel_rfl
theorem jf15 : ((Rows.textsBitsRow.ifaces == (Tryz.f3.params.toList ++ (OpenSpec.ofChange Rows.textsBitsSpec).bare.plain.varTypes Tryz.prog).any (Tryz.prog.ifacesRec ·))) = true := by kernel_rfl
theorem jf19 : ((OpenSpec.ofChange Rows.textsBitsSpec).bare.vars.all (Tryz.prog.varReadable ·)) = true := by kernel_rfl
theorem jf23 : ((Rows.textsBitsRow.plainKeys == Tryz.prog.plainKeys)) = true := by kernel_rfl
theorem jf27 : ((Rows.textsBitsRow.lifted == Tryz.prog.liftsFinal)) = true := by kernel_rfl
theorem jf31 : ((Rows.textsBitsRow.veiled == (Tryz.f3.params.toList ++ (OpenSpec.ofChange Rows.textsBitsSpec).bare.plain.varTypes Tryz.prog ++ Tryz.f3.resultTypes.toList).any (Tryz.prog.veiledRec ·))) = true := by kernel_rfl
theorem mainIs : Tryz.prog.mainIs = some (Rows.textsBitsCard.stood.harness.1, Rows.textsBitsCard.stood.harness.2.toList) := by kernel_rfl
end Go.Proofs.YtehpbcpnmnhdbaaGreatDoor.textsBits
