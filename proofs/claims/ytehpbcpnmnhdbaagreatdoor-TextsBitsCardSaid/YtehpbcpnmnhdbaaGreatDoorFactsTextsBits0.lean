/-
  TextsBits: closed facts of the row and of the card.
-/
import Derived.Test.YtehpbcpnmnhdbaaGreatDoorCards
import Derived.Test.YtehpbcpnmnhdbaaGreatDoorEvD
import Derived.Test.YtehpbcpnmnhdbaaGreatDoorEvF
namespace Go.Proofs.YtehpbcpnmnhdbaaGreatDoor.textsBits
open Go Go.Ev
theorem jf1 : (Rows.textsBitsRow.wf (OpenSpec.ofChange (OpenSpec.ofChange Rows.textsBitsSpec).bare)) = true := by kernel_rfl
theorem jf5 : (namedTie Tryz.prog Rows.textsBitsRow.named (OpenSpec.ofChange Rows.textsBitsSpec).bare.vars) = true := by kernel_rfl
theorem jf9 : ((Tryz.prog.stopKnobs == [])) = true := by kernel_rfl
theorem jf13 : ((Rows.textsBitsRow.named == Tryz.prog.varsNamed 3)) = true := by kernel_rfl
theorem jf17 : ((Rows.textsBitsRow.loops == (Tryz.f3.params.toList ++ (OpenSpec.ofChange Rows.textsBitsSpec).bare.plain.varTypes Tryz.prog).any (Tryz.prog.loopsFrom ·))) = true := by kernel_rfl
theorem jf21 : ((Rows.textsBitsRow.ifacesOut == Tryz.f3.resultTypes.toList.any (Tryz.prog.ifacesRec ·))) = true := by kernel_rfl
theorem jf25 : (Tryz.prog.stopsHeard) = true := by kernel_rfl
theorem jf29 : (jfKinds Tryz.prog Tryz.f3 Rows.textsBitsRow) = true := by kernel_rfl
theorem wfb : Rows.textsBitsRow.wfByText (OpenSpec.ofChange Rows.textsBitsSpec) = true := by kernel_rfl
theorem looked : true = Tryz.prog.looks [] := by kernel_rfl
end Go.Proofs.YtehpbcpnmnhdbaaGreatDoor.textsBits
