/-
  CommonNone: closed facts of the row and of the card.
-/
import Derived.Test.YtjjgdnelkkmdcaaGreatDoorCards
import Derived.Test.YtjjgdnelkkmdcaaGreatDoorEvLaw
import Derived.Test.YtjjgdnelkkmdcaaGreatDoorEvTie
namespace Go.Proofs.YtjjgdnelkkmdcaaGreatDoor.commonNone
open Go Go.Ev
theorem jf1 : (Rows.commonNoneRow.wf (OpenSpec.ofChange (OpenSpec.ofChange Rows.commonNoneSpec).bare)) = true := by kernel_rfl
theorem jf5 : (namedTie Tryz.prog Rows.commonNoneRow.named (OpenSpec.ofChange Rows.commonNoneSpec).bare.vars) = true := by kernel_rfl
theorem jf9 : ((Tryz.prog.stopKnobs == [])) = true := by kernel_rfl
theorem jf13 : ((Rows.commonNoneRow.named == Tryz.prog.varsNamed 3)) = true := by kernel_rfl
theorem jf17 : ((Rows.commonNoneRow.loops == (Tryz.f3.params.toList ++ (OpenSpec.ofChange Rows.commonNoneSpec).bare.plain.varTypes Tryz.prog).any (Tryz.prog.loopsFrom ·))) = true := by kernel_rfl
theorem jf21 : ((Rows.commonNoneRow.ifacesOut == Tryz.f3.resultTypes.toList.any (Tryz.prog.ifacesRec ·))) = true := by kernel_rfl
theorem jf25 : (Tryz.prog.stopsHeard) = true := by kernel_rfl
theorem jf29 : (jfKinds Tryz.prog Tryz.f3 Rows.commonNoneRow) = true := by kernel_rfl
theorem wfb : Rows.commonNoneRow.wfByText (OpenSpec.ofChange Rows.commonNoneSpec) = true := by kernel_rfl
theorem looked : true = Tryz.prog.looks [] := by kernel_rfl
end Go.Proofs.YtjjgdnelkkmdcaaGreatDoor.commonNone
