/-
  TextsNone: closed facts of the row and of the card.
-/
import Derived.Test.YtmgkcbhhnnbppaaGreatDoorCards
import Derived.Test.YtmgkcbhhnnbppaaGreatDoorEvLaw
import Derived.Test.YtmgkcbhhnnbppaaGreatDoorEvTie
namespace Go.Proofs.YtmgkcbhhnnbppaaGreatDoor.textsNone
open Go Go.Ev
theorem jf1 : (Rows.textsNoneRow.wf (OpenSpec.ofChange (OpenSpec.ofChange Rows.textsNoneSpec).bare)) = true := by kernel_rfl
theorem jf5 : (namedTie Tryz.prog Rows.textsNoneRow.named (OpenSpec.ofChange Rows.textsNoneSpec).bare.vars) = true := by kernel_rfl
theorem jf9 : ((Tryz.prog.stopKnobs == [])) = true := by kernel_rfl
theorem jf13 : ((Rows.textsNoneRow.named == Tryz.prog.varsNamed 3)) = true := by kernel_rfl
theorem jf17 : ((Rows.textsNoneRow.loops == (Tryz.f3.params.toList ++ (OpenSpec.ofChange Rows.textsNoneSpec).bare.plain.varTypes Tryz.prog).any (Tryz.prog.loopsFrom ·))) = true := by kernel_rfl
theorem jf21 : ((Rows.textsNoneRow.ifacesOut == Tryz.f3.resultTypes.toList.any (Tryz.prog.ifacesRec ·))) = true := by kernel_rfl
theorem jf25 : (Tryz.prog.stopsHeard) = true := by kernel_rfl
theorem jf29 : (jfKinds Tryz.prog Tryz.f3 Rows.textsNoneRow) = true := by kernel_rfl
theorem wfb : Rows.textsNoneRow.wfByText (OpenSpec.ofChange Rows.textsNoneSpec) = true := by kernel_rfl
theorem looked : true = Tryz.prog.looks [] := by kernel_rfl
end Go.Proofs.YtmgkcbhhnnbppaaGreatDoor.textsNone
