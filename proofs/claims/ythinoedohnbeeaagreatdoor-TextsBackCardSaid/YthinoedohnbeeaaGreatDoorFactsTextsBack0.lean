/-
  TextsBack: closed facts of the row and of the card.
-/
import Derived.Test.YthinoedohnbeeaaGreatDoorCards
import Derived.Test.YthinoedohnbeeaaGreatDoorEvD
import Derived.Test.YthinoedohnbeeaaGreatDoorEvF
namespace Go.Proofs.YthinoedohnbeeaaGreatDoor.textsBack
open Go Go.Ev
theorem jf1 : (Rows.textsBackRow.wf (OpenSpec.ofChange (OpenSpec.ofChange Rows.textsBackSpec).bare)) = true := by kernel_rfl
theorem jf5 : (namedTie Tryz.prog Rows.textsBackRow.named (OpenSpec.ofChange Rows.textsBackSpec).bare.vars) = true := by kernel_rfl
theorem jf9 : ((Tryz.prog.stopKnobs == [])) = true := by kernel_rfl
theorem jf13 : ((Rows.textsBackRow.named == Tryz.prog.varsNamed 3)) = true := by kernel_rfl
theorem jf17 : ((Rows.textsBackRow.loops == (Tryz.f3.params.toList ++ (OpenSpec.ofChange Rows.textsBackSpec).bare.plain.varTypes Tryz.prog).any (Tryz.prog.loopsFrom ·))) = true := by kernel_rfl
theorem jf21 : ((Rows.textsBackRow.ifacesOut == Tryz.f3.resultTypes.toList.any (Tryz.prog.ifacesRec ·))) = true := by kernel_rfl
theorem jf25 : (Tryz.prog.stopsHeard) = true := by kernel_rfl
theorem jf29 : (jfKinds Tryz.prog Tryz.f3 Rows.textsBackRow) = true := by kernel_rfl
theorem wfb : Rows.textsBackRow.wfByText (OpenSpec.ofChange Rows.textsBackSpec) = true := by kernel_rfl
theorem looked : true = Tryz.prog.looks [] := by kernel_rfl
end Go.Proofs.YthinoedohnbeeaaGreatDoor.textsBack
