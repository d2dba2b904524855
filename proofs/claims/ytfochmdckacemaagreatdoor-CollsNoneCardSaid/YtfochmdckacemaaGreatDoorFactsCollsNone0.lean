/-
  CollsNone: closed facts of the row and of the card.
-/
import Derived.Test.YtfochmdckacemaaGreatDoorCards
import Derived.Test.YtfochmdckacemaaGreatDoorEvD
import Derived.Test.YtfochmdckacemaaGreatDoorEvF
namespace Go.Proofs.YtfochmdckacemaaGreatDoor.collsNone
open Go Go.Ev
theorem jf1 : (Rows.collsNoneRow.wf (OpenSpec.ofChange (OpenSpec.ofChange Rows.collsNoneSpec).bare)) = true := by kernel_rfl
theorem jf5 : (namedTie Tryz.prog Rows.collsNoneRow.named (OpenSpec.ofChange Rows.collsNoneSpec).bare.vars) = true := by kernel_rfl
theorem jf9 : ((Tryz.prog.stopKnobs == [])) = true := by kernel_rfl
theorem jf13 : ((Rows.collsNoneRow.named == Tryz.prog.varsNamed 3)) = true := by kernel_rfl
theorem jf17 : ((Rows.collsNoneRow.loops == (Tryz.f3.params.toList ++ (OpenSpec.ofChange Rows.collsNoneSpec).bare.plain.varTypes Tryz.prog).any (Tryz.prog.loopsFrom ·))) = true := by kernel_rfl
theorem jf21 : ((Rows.collsNoneRow.ifacesOut == Tryz.f3.resultTypes.toList.any (Tryz.prog.ifacesRec ·))) = true := by kernel_rfl
theorem jf25 : (Tryz.prog.stopsHeard) = true := by kernel_rfl
theorem jf29 : (jfKinds Tryz.prog Tryz.f3 Rows.collsNoneRow) = true := by kernel_rfl
theorem wfb : Rows.collsNoneRow.wfByText (OpenSpec.ofChange Rows.collsNoneSpec) = true := by kernel_rfl
theorem looked : true = Tryz.prog.looks [] := by kernel_rfl
end Go.Proofs.YtfochmdckacemaaGreatDoor.collsNone
