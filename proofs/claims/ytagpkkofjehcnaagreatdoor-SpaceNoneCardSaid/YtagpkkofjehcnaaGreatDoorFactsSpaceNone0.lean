/-
  SpaceNone: closed facts of the row and of the card.
-/
import Derived.Test.YtagpkkofjehcnaaGreatDoorCards
import Derived.Test.YtagpkkofjehcnaaGreatDoorEvD
import Derived.Test.YtagpkkofjehcnaaGreatDoorEvF
namespace Go.Proofs.YtagpkkofjehcnaaGreatDoor.spaceNone
open Go Go.Ev
theorem jf1 : (Rows.spaceNoneRow.wf (OpenSpec.ofChange (OpenSpec.ofChange Rows.spaceNoneSpec).bare)) = true := by kernel_rfl
theorem jf5 : (namedTie Tryz.prog Rows.spaceNoneRow.named (OpenSpec.ofChange Rows.spaceNoneSpec).bare.vars) = true := by kernel_rfl
theorem jf9 : ((Tryz.prog.stopKnobs == [])) = true := by kernel_rfl
theorem jf13 : ((Rows.spaceNoneRow.named == Tryz.prog.varsNamed 3)) = true := by kernel_rfl
theorem jf17 : ((Rows.spaceNoneRow.loops == (Tryz.f3.params.toList ++ (OpenSpec.ofChange Rows.spaceNoneSpec).bare.plain.varTypes Tryz.prog).any (Tryz.prog.loopsFrom ·))) = true := by kernel_rfl
theorem jf21 : ((Rows.spaceNoneRow.ifacesOut == Tryz.f3.resultTypes.toList.any (Tryz.prog.ifacesRec ·))) = true := by kernel_rfl
theorem jf25 : (Tryz.prog.stopsHeard) = true := by kernel_rfl
theorem jf29 : (jfKinds Tryz.prog Tryz.f3 Rows.spaceNoneRow) = true := by kernel_rfl
theorem wfb : Rows.spaceNoneRow.wfByText (OpenSpec.ofChange Rows.spaceNoneSpec) = true := by kernel_rfl
theorem looked : true = Tryz.prog.looks [] := by kernel_rfl
end Go.Proofs.YtagpkkofjehcnaaGreatDoor.spaceNone
