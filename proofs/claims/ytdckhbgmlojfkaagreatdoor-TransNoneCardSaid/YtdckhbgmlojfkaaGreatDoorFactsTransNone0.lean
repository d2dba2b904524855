/-
  TransNone: closed facts of the row and of the card.
-/
import Derived.Test.YtdckhbgmlojfkaaGreatDoorCards
import Derived.Test.YtdckhbgmlojfkaaGreatDoorEvD
import Derived.Test.YtdckhbgmlojfkaaGreatDoorEvF
namespace Go.Proofs.YtdckhbgmlojfkaaGreatDoor.transNone
open Go Go.Ev
theorem jf1 : (Rows.transNoneRow.wf (OpenSpec.ofChange (OpenSpec.ofChange Rows.transNoneSpec).bare)) = true := by kernel_rfl
theorem jf6 : ((Rows.transNoneRow.stops == [])) = true := by kernel_rfl
theorem jf11 : ((Rows.transNoneRow.unfollowed == Tryz.prog.unfollowed 3)) = true := by kernel_rfl
theorem jf17 : ((Rows.transNoneRow.loops == (Tryz.f3.params.toList ++ (OpenSpec.ofChange Rows.transNoneSpec).bare.plain.varTypes Tryz.prog).any (Tryz.prog.loopsFrom ·))) = true := by kernel_rfl
theorem jf21 : ((Rows.transNoneRow.ifacesOut == Tryz.f3.resultTypes.toList.any (Tryz.prog.ifacesRec ·))) = true := by kernel_rfl
theorem jf25 : (Tryz.prog.stopsHeard) = true := by kernel_rfl
theorem jf29 : (jfKinds Tryz.prog Tryz.f3 Rows.transNoneRow) = true := by kernel_rfl
theorem wfb : Rows.transNoneRow.wfByText (OpenSpec.ofChange Rows.transNoneSpec) = true := by kernel_rfl
theorem looked : true = Tryz.prog.looks [] := by kernel_rfl
end Go.Proofs.YtdckhbgmlojfkaaGreatDoor.transNone
