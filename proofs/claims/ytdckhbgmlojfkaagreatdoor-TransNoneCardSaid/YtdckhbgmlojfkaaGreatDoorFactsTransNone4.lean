/-
  TransNone: closed facts of the row and of the card.
-/
import Derived.Test.YtdckhbgmlojfkaaGreatDoorCards
import Derived.Test.YtdckhbgmlojfkaaGreatDoorEvD
import Derived.Test.YtdckhbgmlojfkaaGreatDoorEvF
namespace Go.Proofs.YtdckhbgmlojfkaaGreatDoor.transNone
open Go Go.Ev
theorem jf14 : ((Rows.transNoneRow.maps == (Tryz.f3.params.toList ++ (OpenSpec.ofChange Rows.transNoneSpec).bare.plain.varTypes Tryz.prog).any (Tryz.prog.mapsRec ·))) = true := by kernel_rfl
end Go.Proofs.YtdckhbgmlojfkaaGreatDoor.transNone
