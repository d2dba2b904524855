/-
  TransNone: closed facts of the row and of the card.
-/
import Derived.Test.YtdckhbgmlojfkaaGreatDoorCards
import Derived.Test.YtdckhbgmlojfkaaGreatDoorEvD
import Derived.Test.YtdckhbgmlojfkaaGreatDoorEvF
namespace Go.Proofs.YtdckhbgmlojfkaaGreatDoor.transNone
open Go Go.Ev
theorem jf5 : (namedTie Tryz.prog Rows.transNoneRow.named (OpenSpec.ofChange Rows.transNoneSpec).bare.vars) = true := by kernel_rfl
theorem jf9 : ((Tryz.prog.stopKnobs == [])) = true := by kernel_rfl
theorem jf16 : ((Rows.transNoneRow.mapsOut == Tryz.prog.mapsAmong Tryz.f3.resultTypes.toList)) = true := by kernel_rfl
theorem jf20 : (Tryz.f3.resultTypes.all (fun t => Tryz.prog.readableRec t && decide (t < Tryz.prog.types.size))) = true := by kernel_rfl
theorem jf24 : (Rows.transNoneRow.shortTexts.isNone) = true := by kernel_rfl
theorem jf28 : ((Tryz.prog.make == some Rows.transNoneRow.make)) = true := by kernel_rfl
theorem jf32 : (Rows.transNoneRow.veiledFits Tryz.prog Tryz.f3.params.toList (Tryz.f3.params.toList ++ (OpenSpec.ofChange Rows.transNoneSpec).bare.plain.varTypes Tryz.prog ++ Tryz.f3.resultTypes.toList)) = true := by kernel_rfl
theorem noInit : Tryz.prog.inits.idxOf? 3 = none := by kernel_rfl
end Go.Proofs.YtdckhbgmlojfkaaGreatDoor.transNone
