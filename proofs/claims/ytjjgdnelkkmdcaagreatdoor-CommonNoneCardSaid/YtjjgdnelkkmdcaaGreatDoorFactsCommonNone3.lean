/-
  CommonNone: closed facts of the row and of the card.
-/
import Derived.Test.YtjjgdnelkkmdcaaGreatDoorCards
import Derived.Test.YtjjgdnelkkmdcaaGreatDoorEvLaw
import Derived.Test.YtjjgdnelkkmdcaaGreatDoorEvTie
namespace Go.Proofs.YtjjgdnelkkmdcaaGreatDoor.commonNone
open Go Go.Ev
theorem jf4 : (Tryz.f3.params.all (Tryz.prog.readableRec ·)) = true := by kernel_rfl
theorem jf8 : ((Rows.commonNoneRow.knobs == [])) = true := by kernel_rfl
theorem jf12 : ((Rows.commonNoneRow.recurses == Tryz.prog.recurses 3)) = true := by kernel_rfl
theorem jf16 : ((Rows.commonNoneRow.mapsOut == Tryz.prog.mapsAmong Tryz.f3.resultTypes.toList)) = true := by kernel_rfl
theorem jf20 : (Tryz.f3.resultTypes.all (fun t => Tryz.prog.readableRec t && decide (t < Tryz.prog.types.size))) = true := by kernel_rfl
theorem jf24 : (Rows.commonNoneRow.shortTexts.isNone) = true := by kernel_rfl
theorem jf28 : ((Tryz.prog.make == some Rows.commonNoneRow.make)) = true := by kernel_rfl
theorem jf32 : (Rows.commonNoneRow.veiledFits Tryz.prog Tryz.f3.params.toList (Tryz.f3.params.toList ++ (OpenSpec.ofChange Rows.commonNoneSpec).bare.plain.varTypes Tryz.prog ++ Tryz.f3.resultTypes.toList)) = true := by kernel_rfl
theorem noInit : Tryz.prog.inits.idxOf? 3 = none := by kernel_rfl
end Go.Proofs.YtjjgdnelkkmdcaaGreatDoor.commonNone
