/-
  TextsBack: closed facts of the row and of the card.
-/
import Derived.Test.YthinoedohnbeeaaGreatDoorCards
import Derived.Test.YthinoedohnbeeaaGreatDoorEvD
import Derived.Test.YthinoedohnbeeaaGreatDoorEvF
namespace Go.Proofs.YthinoedohnbeeaaGreatDoor.textsBack
open Go Go.Ev
theorem jf4 : (Tryz.f3.params.all (Tryz.prog.readableRec ·)) = true := by kernel_rfl
theorem jf8 : ((Rows.textsBackRow.knobs == [])) = true := by kernel_rfl
theorem jf12 : ((Rows.textsBackRow.recurses == Tryz.prog.recurses 3)) = true := by kernel_rfl
theorem jf16 : ((Rows.textsBackRow.mapsOut == Tryz.prog.mapsAmong Tryz.f3.resultTypes.toList)) = true := by kernel_rfl
theorem jf20 : (Tryz.f3.resultTypes.all (fun t => Tryz.prog.readableRec t && decide (t < Tryz.prog.types.size))) = true := by kernel_rfl
theorem jf24 : (Rows.textsBackRow.shortTexts.isNone) = true := by kernel_rfl
theorem jf28 : ((Tryz.prog.make == some Rows.textsBackRow.make)) = true := by kernel_rfl
theorem jf32 : (Rows.textsBackRow.veiledFits Tryz.prog Tryz.f3.params.toList (Tryz.f3.params.toList ++ (OpenSpec.ofChange Rows.textsBackSpec).bare.plain.varTypes Tryz.prog ++ Tryz.f3.resultTypes.toList)) = true := by kernel_rfl
theorem noInit : Tryz.prog.inits.idxOf? 3 = none := by kernel_rfl
end Go.Proofs.YthinoedohnbeeaaGreatDoor.textsBack
