/-
  SpaceNone: closed facts of the row and of the card.
-/
import Derived.Test.YtagpkkofjehcnaaGreatDoorCards
import Derived.Test.YtagpkkofjehcnaaGreatDoorEvD
import Derived.Test.YtagpkkofjehcnaaGreatDoorEvF
namespace Go.Proofs.YtagpkkofjehcnaaGreatDoor.spaceNone
open Go Go.Ev
theorem jf4 : (Tryz.f3.params.all (Tryz.prog.readableRec ·)) = true := by kernel_rfl
theorem jf8 : ((Rows.spaceNoneRow.knobs == [])) = true := by kernel_rfl
theorem jf12 : ((Rows.spaceNoneRow.recurses == Tryz.prog.recurses 3)) = true := by kernel_rfl
theorem jf16 : ((Rows.spaceNoneRow.mapsOut == Tryz.prog.mapsAmong Tryz.f3.resultTypes.toList)) = true := by kernel_rfl
theorem jf20 : (Tryz.f3.resultTypes.all (fun t => Tryz.prog.readableRec t && decide (t < Tryz.prog.types.size))) = true := by kernel_rfl
theorem jf24 : (Rows.spaceNoneRow.shortTexts.isNone) = true := by kernel_rfl
theorem jf28 : ((Tryz.prog.make == some Rows.spaceNoneRow.make)) = true := by kernel_rfl
theorem jf32 : (Rows.spaceNoneRow.veiledFits Tryz.prog Tryz.f3.params.toList (Tryz.f3.params.toList ++ (OpenSpec.ofChange Rows.spaceNoneSpec).bare.plain.varTypes Tryz.prog ++ Tryz.f3.resultTypes.toList)) = true := by kernel_rfl
theorem noInit : Tryz.prog.inits.idxOf? 3 = none := by kernel_rfl
end Go.Proofs.YtagpkkofjehcnaaGreatDoor.spaceNone
