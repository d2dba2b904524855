/-
  SpaceNone: closed facts of the row and of the card.
-/
import Derived.Test.YtagpkkofjehcnaaGreatDoorCards
import Derived.Test.YtagpkkofjehcnaaGreatDoorEvD
import Derived.Test.YtagpkkofjehcnaaGreatDoorEvF
namespace Go.Proofs.YtagpkkofjehcnaaGreatDoor.spaceNone
open Go Go.Ev
theorem jf3 : (mapsRowed Tryz.prog) = true := by kernel_rfl
theorem jf7 : ((Tryz.prog.stops == [])) = true := by kernel_rfl
theorem jf11 : ((Rows.spaceNoneRow.unfollowed == Tryz.prog.unfollowed 3)) = true := by kernel_rfl
theorem jf15 : ((Rows.spaceNoneRow.ifaces == (Tryz.f3.params.toList ++ (OpenSpec.ofChange Rows.spaceNoneSpec).bare.plain.varTypes Tryz.prog).any (Tryz.prog.ifacesRec ·))) = true := by kernel_rfl
theorem jf19 : ((OpenSpec.ofChange Rows.spaceNoneSpec).bare.vars.all (Tryz.prog.varReadable ·)) = true := by kernel_rfl
theorem jf23 : ((Rows.spaceNoneRow.plainKeys == Tryz.prog.plainKeys)) = true := by kernel_rfl
theorem jf27 : ((Rows.spaceNoneRow.lifted == Tryz.prog.liftsFinal)) = true := by kernel_rfl
theorem jf31 : ((Rows.spaceNoneRow.veiled == (Tryz.f3.params.toList ++ (OpenSpec.ofChange Rows.spaceNoneSpec).bare.plain.varTypes Tryz.prog ++ Tryz.f3.resultTypes.toList).any (Tryz.prog.veiledRec ·))) = true := by kernel_rfl
theorem mainIs : Tryz.prog.mainIs = some (Rows.spaceNoneCard.stood.harness.1, Rows.spaceNoneCard.stood.harness.2.toList) := by kernel_rfl
end Go.Proofs.YtagpkkofjehcnaaGreatDoor.spaceNone
