/-
  CommonNone: closed facts of the row and of the card.
-/
import Derived.Test.YtjjgdnelkkmdcaaGreatDoorCards
import Derived.Test.YtjjgdnelkkmdcaaGreatDoorEvLaw
import Derived.Test.YtjjgdnelkkmdcaaGreatDoorEvTie
namespace Go.Proofs.YtjjgdnelkkmdcaaGreatDoor.commonNone
open Go Go.Ev
theorem jf3 : (mapsRowed Tryz.prog) = true := by kernel_rfl
theorem jf7 : ((Tryz.prog.stops == [])) = true := by kernel_rfl
theorem jf11 : ((Rows.commonNoneRow.unfollowed == Tryz.prog.unfollowed 3)) = true := by kernel_rfl
theorem jf15 : ((Rows.commonNoneRow.ifaces == (Tryz.f3.params.toList ++ (OpenSpec.ofChange Rows.commonNoneSpec).bare.plain.varTypes Tryz.prog).any (Tryz.prog.ifacesRec ·))) = true := by kernel_rfl
theorem jf19 : ((OpenSpec.ofChange Rows.commonNoneSpec).bare.vars.all (Tryz.prog.varReadable ·)) = true := by kernel_rfl
theorem jf23 : ((Rows.commonNoneRow.plainKeys == Tryz.prog.plainKeys)) = true := by kernel_rfl
theorem jf27 : ((Rows.commonNoneRow.lifted == Tryz.prog.liftsFinal)) = true := by kernel_rfl
theorem jf31 : ((Rows.commonNoneRow.veiled == (Tryz.f3.params.toList ++ (OpenSpec.ofChange Rows.commonNoneSpec).bare.plain.varTypes Tryz.prog ++ Tryz.f3.resultTypes.toList).any (Tryz.prog.veiledRec ·))) = true := by kernel_rfl
theorem mainIs : Tryz.prog.mainIs = some (Rows.commonNoneCard.stood.harness.1, Rows.commonNoneCard.stood.harness.2.toList) := by kernel_rfl
end Go.Proofs.YtjjgdnelkkmdcaaGreatDoor.commonNone
