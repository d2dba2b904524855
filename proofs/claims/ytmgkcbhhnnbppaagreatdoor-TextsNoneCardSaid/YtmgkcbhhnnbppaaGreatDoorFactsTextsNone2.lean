/-
  TextsNone: closed facts of the row and of the card.
-/
import Derived.Test.YtmgkcbhhnnbppaaGreatDoorCards
import Derived.Test.YtmgkcbhhnnbppaaGreatDoorEvLaw
import Derived.Test.YtmgkcbhhnnbppaaGreatDoorEvTie
namespace Go.Proofs.YtmgkcbhhnnbppaaGreatDoor.textsNone
open Go Go.Ev
theorem jf3 : (mapsRowed Tryz.prog) = true := by kernel_rfl
theorem jf7 : ((Tryz.prog.stops == [])) = true := by kernel_rfl
theorem jf11 : ((Rows.textsNoneRow.unfollowed == Tryz.prog.unfollowed 3)) = true := by kernel_rfl
theorem jf15 : ((Rows.textsNoneRow.ifaces == (Tryz.f3.params.toList ++ (OpenSpec.ofChange Rows.textsNoneSpec).bare.plain.varTypes Tryz.prog).any (Tryz.prog.ifacesRec ·))) = true := by kernel_rfl
theorem jf19 : ((OpenSpec.ofChange Rows.textsNoneSpec).bare.vars.all (Tryz.prog.varReadable ·)) = true := by kernel_rfl
theorem jf23 : ((Rows.textsNoneRow.plainKeys == Tryz.prog.plainKeys)) = true := by kernel_rfl
theorem jf27 : ((Rows.textsNoneRow.lifted == Tryz.prog.liftsFinal)) = true := by kernel_rfl
theorem jf31 : ((Rows.textsNoneRow.veiled == (Tryz.f3.params.toList ++ (OpenSpec.ofChange Rows.textsNoneSpec).bare.plain.varTypes Tryz.prog ++ Tryz.f3.resultTypes.toList).any (Tryz.prog.veiledRec ·))) = true := by kernel_rfl
theorem mainIs : Tryz.prog.mainIs = some (Rows.textsNoneCard.stood.harness.1, Rows.textsNoneCard.stood.harness.2.toList) := by kernel_rfl
end Go.Proofs.YtmgkcbhhnnbppaaGreatDoor.textsNone
