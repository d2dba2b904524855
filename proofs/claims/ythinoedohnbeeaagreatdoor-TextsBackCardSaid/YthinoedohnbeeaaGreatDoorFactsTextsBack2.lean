/-
  TextsBack: closed facts of the row and of the card.
-/
import Derived.Test.YthinoedohnbeeaaGreatDoorCards
import Derived.Test.YthinoedohnbeeaaGreatDoorEvD
import Derived.Test.YthinoedohnbeeaaGreatDoorEvF
namespace Go.Proofs.YthinoedohnbeeaaGreatDoor.textsBack
open Go Go.Ev
theorem jf3 : (mapsRowed Tryz.prog) = true := by kernel_rfl
theorem jf7 : ((Tryz.prog.stops == [])) = true := by kernel_rfl
theorem jf11 : ((Rows.textsBackRow.unfollowed == Tryz.prog.unfollowed 3)) = true := by kernel_rfl
theorem jf15 : ((Rows.textsBackRow.ifaces == (Tryz.f3.params.toList ++ (OpenSpec.ofChange Rows.textsBackSpec).bare.plain.varTypes Tryz.prog).any (Tryz.prog.ifacesRec ·))) = true := by kernel_rfl
theorem jf19 : ((OpenSpec.ofChange Rows.textsBackSpec).bare.vars.all (Tryz.prog.varReadable ·)) = true := by kernel_rfl
theorem jf23 : ((Rows.textsBackRow.plainKeys == Tryz.prog.plainKeys)) = true := by kernel_rfl
theorem jf27 : ((Rows.textsBackRow.lifted == Tryz.prog.liftsFinal)) = true := by kernel_rfl
theorem jf31 : ((Rows.textsBackRow.veiled == (Tryz.f3.params.toList ++ (OpenSpec.ofChange Rows.textsBackSpec).bare.plain.varTypes Tryz.prog ++ Tryz.f3.resultTypes.toList).any (Tryz.prog.veiledRec ·))) = true := by kernel_rfl
theorem mainIs : Tryz.prog.mainIs = some (Rows.textsBackCard.stood.harness.1, Rows.textsBackCard.stood.harness.2.toList) := by kernel_rfl
theorem noStandIn1 : Tryz.prog.wantsStandIn 2 = false := by kernel_rfl
end Go.Proofs.YthinoedohnbeeaaGreatDoor.textsBack
