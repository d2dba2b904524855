/-
  TransNone: closed facts of the row and of the card.
-/
import Derived.Test.YtdckhbgmlojfkaaGreatDoorCards
import Derived.Test.YtdckhbgmlojfkaaGreatDoorEvD
import Derived.Test.YtdckhbgmlojfkaaGreatDoorEvF
namespace Go.Proofs.YtdckhbgmlojfkaaGreatDoor.transNone
open Go Go.Ev
theorem jf4 : (Tryz.f3.params.all (Tryz.prog.readableRec ·)) = true := by kernel_rfl
theorem jf8 : ((Rows.transNoneRow.knobs == [])) = true := by kernel_rfl
theorem jf15 : ((Rows.transNoneRow.ifaces == (Tryz.f3.params.toList ++ (OpenSpec.ofChange Rows.transNoneSpec).bare.plain.varTypes Tryz.prog).any (Tryz.prog.ifacesRec ·))) = true := by kernel_rfl
theorem jf19 : ((OpenSpec.ofChange Rows.transNoneSpec).bare.vars.all (Tryz.prog.varReadable ·)) = true := by kernel_rfl
theorem jf23 : ((Rows.transNoneRow.plainKeys == Tryz.prog.plainKeys)) = true := by kernel_rfl
theorem jf27 : ((Rows.transNoneRow.lifted == Tryz.prog.liftsFinal)) = true := by kernel_rfl
theorem jf31 : ((Rows.transNoneRow.veiled == (Tryz.f3.params.toList ++ (OpenSpec.ofChange Rows.transNoneSpec).bare.plain.varTypes Tryz.prog ++ Tryz.f3.resultTypes.toList).any (Tryz.prog.veiledRec ·))) = true := by kernel_rfl
theorem mainIs : Tryz.prog.mainIs = some (Rows.transNoneCard.stood.harness.1, Rows.transNoneCard.stood.harness.2.toList) := by kernel_rfl
theorem noStandIn1 : Tryz.prog.wantsStandIn 31 = false := by kernel_rfl
end Go.Proofs.YtdckhbgmlojfkaaGreatDoor.transNone
