/-
  CollsNone: closed facts of the row and of the card.
-/
import Derived.Test.YtfochmdckacemaaGreatDoorCards
import Derived.Test.YtfochmdckacemaaGreatDoorEvD
import Derived.Test.YtfochmdckacemaaGreatDoorEvF
namespace Go.Proofs.YtfochmdckacemaaGreatDoor.collsNone
open Go Go.Ev
theorem jf3 : (mapsRowed Tryz.prog) = true := by kernel_rfl
theorem jf7 : ((Tryz.prog.stops == [])) = true := by kernel_rfl
theorem jf11 : ((Rows.collsNoneRow.unfollowed == Tryz.prog.unfollowed 3)) = true := by kernel_rfl
theorem jf15 : ((Rows.collsNoneRow.ifaces == (Tryz.f3.params.toList ++ (OpenSpec.ofChange Rows.collsNoneSpec).bare.plain.varTypes Tryz.prog).any (Tryz.prog.ifacesRec ·))) = true := by kernel_rfl
theorem jf19 : ((OpenSpec.ofChange Rows.collsNoneSpec).bare.vars.all (Tryz.prog.varReadable ·)) = true := by kernel_rfl
theorem jf23 : ((Rows.collsNoneRow.plainKeys == Tryz.prog.plainKeys)) = true := by kernel_rfl
theorem jf27 : ((Rows.collsNoneRow.lifted == Tryz.prog.liftsFinal)) = true := by kernel_rfl
theorem jf31 : ((Rows.collsNoneRow.veiled == (Tryz.f3.params.toList ++ (OpenSpec.ofChange Rows.collsNoneSpec).bare.plain.varTypes Tryz.prog ++ Tryz.f3.resultTypes.toList).any (Tryz.prog.veiledRec ·))) = true := by kernel_rfl
theorem mainIs : Tryz.prog.mainIs = some (Rows.collsNoneCard.stood.harness.1, Rows.collsNoneCard.stood.harness.2.toList) := by kernel_rfl
end Go.Proofs.YtfochmdckacemaaGreatDoor.collsNone
