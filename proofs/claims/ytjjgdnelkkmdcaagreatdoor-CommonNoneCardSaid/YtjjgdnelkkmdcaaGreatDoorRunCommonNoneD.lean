/-
  CommonNone: a whole run over unknown arguments, on one of its four ways.
-/
import Derived.Test.YtjjgdnelkkmdcaaGreatDoorProg
import Derived.Test.YtjjgdnelkkmdcaaGreatDoorEvSym
import Derived.KernelRfl
namespace Go.Proofs.YtjjgdnelkkmdcaaGreatDoor.commonNone
open Go Go.Ev
def orcD : List Orc := [⟨.lss, 2, .chan (some 5001), .int .i64 0, false⟩, ⟨.gtr, 2, .chan (some 5001), .int .i64 9007199254740992, false⟩, ⟨.lss, 3, .chan (some 5000), .int .i64 0, false⟩, ⟨.geq, 3, .chan (some 5000), .int .i64 0, true⟩]
theorem runD (l : List Value) : saysOrc (Cx.sy Tryz.prog 5000 l orcD) 3000 3 [.agg #[.chan (some 5000), .chan (some 5001), .chan (some 5002), .chan (some 5003)]] 5004 (.bool true) = true := by kernel_rfl
end Go.Proofs.YtjjgdnelkkmdcaaGreatDoor.commonNone
