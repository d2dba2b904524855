/-
  CollsNone: a whole run over unknown arguments, on one of its four ways.
-/
import Derived.Test.YtfochmdckacemaaGreatDoorProg
import Derived.Test.YtfochmdckacemaaGreatDoorEvE
import Derived.KernelRfl
namespace Go.Proofs.YtfochmdckacemaaGreatDoor.collsNone
open Go Go.Ev
def orcD : List Orc := [⟨.lss, 2, .chan (some 5001), .int .i64 0, false⟩, ⟨.gtr, 2, .chan (some 5001), .int .i64 9007199254740992, false⟩, ⟨.lss, 3, .chan (some 5000), .int .i64 0, false⟩, ⟨.geq, 3, .chan (some 5000), .int .i64 0, true⟩]
theorem runD (l : List Value) (o0 o1 : Obj) : endOfF (Cx.sy Tryz.prog 5000 l orcD) 3000 3 [.agg #[.chan (some 5000), .chan (some 5001), .chan (some 5002), .chan (some 5003)]] (romH [(2, o0, [.chan (some 5004)]), (3, o1, [.chan (some 5005)])]) 5006 (.bool true) [2, 3] = some [some (.rom o0 [.chan (some 5004)]), some (.rom o1 [.chan (some 5005)])] := by kernel_rfl
end Go.Proofs.YtfochmdckacemaaGreatDoor.collsNone
