/-
  TextsBits' run, on one of its ways.
-/
import Derived.Test.YtehpbcpnmnhdbaaGreatDoorRa
set_option linter.all false
namespace Go.Proofs.YtehpbcpnmnhdbaaGreatDoor
open Go Go.Ev
theorem runtf (l : List Value) (o : Obj) : endOfF (XX true false l) 3000 3 [.agg #[sy 0, sy 1, .bool true, sy 3]] (H0 o) 5016 (.bool true) [0] = some [some (.rom o pow)] := by kernel_rfl
end Go.Proofs.YtehpbcpnmnhdbaaGreatDoor
