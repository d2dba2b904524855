/-
  TransNone: a whole run over unknown arguments.
-/
import Derived.Test.YtdckhbgmlojfkaaGreatDoorProg
import Derived.Test.YtdckhbgmlojfkaaGreatDoorEvE
import Derived.KernelRfl
namespace Go.Proofs.YtdckhbgmlojfkaaGreatDoor.transNone
open Go Go.Ev
theorem run (l : List Value) : saysF (Cx.sy Tryz.prog 5000 l []) 3000 3 [.agg #[.chan (some 5000), .chan (some 5001), .chan (some 5002), .chan (some 5003)], .agg #[.chan (some 5004), .chan (some 5005), .chan (some 5006), .chan (some 5007), .chan (some 5008)]] 5009 (.bool true) = true := by kernel_rfl
end Go.Proofs.YtdckhbgmlojfkaaGreatDoor.transNone
