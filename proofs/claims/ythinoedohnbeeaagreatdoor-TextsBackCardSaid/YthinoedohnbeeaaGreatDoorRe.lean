/-
  TextsBack's run, where the sum is beyond 64 bits.
-/
import Derived.Test.YthinoedohnbeeaaGreatDoorRa
set_option linter.all false
namespace Go.Proofs.YthinoedohnbeeaaGreatDoor
open Go Go.Ev
theorem runO (l : List Value) (o : Obj) : endOfF (XO l) 3000 3 [sy 0, sy 1] (H0 o) 5012 (.bool true) [0] = some [some (.rom o pow)] := by kernel_rfl
end Go.Proofs.YthinoedohnbeeaaGreatDoor
