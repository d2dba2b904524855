/-
  TextsBack's run, where the sum fits.
-/
import Derived.Test.YthinoedohnbeeaaGreatDoorRa
set_option linter.all false
namespace Go.Proofs.YthinoedohnbeeaaGreatDoor
open Go Go.Ev
theorem runX (l : List Value) (o : Obj) : endOfF (XX l) 3000 3 [sy 0, sy 1] (H0 o) 5012 (.bool true) [0] = some [some (.rom o pow)] := by kernel_rfl
end Go.Proofs.YthinoedohnbeeaaGreatDoor
