/-
  TextsBack's run, where n is the least number.
-/
import Derived.Test.YthinoedohnbeeaaGreatDoorRa
set_option linter.all false
namespace Go.Proofs.YthinoedohnbeeaaGreatDoor
open Go Go.Ev
theorem runM (l : List Value) (o : Obj) : endOfF (XM l) 3000 3 [sy 0, sy 1] (H0 o) 5012 (.bool true) [0] = some [some (.rom o pow)] := by kernel_rfl
end Go.Proofs.YthinoedohnbeeaaGreatDoor
