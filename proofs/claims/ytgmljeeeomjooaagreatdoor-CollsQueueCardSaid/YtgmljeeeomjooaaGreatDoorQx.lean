/-
  stillroomlaw21.lives: its run, by the evaluator.
-/
import Derived.Test.YtgmljeeeomjooaaGreatDoorQn
import Derived.Test.YtgmljeeeomjooaaGreatDoorEvE
import Derived.Test.YtgmljeeeomjooaaGreatDoorEvD
set_option linter.all false
namespace Go.Proofs.YtgmljeeeomjooaaGreatDoor
open Go Go.RowKit

theorem lives_run (l : List Value) (o0 o1 : Obj) : Ev.endOfF (Ev.Cx.sy Tryz.prog 5000 l []) 3000 6 [] (Ev.romH [(2, o0, [.chan (some 5000)]), (3, o1, [.chan (some 5001)])]) 5002 (.bool true) [2, 3] = some [some (.rom o0 [.chan (some 5000)]), some (.rom o1 [.chan (some 5001)])] := by kernel_rfl

end Go.Proofs.YtgmljeeeomjooaaGreatDoor
