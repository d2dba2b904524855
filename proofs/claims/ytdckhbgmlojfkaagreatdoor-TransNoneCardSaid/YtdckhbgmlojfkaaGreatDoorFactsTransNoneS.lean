/-
  TransNone: closed facts of the row and of the card.
-/
import Derived.Test.YtdckhbgmlojfkaaGreatDoorFactsTransNoneR
namespace Go.Proofs.YtdckhbgmlojfkaaGreatDoor.transNone
open Go
theorem laidGlobals : Tryz.prog.globals.all (fun g => decide (g.type < Tryz.prog.types.size)) = true := by kernel_rfl
theorem laidFuncs : Tryz.prog.funcs.all (fun f => f.params.all fun t => decide (t < Tryz.prog.types.size)) = true := by kernel_rfl
theorem jf2 : laidOutB Tryz.prog = true := by
  unfold laidOutB
  rw [laidRows, laidGlobals, laidFuncs]
  rfl
end Go.Proofs.YtdckhbgmlojfkaaGreatDoor.transNone
