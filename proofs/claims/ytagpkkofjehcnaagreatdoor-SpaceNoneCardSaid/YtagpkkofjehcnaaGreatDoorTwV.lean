/-
  Put at a Space that is not there.
-/
import Derived.Test.YtagpkkofjehcnaaGreatDoorTwT
set_option linter.all false
namespace Go.Proofs.YtagpkkofjehcnaaGreatDoor
open Go Go.RowKit

set_option maxHeartbeats 1600000 in
set_option maxRecDepth 100000 in
theorem put_nil (db key keep : Value) (cs : Array Value) (w : World) : Calls Tryz.prog 9 #[.pointer none, db, key, .agg cs, keep] w fun e w' => e = .returned (.int .i64 2) ∧ Below w.heap.size w w' := by
  go_enter Tryz.func9, Tryz.ntmps9
  go_wp2
  go_ret
  exact ⟨rfl, (Below.refl _ _).alloc (Nat.le_refl _) _⟩

set_option maxHeartbeats 1600000 in
set_option maxRecDepth 100000 in
theorem refPut_nil (db key keep : Value) (cs : Array Value) (w : World) : Calls Tryz.prog 10 #[.pointer none, db, key, .agg cs, keep] w fun e w' => e = .returned (.int .i64 2) ∧ Below w.heap.size w w' := by
  go_enter Tryz.func10, Tryz.ntmps10
  go_wp2
  go_ret
  exact ⟨rfl, (Below.refl _ _).alloc (Nat.le_refl _) _⟩

end Go.Proofs.YtagpkkofjehcnaaGreatDoor
