/-
  Put at a Space that was never made.
-/
import Derived.Test.YtagpkkofjehcnaaGreatDoorTwU
import Derived.Deep.QuietTactic
import Derived.BigQuiet
set_option linter.all false
namespace Go.Proofs.YtagpkkofjehcnaaGreatDoor
open Go Go.RowKit

set_option maxHeartbeats 1600000 in
set_option maxRecDepth 100000 in
/-- At a Space that was never made: its first cell (dbs) is nil. -/
theorem put_empty (z : Nat) (db key keep : Value) (cs : Array Value) (w : World) (hz : z < w.heap.size) (h0 : w.cell? ⟨z, 0, none⟩ = some (.slice none 0 0)) : Calls Tryz.prog 9 #[.pointer (some ⟨z, 0, none⟩), db, key, .agg cs, keep] w fun e w' => e = .returned (.int .i64 2) ∧ Below w.heap.size w w' := by
  have h1 : (w.alloc (.cells cs 38)).cell? ⟨z, 0, none⟩ = some (.slice none 0 0) := (((Below.refl w.heap.size w).alloc (Nat.le_refl _) _).cell (by exact hz)).trans h0
  have hA : Below w.heap.size w (w.alloc (.cells cs 38)) := (Below.refl w.heap.size w).alloc (Nat.le_refl _) _
  have heq : ∀ w, (Go.binOp .eql 24 (.slice none 0 0) (.slice none 0 0)).run Tryz.prog w = .ok (.bool true) w := fun w => by
    unfold Go.binOp
    first | rfl | (simp [go_sem, Tryz.underlying24]; done) | kernel_rfl
  go_enter Tryz.func9, Tryz.ntmps9
  go_wp2
  go_ret
  exact ⟨rfl, hA⟩
end Go.Proofs.YtagpkkofjehcnaaGreatDoor
