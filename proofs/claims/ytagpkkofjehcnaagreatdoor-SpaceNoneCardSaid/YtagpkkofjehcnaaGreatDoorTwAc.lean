/-
  SpaceNone at a slice without elements.
-/
import Derived.Test.YtagpkkofjehcnaaGreatDoorTwAa
set_option linter.all false
namespace Go.Proofs.YtagpkkofjehcnaaGreatDoor
open Go Go.RowKit

set_option maxHeartbeats 6400000 in
set_option maxRecDepth 100000 in
theorem space_nil (q : Option Addr) (w : World) :
    Calls Tryz.prog 3 #[.slice q 0 0] w fun e w' => e = .returned (.bool true) ∧ Below w.heap.size w w' := by
  have hA : Below w.heap.size w (w.alloc (.cells zCells 27 (0, 0))) := (Below.refl w.heap.size w).alloc (Nat.le_refl _) _
  have hz : (w.alloc (.cells zCells 27 (0, 0))).heap[w.heap.size]? = some (.cells zCells 27 (0, 0)) := by
    show (w.heap.push _)[w.heap.size]? = _
    exact Array.getElem?_push_size
  go_enter Tryz.func3, Tryz.ntmps3
  go_wp2
  have hA : Below w.heap.size w (w.alloc (.cells #[.slice none 0 0, .int .u64 0, .int .u64 0] 27)) := hA
  have hz : (w.alloc (.cells #[.slice none 0 0, .int .u64 0, .int .u64 0] 27)).heap[w.heap.size]? = some (.cells zCells 27 (0, 0)) := hz
  generalize (w.alloc (.cells #[.slice none 0 0, .int .u64 0, .int .u64 0] 27)) = w1 at hA hz ⊢
  refine wp_loop_rounds 1 ?_
  rw [rounds_succ]
  go_wp2_with fail
  go_at_call 6
  refine (dbs_z _ _ hz).mono ?_
  rintro e w2 ⟨rfl, hb3⟩
  have hB := hA.trans (hb3.mono hA.size)
  clear hb3
  go_wp2_with fail
  go_at_call 7
  refine (lives_row _).mono ?_
  rintro e w3 ⟨rfl, hb3⟩
  have hB := hB.trans (hb3.mono hB.size)
  clear hb3
  go_wp2
  go_ret
  exact ⟨rfl, hB⟩

end Go.Proofs.YtagpkkofjehcnaaGreatDoor
