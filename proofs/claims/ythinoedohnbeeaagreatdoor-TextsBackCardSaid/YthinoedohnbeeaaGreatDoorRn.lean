/-
  num.Add: the sum, or that it is beyond 64 bits.
-/
import Derived.Test.YthinoedohnbeeaaGreatDoorProg
import Derived.WalkKit
import Derived.Below
set_option linter.all false
namespace Go.Proofs.YthinoedohnbeeaaGreatDoor
open Go Go.RowKit

set_option maxHeartbeats 1600000 in
theorem add_ok (a b : Int) (w : World) (a0 : -9223372036854775808 ≤ a) (a1 : a ≤ 9223372036854775807) (b0 : -9223372036854775808 ≤ b) (b1 : b ≤ 9223372036854775807) (s0 : -9223372036854775808 ≤ a + b) (s1 : a + b ≤ 9223372036854775807) :
    Calls Tryz.prog 8 #[.int .i64 a, .int .i64 b] w fun e w' => e = .returned (.tuple #[.int .i64 (a + b), .bool true]) ∧ Below w.heap.size w w' := by
  go_enter Tryz.func8, Tryz.ntmps8
  go_wp2
  go_ret2
  exact ⟨rfl, Below.refl _ _⟩

set_option maxHeartbeats 1600000 in
theorem add_over (a b : Int) (w : World) (a0 : -9223372036854775808 ≤ a) (a1 : a ≤ 9223372036854775807) (b0 : -9223372036854775808 ≤ b) (b1 : b ≤ 9223372036854775807) (s : a + b < -9223372036854775808 ∨ 9223372036854775807 < a + b) :
    Calls Tryz.prog 8 #[.int .i64 a, .int .i64 b] w fun e w' => e = .returned (.tuple #[.int .i64 0, .bool false]) ∧ Below w.heap.size w w' := by
  rcases s with s | s
  · have hw : IntKind.i64.wrap (a + b) = a + b + 18446744073709551616 := by
      simp only [IntKind.wrap, IntKind.signed, IntKind.bits]
      first | (simp; omega) | omega
    go_enter Tryz.func8, Tryz.ntmps8
    go_wp2
    all_goals first
      | (go_ret2; exact ⟨rfl, Below.refl _ _⟩)
      | (exfalso; omega)
      | (exfalso; simp at *; omega)
  · have hw : IntKind.i64.wrap (a + b) = a + b - 18446744073709551616 := by
      simp only [IntKind.wrap, IntKind.signed, IntKind.bits]
      first | (simp; omega) | omega
    go_enter Tryz.func8, Tryz.ntmps8
    go_wp2
    all_goals first
      | (go_ret2; exact ⟨rfl, Below.refl _ _⟩)
      | (exfalso; omega)
      | (exfalso; simp at *; omega)

end Go.Proofs.YthinoedohnbeeaaGreatDoor
