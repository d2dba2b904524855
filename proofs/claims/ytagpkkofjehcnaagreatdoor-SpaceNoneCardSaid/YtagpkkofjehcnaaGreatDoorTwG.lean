/-
  A float is the same as itself; one string is left as it was: contracts of the smallest functions.
-/
import Derived.Test.YtagpkkofjehcnaaGreatDoorProg
import Derived.WalkKit
import Derived.OwnWalk
import Derived.LoopTactic
import Derived.Below
import Derived.Deep.QuietTactic
import Derived.BigQuiet
import Derived.KernelRfl
import Derived.Test.YtagpkkofjehcnaaGreatDoorEvE
import Derived.Test.YtagpkkofjehcnaaGreatDoorEvD
set_option linter.all false
namespace Go.Proofs.YtagpkkofjehcnaaGreatDoor
open Go Go.RowKit

set_option maxHeartbeats 1600000 in
set_option maxRecDepth 100000 in
theorem sameFloat_self (n : Nat) (w : World) : Calls Tryz.prog 158 #[.float .f64 n, .float .f64 n] w fun e w' => e = .returned (.bool true) ∧ w' = w := by
  have hrun : ∀ w, (Go.binOp .neq 124 (.float .f64 n) (.float .f64 n)).run Tryz.prog w = .ok (.bool (!Op.floatEq .f64 n n)) w := fun w => by
    unfold Go.binOp
    first | rfl | (simp [go_sem]; done)
  by_cases h : Op.floatEq .f64 n n = true
  · simp only [h, Bool.not_true] at hrun
    clear h
    have hbits : ∀ w, (callFunc 172 #[.float .f64 n]).run Tryz.prog w = .ok (.value (.int .u64 n)) w := fun w => by
      unfold callFunc
      simp only [Sem.run_bind, run_program, Result.andThen_ok, Tryz.func172]
      rfl
    go_enter Tryz.func158, Tryz.ntmps158
    go_wp2
    go_ret
    exact ⟨rfl, rfl⟩
  · rw [Bool.not_eq_true] at h
    simp only [h, Bool.not_false] at hrun
    clear h
    go_enter Tryz.func158, Tryz.ntmps158
    go_wp2
    go_ret
    exact ⟨rfl, rfl⟩

theorem leftFloat_self (n : Nat) (w : World) : Calls Tryz.prog 157 #[.float .f64 n, .float .f64 n] w fun e w' => e = .returned (.bool true) ∧ w' = w := by
  go_enter Tryz.func157, Tryz.ntmps157
  go_wp2_with (go_at_call 158; refine (sameFloat_self _ _).mono ?_; rintro e w' ⟨rfl, rfl⟩)
  go_ret
  exact ⟨rfl, rfl⟩

theorem few : Tryz.prog.globals.size ≤ 5000 := of_decide_eq_true (by kernel_rfl)
theorem mixed : Tryz.prog.follows .mixedOrders = true := by kernel_rfl
theorem twinScored_run (l : List Value) : Go.Ev.valF (Go.Ev.Cx.sy Tryz.prog 5000 l []) 3000 80 [.agg #[.chan (some 5000), .chan (some 5001)]] 5002 = some (.agg ⟨[0, 1].map fun i => .chan (some (5000 + i))⟩) := by kernel_rfl
theorem twinScored_any (s : ByteArray) (n : Nat) (w : World) : Calls Tryz.prog 80 #[.agg #[.string s, .float .f64 n]] w fun e w' => e = .returned (.agg #[.string s, .float .f64 n]) ∧ Below w.heap.size w w' := by
  refine Go.Ev.calls_cells (l := [.string s, .float .f64 n]) (is := [0, 1]) (Go.Ev.Cx.sy_ok mixed (by intro en he; cases he)) (by simp) (twinScored_run _) Tryz.func80 rfl (args' := [.agg #[.string s, .float .f64 n]]) ?_ few (Nat.le_refl _) w
  refine .cons (Go.Ev.sym_agg (b := 5000) few 0 [.string s, .float .f64 n] (fun i _ => by rw [Nat.zero_add]) ?_) (.nil _)
  intro v hv
  simp only [List.mem_cons, List.not_mem_nil, or_false] at hv
  rcases hv with rfl | rfl <;> exact fun _ => ⟨by simp, by simp⟩

set_option maxHeartbeats 1600000 in
set_option maxRecDepth 100000 in
theorem leftScored_self (s : ByteArray) (n : Nat) (w : World) : Calls Tryz.prog 109 #[.agg #[.string s, .float .f64 n], .agg #[.string s, .float .f64 n]] w fun e w' => e = .returned (.bool true) ∧ Below w.heap.size w w' := by
  go_enter Tryz.func109, Tryz.ntmps109
  go_wp2_with (go_at_call 157; refine (leftFloat_self _ _).mono ?_; rintro e w' ⟨rfl, rfl⟩)
  go_ret
  exact ⟨rfl, ((Below.refl _ _).alloc (Nat.le_refl _) _).alloc (by simp) _⟩

end Go.Proofs.YtagpkkofjehcnaaGreatDoor
