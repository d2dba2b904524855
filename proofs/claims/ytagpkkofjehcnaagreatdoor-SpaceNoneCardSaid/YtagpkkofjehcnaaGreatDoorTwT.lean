/-
  asks and stands at a Space that is not there: all kinds but Put, by the evaluator.
-/
import Derived.Test.YtagpkkofjehcnaaGreatDoorTwG
set_option linter.all false
namespace Go.Proofs.YtagpkkofjehcnaaGreatDoor
open Go Go.RowKit

def saysTrue (o : Option Value) : Bool := match o with | some (.bool true) => true | _ => false
theorem of_saysTrue {o : Option Value} (h : saysTrue o = true) : o = some (.bool true) := by
  unfold saysTrue at h
  split at h
  · rfl
  · cases h

/-- All kinds but Put, at a Space that is not there. -/
theorem asks_runs (l : List Value) : ((List.range 255).all fun k => saysTrue (Go.Ev.valF (Go.Ev.Cx.sy Tryz.prog 5000 l []) 3000 4 [.pointer none, .pointer none, .agg #[.int .u8 ((k + 1 : Nat) : Int), .chan (some 5001), .chan (some 5002), .chan (some 5003), .chan (some 5004), .chan (some 5005), .chan (some 5006), .chan (some 5007), .chan (some 5008), .chan (some 5009), .chan (some 5010), .chan (some 5011), .chan (some 5012), .chan (some 5013), .chan (some 5014), .chan (some 5015), .chan (some 5016)]] 5020)) = true := by kernel_rfl
theorem stands_run (l : List Value) : Go.Ev.valF (Go.Ev.Cx.sy Tryz.prog 5000 l []) 3000 5 [.pointer none, .pointer none, .chan (some 5000)] 5020 = some (.bool true) := by kernel_rfl

set_option maxRecDepth 100000 in
theorem asks_nil (k : Nat) (hk : 0 < k) (hk2 : k < 256) (cs : List Value) (hl : cs.length = 16) (ho : ∀ v ∈ cs, ∀ c, v ≠ .agg c ∧ v ≠ .tuple c) (w : World) :
    Calls Tryz.prog 4 #[.pointer none, .pointer none, .agg ⟨.int .u8 k :: cs⟩] w fun e w' => e = .returned (.bool true) ∧ Below w.heap.size w w' := by
  have hall := asks_runs (.bool true :: cs)
  rw [List.all_eq_true] at hall
  have hrun := of_saysTrue (hall (k - 1) (List.mem_range.2 (by omega)))
  rw [show ((k - 1 + 1 : Nat) : Int) = (k : Int) by congr 1; omega] at hrun
  refine Go.Ev.calls_below (Go.Ev.Cx.sy_ok mixed (by intro en he; cases he)) rfl hrun Tryz.func4 rfl (args' := [.pointer none, .pointer none, .agg ⟨.int .u8 k :: cs⟩]) ?_ few (by simp [hl]) w
  refine .cons .ptrNil (.cons .ptrNil (.cons (.agg (by simp [hl]) ?_) (.nil _)))
  intro i x y hx hy
  match i, hx, hy with
  | 0, hx, hy => simp at hx hy; subst hx; subst hy; exact .int _ _
  | j + 1, hx, hy =>
    have hy' : cs[j]? = some y := by simpa using hy
    have hj : j < 16 := by
      have := (List.getElem?_eq_some_iff.1 hy').1
      omega
    have hx' : x = .chan (some (5000 + (j + 1))) := by
      have : ∀ j, j < 16 → ([.chan (some 5001), .chan (some 5002), .chan (some 5003), .chan (some 5004), .chan (some 5005), .chan (some 5006), .chan (some 5007), .chan (some 5008), .chan (some 5009), .chan (some 5010), .chan (some 5011), .chan (some 5012), .chan (some 5013), .chan (some 5014), .chan (some 5015), .chan (some 5016)] : List Value)[j]? = some (.chan (some (5000 + (j + 1)))) := fun j hj => match j, hj with | 0, _ => rfl | 1, _ => rfl | 2, _ => rfl | 3, _ => rfl | 4, _ => rfl | 5, _ => rfl | 6, _ => rfl | 7, _ => rfl | 8, _ => rfl | 9, _ => rfl | 10, _ => rfl | 11, _ => rfl | 12, _ => rfl | 13, _ => rfl | 14, _ => rfl | 15, _ => rfl | n + 16, h => absurd h (by omega)
      have h2 : ([.chan (some 5001), .chan (some 5002), .chan (some 5003), .chan (some 5004), .chan (some 5005), .chan (some 5006), .chan (some 5007), .chan (some 5008), .chan (some 5009), .chan (some 5010), .chan (some 5011), .chan (some 5012), .chan (some 5013), .chan (some 5014), .chan (some 5015), .chan (some 5016)] : List Value)[j]? = some x := by simpa using hx
      rw [this j hj] at h2
      exact (Option.some.inj h2).symm
    subst hx'
    exact Go.Ev.sym_rel few (by simpa using hy') (ho y (List.mem_of_getElem? hy'))

theorem stands_nil (db : Value) (ho : ∀ c, db ≠ .agg c ∧ db ≠ .tuple c) (w : World) : Calls Tryz.prog 5 #[.pointer none, .pointer none, db] w fun e w' => e = .returned (.bool true) ∧ Below w.heap.size w w' := by
  refine Go.Ev.calls_below (Go.Ev.Cx.sy_ok mixed (by intro en he; cases he)) rfl (stands_run [db]) Tryz.func5 rfl (args' := [.pointer none, .pointer none, db]) ?_ few (by simp) w
  exact .cons .ptrNil (.cons .ptrNil (.cons (Go.Ev.sym_rel (i := 0) few rfl ho) (.nil _)))

end Go.Proofs.YtagpkkofjehcnaaGreatDoor
