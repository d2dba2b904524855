/-
  asks, stands, DBs at a Space that was never made, and lives: contracts.
-/
import Derived.Test.YtagpkkofjehcnaaGreatDoorTwX
import Derived.Test.YtagpkkofjehcnaaGreatDoorTwW
set_option linter.all false
namespace Go.Proofs.YtagpkkofjehcnaaGreatDoor
open Go Go.RowKit Go.Ev

theorem few' : Tryz.prog.globals.size ≤ 4999 := of_decide_eq_true (by kernel_rfl)

theorem ask_rel {ρ : Rn} {k : Nat} {cs : List Value} (hl : cs.length = 16) (h : ∀ j v, cs[j]? = some v → VRel ρ (.chan (some (5000 + (j + 1)))) v) (hk : 0 < k) : VRel ρ (askCells (k - 1)) (.agg ⟨.int .u8 k :: cs⟩) := by
  refine .agg (by simp [hl]) ?_
  intro i x y hx hy
  match i, hx, hy with
  | 0, hx, hy =>
    simp at hx hy; subst hx; subst hy
    rw [show ((k - 1 : Nat) : Int) + 1 = (k : Int) by omega]
    exact .int _ _
  | j + 1, hx, hy =>
    have hy' : cs[j]? = some y := by simpa using hy
    have hj : j < 16 := by
      have := (List.getElem?_eq_some_iff.1 hy').1
      omega
    have hx' : x = .chan (some (5000 + (j + 1))) := by
      have : ∀ j, j < 16 → ([.chan (some 5001), .chan (some 5002), .chan (some 5003), .chan (some 5004), .chan (some 5005), .chan (some 5006), .chan (some 5007), .chan (some 5008), .chan (some 5009), .chan (some 5010), .chan (some 5011), .chan (some 5012), .chan (some 5013), .chan (some 5014), .chan (some 5015), .chan (some 5016)] : List Value)[j]? = some (.chan (some (5000 + (j + 1)))) := fun j hj => match j, hj with | 0, _ => rfl | 1, _ => rfl | 2, _ => rfl | 3, _ => rfl | 4, _ => rfl | 5, _ => rfl | 6, _ => rfl | 7, _ => rfl | 8, _ => rfl | 9, _ => rfl | 10, _ => rfl | 11, _ => rfl | 12, _ => rfl | 13, _ => rfl | 14, _ => rfl | 15, _ => rfl | n + 16, h => absurd h (by omega)
      have h2 : ([.chan (some 5001), .chan (some 5002), .chan (some 5003), .chan (some 5004), .chan (some 5005), .chan (some 5006), .chan (some 5007), .chan (some 5008), .chan (some 5009), .chan (some 5010), .chan (some 5011), .chan (some 5012), .chan (some 5013), .chan (some 5014), .chan (some 5015), .chan (some 5016)] : List Value)[j]? = some x := by simpa using hx
      rw [this j hj] at h2
      exact (Option.some.inj h2).symm
    subst hx'
    exact h j y hy'

theorem okNeg {l : List Value} {c i : Nat} {db : Int} (hc : c = 5000 + i) (hi : l[i]? = some (.int .i64 db)) (h : db < 0) : (Cx.sy Tryz.prog 5000 l (orcNeg c)).Ok := by
  refine Cx.sy_ok mixed ?_
  intro en he
  simp only [orcNeg, List.mem_cons, List.not_mem_nil, or_false] at he
  subst he
  exact orc_int (x := db) (by show symsOf 5000 l c = _; unfold symsOf; rw [if_pos (by omega), hc, show 5000 + i - 5000 = i by omega, hi]) rfl rfl ((op_geq _ _ _).trans (by rw [decide_eq_true h]; rfl))
theorem okPos {l : List Value} {c i : Nat} {db : Int} (hc : c = 5000 + i) (hi : l[i]? = some (.int .i64 db)) (h : ¬ db < 0) : (Cx.sy Tryz.prog 5000 l (orcPos c)).Ok := by
  have hs : (Cx.sy Tryz.prog 5000 l (orcPos c)).sym c = some (.int .i64 db) := by show symsOf 5000 l c = _; unfold symsOf; rw [if_pos (by omega), hc, show 5000 + i - 5000 = i by omega, hi]
  refine Cx.sy_ok mixed ?_
  intro en he
  simp only [orcPos, List.mem_cons, List.not_mem_nil, or_false] at he
  rcases he with rfl | rfl
  · exact orc_int (x := db) hs rfl rfl ((op_geq _ _ _).trans (by rw [decide_eq_false h]; rfl))
  · exact orc_int (x := db) hs rfl rfl ((op_lss _ _ _).trans (by rw [decide_eq_false h]))

theorem of_runs {f : Nat → Option (List (Option AObj))} {n : Nat} {x} (h : (List.range n).map f = List.replicate n x) {k : Nat} (hk : k < n) : f k = x := by
  have := congrArg (·[k]?) h
  simpa [hk] using this

theorem zClos : zCells.toList.all clos = true := rfl

set_option maxRecDepth 100000 in
theorem asks_z (z k : Nat) (hk : 0 < k) (hk2 : k < 256) (db : Int) (cs : List Value) (hl : cs.length = 15) (ho : ∀ v ∈ cs, ∀ c, v ≠ .agg c ∧ v ≠ .tuple c) (w : World) (hz : w.heap[z]? = some (.cells zCells 27 (0, 0))) :
    Calls Tryz.prog 4 #[.pointer (some ⟨z, 0, none⟩), .pointer none, .agg ⟨.int .u8 k :: .int .i64 db :: cs⟩] w fun e w' => e = .returned (.bool true) ∧ Below w.heap.size w w' := by
  have hrel : LRel (oneS Tryz.prog.globals.size 4999 z 5000 (.bool true :: .int .i64 db :: cs)) [ptrZ, .pointer none, askCells (k - 1)] [.pointer (some ⟨z, 0, none⟩), .pointer none, .agg ⟨.int .u8 k :: .int .i64 db :: cs⟩] := by
    refine .cons (one_ptr few') (.cons .ptrNil (.cons (ask_rel (by simp [hl]) ?_ hk) (.nil _)))
    intro j v hv
    refine one_sym (i := j + 1) few (by omega) (by simpa using hv) ?_
    match j, hv with
    | 0, hv => simp at hv; subst hv; exact fun _ => ⟨by simp, by simp⟩
    | j + 1, hv => exact ho v (List.mem_of_getElem? (i := j) (by simpa using hv))
  by_cases hdb : db < 0
  · exact calls_one (okNeg (i := 1) rfl rfl hdb) rfl (of_runs (asksZ_neg (.bool true :: .int .i64 db :: cs)) (by omega : k - 1 < 255)) Tryz.func4 rfl hrel few' (by omega) (by simp [hl]) w hz zClos
  · exact calls_one (okPos (i := 1) rfl rfl hdb) rfl (of_runs (asksZ_pos (.bool true :: .int .i64 db :: cs)) (by omega : k - 1 < 255)) Tryz.func4 rfl hrel few' (by omega) (by simp [hl]) w hz zClos

set_option maxRecDepth 100000 in
theorem stands_z (z : Nat) (db : Int) (w : World) (hz : w.heap[z]? = some (.cells zCells 27 (0, 0))) :
    Calls Tryz.prog 5 #[.pointer (some ⟨z, 0, none⟩), .pointer none, .int .i64 db] w fun e w' => e = .returned (.bool true) ∧ Below w.heap.size w w' := by
  have hrel : LRel (oneS Tryz.prog.globals.size 4999 z 5000 [.int .i64 db]) [ptrZ, .pointer none, .chan (some 5000)] [.pointer (some ⟨z, 0, none⟩), .pointer none, .int .i64 db] :=
    .cons (one_ptr few') (.cons .ptrNil (.cons (one_sym (i := 0) few (by omega) rfl (fun _ => ⟨by simp, by simp⟩)) (.nil _)))
  by_cases hdb : db < 0
  · exact calls_one (okNeg (i := 0) rfl rfl hdb) rfl (standsZ_neg [.int .i64 db]) Tryz.func5 rfl hrel few' (by omega) (by simp) w hz zClos
  · exact calls_one (okPos (i := 0) rfl rfl hdb) rfl (standsZ_pos [.int .i64 db]) Tryz.func5 rfl hrel few' (by omega) (by simp) w hz zClos

set_option maxRecDepth 100000 in
theorem dbs_z (z : Nat) (w : World) (hz : w.heap[z]? = some (.cells zCells 27 (0, 0))) :
    Calls Tryz.prog 6 #[.pointer (some ⟨z, 0, none⟩)] w fun e w' => e = .returned (.int .i64 0) ∧ Below w.heap.size w w' :=
  calls_one (Cx.sy_ok mixed (by intro en he; cases he)) rfl (dbsZ []) Tryz.func6 rfl (.cons (one_ptr few') (.nil _)) few' (by omega) (by simp) w hz zClos

set_option maxRecDepth 100000 in
theorem lives_row (w : World) : Calls Tryz.prog 7 #[] w fun e w' => e = .returned (.bool true) ∧ Below w.heap.size w w' :=
  calls_below (Cx.sy_ok mixed (by intro en he; cases he)) rfl (lives_run []) Tryz.func7 rfl (args' := []) (.nil _) few (by simp) w

end Go.Proofs.YtagpkkofjehcnaaGreatDoor
