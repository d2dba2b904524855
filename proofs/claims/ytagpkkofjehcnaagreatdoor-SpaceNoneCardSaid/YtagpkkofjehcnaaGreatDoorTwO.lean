/-
  Copies of lists without elements.
-/
import Derived.Test.YtagpkkofjehcnaaGreatDoorTwN
set_option linter.all false
namespace Go.Proofs.YtagpkkofjehcnaaGreatDoor
open Go Go.RowKit

@[local go_sem] theorem run_store_floatO {P : Program} {w : World} {a : Addr} {m : Mode} (k : FloatKind) (x : Nat) : (store a (.float k x) m).run P w = stored P w a (.float k x) m := run_store P w a _ m rfl

set_option maxHeartbeats 1600000 in
set_option maxRecDepth 100000 in
theorem twinScoreds_nil (q : Option Addr) (w : World) :
    Calls Tryz.prog 46 #[.slice q 0 0] w fun e w' =>
      ∃ g, e = .returned (.slice (some ⟨g, 0, none⟩) 0 1) ∧ w'.ownsRow w.heap.size 126 2 (.slice (some ⟨g, 0, none⟩) 1 1) 1 [.string ⟨#[115, 112, 97, 114, 101]⟩, .float .f64 0] ∧ Below w.heap.size w w' := by
  obtain ⟨i0, hi, hz0, hz1, hz2⟩ := info_parts Tryz.info126
  go_enter Tryz.func46, Tryz.ntmps46
  go_wp2_with (refine wpList_make_own _ rfl _ _ 33 rfl w.heap.size 126 i0 (.agg #[.string ⟨#[]⟩, .float .f64 0]) 2 Tryz.underlying33 hi hz0 hz1 .i64 .i64 _ 1 rfl rfl ?c1 ?c2 ?c3 ?c4 ?_)
  case c1 => simp
  case c2 => rw [hz2]; omega
  case c3 => unfold maxLen; omega
  case c4 => exact Nat.le_refl _
  intro w1 hown hgrow
  have hB1 : Below w.heap.size w w1 := (Below.refl _ _).grown hgrow (Nat.le_refl _) (fun k h => by cases h)
  clear hgrow
  have hn1 : ∀ (u v : Value) (w' : World), (∀ (j : Nat) z, [u, v][j]? = some z → (w'.alloc (.cells #[u, v] 126)).cell? (Addr.add ⟨w'.heap.size, 0, none⟩ j) = some z) := fun u v w' j z hj => by
    match j, hj with
    | 0, hj => simp at hj; subst hj; simp [Addr.add]
    | 1, hj => simp at hj; subst hj; simp [Addr.add]
  go_wp2
  refine wp_loop_rounds 1 ?_
  rw [rounds_succ]
  go_wp2_with (at_builtin; refine wpList_append_fits _ rfl (.tmp 23) (.tmp 25) 33 rfl w.heap.size 126 i0 2 Tryz.underlying33 hi hz1 w.heap.size 0 1 [] rfl (hown.alloc _) ⟨w1.heap.size, 0, none⟩ 1 1 [.string ⟨#[115, 112, 97, 114, 101]⟩, .float .f64 0] rfl rfl (hn1 _ _ _) (fun u hu => (by simp at hu; rcases hu with rfl | rfl <;> rfl)) (by omega) ?_)
  intro w2 hown2 hgrow2
  have hB2 : Below w.heap.size w w2 := (hB1.alloc (by have := hB1.size; omega) _).grown hgrow2 (by have := hB1.size; simp; omega) (fun k h => by cases h; exact Nat.le_refl _)
  clear hown hgrow2 hB1 hn1
  go_wp2
  go_ret
  exact ⟨_, rfl, hown2, hB2⟩

set_option maxHeartbeats 1600000 in
set_option maxRecDepth 100000 in
theorem leftScoreds_nil (q : Option Addr) (g : Nat) (w : World) (hs : w.cell? ⟨g, 0, none⟩ = some (.string ⟨#[115, 112, 97, 114, 101]⟩)) (hs2 : w.cell? ⟨g, 1, none⟩ = some (.float .f64 0)) :
    Calls Tryz.prog 60 #[.slice (some ⟨g, 0, none⟩) 0 1, .slice q 0 0] w fun e w' => e = .returned (.bool true) ∧ Below w.heap.size w w' := by
  go_enter Tryz.func60, Tryz.ntmps60
  go_wp2
  refine wp_loop_rounds 1 ?_
  rw [rounds_succ]
  go_wp2
  go_ret
  exact ⟨rfl, (Below.refl _ _).alloc (Nat.le_refl _) _⟩

set_option maxHeartbeats 1600000 in
set_option maxRecDepth 100000 in
theorem twinEntries_nil (q : Option Addr) (w : World) :
    Calls Tryz.prog 47 #[.slice q 0 0] w fun e w' =>
      e = .returned (.slice (some ⟨w.heap.size, 0, none⟩) 0 1) ∧ w'.ownsRow w.heap.size 129 3 (.slice (some ⟨w.heap.size, 0, none⟩) 1 1) 1 [.int .u64 7777, .int .u64 0, .slice none 0 0] ∧ Below w.heap.size w w' := by
  obtain ⟨i0, hi, hz0, hz1, hz2⟩ := info_parts Tryz.info129
  go_enter Tryz.func47, Tryz.ntmps47
  go_wp2_with (refine wpList_make_own _ rfl _ _ 34 rfl w.heap.size 129 i0 (.agg #[.int .u64 0, .int .u64 0, .slice none 0 0]) 3 Tryz.underlying34 hi hz0 hz1 .i64 .i64 _ 1 rfl rfl ?c1 ?c2 ?c3 ?c4 ?_)
  case c1 => simp
  case c2 => rw [hz2]; omega
  case c3 => unfold maxLen; omega
  case c4 => exact Nat.le_refl _
  intro w1 hown hgrow
  have hB1 : Below w.heap.size w w1 := (Below.refl _ _).grown hgrow (Nat.le_refl _) (fun k h => by cases h)
  clear hgrow
  have hn1 : ∀ (u v x : Value) (w' : World), (∀ (j : Nat) z, [u, v, x][j]? = some z → (w'.alloc (.cells #[u, v, x] 129)).cell? (Addr.add ⟨w'.heap.size, 0, none⟩ j) = some z) := fun u v x w' j z hj => by
    match j, hj with
    | 0, hj => simp at hj; subst hj; simp [Addr.add]
    | 1, hj => simp at hj; subst hj; simp [Addr.add]
    | 2, hj => simp at hj; subst hj; simp [Addr.add]
  go_wp2
  refine wp_loop_rounds 1 ?_
  rw [rounds_succ]
  go_wp2_with (at_builtin; refine wpList_append_fits _ rfl (.tmp 23) (.tmp 26) 34 rfl w.heap.size 129 i0 3 Tryz.underlying34 hi hz1 w.heap.size 0 1 [] rfl (hown.alloc _) ⟨w1.heap.size, 0, none⟩ 1 1 [.int .u64 7777, .int .u64 0, .slice none 0 0] rfl rfl (hn1 _ _ _ _) (fun u hu => (by simp at hu; rcases hu with rfl | rfl | rfl <;> rfl)) (by omega) ?_)
  intro w2 hown2 hgrow2
  have hB2 : Below w.heap.size w w2 := (hB1.alloc (by have := hB1.size; omega) _).grown hgrow2 (by have := hB1.size; simp; omega) (fun k h => by cases h; exact Nat.le_refl _)
  clear hown hgrow2 hB1 hn1
  go_wp2
  go_ret
  exact ⟨rfl, hown2, hB2⟩

set_option maxHeartbeats 1600000 in
set_option maxRecDepth 100000 in
theorem leftEntries_nil (q : Option Addr) (g : Nat) (w : World) (hs : w.cell? ⟨g, 0, none⟩ = some (.int .u64 7777)) (hs2 : w.cell? ⟨g, 1, none⟩ = some (.int .u64 0)) (hs3 : w.cell? ⟨g, 2, none⟩ = some (.slice none 0 0)) :
    Calls Tryz.prog 61 #[.slice (some ⟨g, 0, none⟩) 0 1, .slice q 0 0] w fun e w' => e = .returned (.bool true) ∧ Below w.heap.size w w' := by
  go_enter Tryz.func61, Tryz.ntmps61
  go_wp2
  refine wp_loop_rounds 1 ?_
  rw [rounds_succ]
  go_wp2
  go_ret
  exact ⟨rfl, (Below.refl _ _).alloc (Nat.le_refl _) _⟩

end Go.Proofs.YtagpkkofjehcnaaGreatDoor
