/-
  Copies of nil lists.
-/
import Derived.Test.YtagpkkofjehcnaaGreatDoorTwA
import Derived.Test.YtagpkkofjehcnaaGreatDoorTwB
import Derived.Test.YtagpkkofjehcnaaGreatDoorTwC
import Derived.Test.YtagpkkofjehcnaaGreatDoorTwD
set_option linter.all false
namespace Go.Proofs.YtagpkkofjehcnaaGreatDoor
open Go Go.RowKit

set_option maxHeartbeats 1600000 in
set_option maxRecDepth 100000 in
theorem twinTexts_nil (q : Option Addr) (w : World) :
    Calls Tryz.prog 44 #[.slice q 0 0] w fun e w' =>
      ∃ g, e = .returned (.slice (some ⟨g, 0, none⟩) 0 1) ∧ w'.ownsRow w.heap.size 9 1 (.slice (some ⟨g, 0, none⟩) 1 1) 1 [.string ⟨#[115, 112, 97, 114, 101]⟩] ∧ Below w.heap.size w w' := by
  obtain ⟨i0, hi, hz0, hz1, hz2⟩ := info_parts Tryz.info9
  go_enter Tryz.func44, Tryz.ntmps44
  go_wp2_with (refine wpList_make_own _ rfl _ _ 31 rfl w.heap.size 9 i0 (.string ⟨#[]⟩) 1 Tryz.underlying31 hi hz0 hz1 .i64 .i64 _ 1 rfl rfl ?c1 ?c2 ?c3 ?c4 ?_)
  case c1 => simp
  case c2 => rw [hz2]; omega
  case c3 => unfold maxLen; omega
  case c4 => exact Nat.le_refl _
  intro w1 hown hgrow
  have hB1 : Below w.heap.size w w1 := (Below.refl _ _).grown hgrow (Nat.le_refl _) (fun k h => by cases h)
  clear hgrow
  have hn1 : ∀ (u : Value) (w' : World), (∀ (j : Nat) v, [u][j]? = some v → (w'.alloc (.cells #[u] 9)).cell? (Addr.add ⟨w'.heap.size, 0, none⟩ j) = some v) := fun u w' j v hj => by
    match j, hj with
    | 0, hj => simp at hj; subst hj; simp [Addr.add]
  go_wp2
  refine wp_loop_rounds 1 ?_
  rw [rounds_succ]
  go_wp2_with (at_builtin; refine wpList_append_fits _ rfl (.tmp 22) (.tmp 23) 31 rfl w.heap.size 9 i0 1 Tryz.underlying31 hi hz1 w.heap.size 0 1 [] rfl (hown.alloc _) ⟨w1.heap.size, 0, none⟩ 1 1 [.string ⟨#[115, 112, 97, 114, 101]⟩] rfl rfl (hn1 _ _) (fun u hu => (by simp at hu; subst hu; rfl)) (by omega) ?_)
  intro w2 hown2 hgrow2
  have hB2 : Below w.heap.size w w2 := (hB1.alloc (by have := hB1.size; omega) _).grown hgrow2 (by have := hB1.size; simp; omega) (fun k h => by cases h; exact Nat.le_refl _)
  clear hown hgrow2 hB1 hn1
  go_wp2
  go_ret
  exact ⟨_, rfl, hown2, hB2⟩

set_option maxHeartbeats 1600000 in
set_option maxRecDepth 100000 in
theorem twinPairs_nil (q : Option Addr) (w : World) :
    Calls Tryz.prog 45 #[.slice q 0 0] w fun e w' =>
      ∃ g, e = .returned (.slice (some ⟨g, 0, none⟩) 0 1) ∧ w'.ownsRow w.heap.size 123 2 (.slice (some ⟨g, 0, none⟩) 1 1) 1 [.string ⟨#[115, 112, 97, 114, 101]⟩, .string ⟨#[]⟩] ∧ Below w.heap.size w w' := by
  obtain ⟨i0, hi, hz0, hz1, hz2⟩ := info_parts Tryz.info123
  go_enter Tryz.func45, Tryz.ntmps45
  go_wp2_with (refine wpList_make_own _ rfl _ _ 32 rfl w.heap.size 123 i0 (.agg #[.string ⟨#[]⟩, .string ⟨#[]⟩]) 2 Tryz.underlying32 hi hz0 hz1 .i64 .i64 _ 1 rfl rfl ?c1 ?c2 ?c3 ?c4 ?_)
  case c1 => simp
  case c2 => rw [hz2]; omega
  case c3 => unfold maxLen; omega
  case c4 => exact Nat.le_refl _
  intro w1 hown hgrow
  have hB1 : Below w.heap.size w w1 := (Below.refl _ _).grown hgrow (Nat.le_refl _) (fun k h => by cases h)
  clear hgrow
  have hn1 : ∀ (u v : Value) (w' : World), (∀ (j : Nat) z, [u, v][j]? = some z → (w'.alloc (.cells #[u, v] 123)).cell? (Addr.add ⟨w'.heap.size, 0, none⟩ j) = some z) := fun u v w' j z hj => by
    match j, hj with
    | 0, hj => simp at hj; subst hj; simp [Addr.add]
    | 1, hj => simp at hj; subst hj; simp [Addr.add]
  go_wp2
  refine wp_loop_rounds 1 ?_
  rw [rounds_succ]
  go_wp2_with (at_builtin; refine wpList_append_fits _ rfl (.tmp 22) (.tmp 24) 32 rfl w.heap.size 123 i0 2 Tryz.underlying32 hi hz1 w.heap.size 0 1 [] rfl (hown.alloc _) ⟨w1.heap.size, 0, none⟩ 1 1 [.string ⟨#[115, 112, 97, 114, 101]⟩, .string ⟨#[]⟩] rfl rfl (hn1 _ _ _) (fun u hu => (by simp at hu; rcases hu with rfl | rfl <;> rfl)) (by omega) ?_)
  intro w2 hown2 hgrow2
  have hB2 : Below w.heap.size w w2 := (hB1.alloc (by have := hB1.size; omega) _).grown hgrow2 (by have := hB1.size; simp; omega) (fun k h => by cases h; exact Nat.le_refl _)
  clear hown hgrow2 hB1 hn1
  go_wp2
  go_ret
  exact ⟨_, rfl, hown2, hB2⟩

set_option maxHeartbeats 1600000 in
set_option maxRecDepth 100000 in
theorem leftTexts_nil (q : Option Addr) (g : Nat) (w : World) (hs : w.cell? ⟨g, 0, none⟩ = some (.string ⟨#[115, 112, 97, 114, 101]⟩)) :
    Calls Tryz.prog 58 #[.slice (some ⟨g, 0, none⟩) 0 1, .slice q 0 0] w fun e w' => e = .returned (.bool true) ∧ Below w.heap.size w w' := by
  go_enter Tryz.func58, Tryz.ntmps58
  go_wp2
  refine wp_loop_rounds 1 ?_
  rw [rounds_succ]
  go_wp2
  go_ret
  exact ⟨rfl, Below.refl _ _⟩

set_option maxHeartbeats 1600000 in
set_option maxRecDepth 100000 in
theorem leftPairs_nil (q : Option Addr) (g : Nat) (w : World) (hs : w.cell? ⟨g, 0, none⟩ = some (.string ⟨#[115, 112, 97, 114, 101]⟩)) (hs2 : w.cell? ⟨g, 1, none⟩ = some (.string ⟨#[]⟩)) :
    Calls Tryz.prog 59 #[.slice (some ⟨g, 0, none⟩) 0 1, .slice q 0 0] w fun e w' => e = .returned (.bool true) ∧ Below w.heap.size w w' := by
  go_enter Tryz.func59, Tryz.ntmps59
  go_wp2
  refine wp_loop_rounds 1 ?_
  rw [rounds_succ]
  go_wp2
  go_ret
  exact ⟨rfl, (Below.refl _ _).alloc (Nat.le_refl _) _⟩

end Go.Proofs.YtagpkkofjehcnaaGreatDoor
