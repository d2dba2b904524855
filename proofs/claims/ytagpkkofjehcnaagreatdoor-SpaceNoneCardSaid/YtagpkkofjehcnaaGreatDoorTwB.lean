/-
  TwinPairs: a copy of a list of pairs, in memory of its own, with a mark behind it.
-/
import Derived.Test.YtagpkkofjehcnaaGreatDoorProg
import Derived.WalkKit
import Derived.OwnWalk
import Derived.LoopTactic
import Derived.Below
set_option linter.all false
namespace Go.Proofs.YtagpkkofjehcnaaGreatDoor
open Go Go.RowKit

theorem Tryz.info123 : (Tryz.prog.info? 123).map (fun i => (i.zero, i.size, i.bytes)) = some (some (.agg #[.string ⟨#[]⟩, .string ⟨#[]⟩]), 2, 32) := by kernel_rfl

/-- So many elements of two cells. -/
def upTo2 (f g : Nat → Value) (k : Nat) : List Value := (List.range k).flatMap fun j => [f j, g j]
theorem upTo2_succ (f g : Nat → Value) (k : Nat) : upTo2 f g k ++ [f k, g k] = upTo2 f g (k + 1) := by unfold upTo2; rw [List.range_succ, List.flatMap_append]; simp

set_option maxHeartbeats 1600000 in
set_option maxRecDepth 100000 in
theorem twinPairs_any (b off len cap : Nat) (f g : Nat → ByteArray) (w : World) (hreach : len * 32 ≤ 140737488351232) (hb : b < w.heap.size)
    (hc : ∀ j, j < len → w.cell? ⟨b, off + j * 2, none⟩ = some (.string (f j)) ∧ w.cell? ⟨b, off + j * 2 + 1, none⟩ = some (.string (g j))) :
    Calls Tryz.prog 45 #[.slice (some ⟨b, off, none⟩) len cap] w fun e w' =>
      ∃ t, e = .returned (.slice (some ⟨t, 0, none⟩) len (len + 1)) ∧ w'.ownsRow w.heap.size 123 2 (.slice (some ⟨t, 0, none⟩) (len + 1) (len + 1)) (len + 1) (upTo2 (fun j => .string (f j)) (fun j => .string (g j)) len ++ [.string ⟨#[115, 112, 97, 114, 101]⟩, .string ⟨#[]⟩]) ∧ Below w.heap.size w w' := by
  obtain ⟨i0, hi, hz0, hz1, hz2⟩ := info_parts Tryz.info123
  go_enter Tryz.func45, Tryz.ntmps45
  go_wp2_with (refine wpList_make_own _ rfl _ _ 32 rfl w.heap.size 123 i0 (.agg #[.string ⟨#[]⟩, .string ⟨#[]⟩]) 2 Tryz.underlying32 hi hz0 hz1 .i64 .i64 _ (len + 1) rfl rfl ?c1 ?c2 ?c3 ?c4 ?_)
  case c1 => simp
  case c2 => rw [hz2]; omega
  case c3 => unfold maxLen; omega
  case c4 => exact Nat.le_refl _
  intro w1 hown hgrow
  have hB1 : Below w.heap.size w w1 := (Below.refl _ _).grown hgrow (Nat.le_refl _) (fun k h => by cases h)
  clear hgrow
  go_wp2
  go_loopw [3, 4] (fun t i wr => ∃ k : Nat, k ≤ len ∧ i = .int .i64 k ∧ t = .slice (some ⟨w.heap.size, 0, none⟩) k (len + 1) ∧ wr.ownsRow w.heap.size 123 2 (.slice (some ⟨w.heap.size, 0, none⟩) k (len + 1)) k (upTo2 (fun j => .string (f j)) (fun j => .string (g j)) k) ∧ Below w.heap.size w wr)
    (fun _ i _ => len - (intOf i).toNat)
  case atStart => exact ⟨0, Nat.zero_le _, rfl, rfl, hown, hB1⟩
  case round =>
    obtain ⟨k, hk, rfl, rfl, hown, hnx⟩ := hrel
    have hcx : k < len → wr.cell? ⟨b, off + k * 2, none⟩ = some (.string (f k)) := fun h => (hnx.cell (by exact hb)).trans (hc k h).1
    have hcy : k < len → wr.cell? ⟨b, off + k * 2 + 1, none⟩ = some (.string (g k)) := fun h => (hnx.cell (by exact hb)).trans (hc k h).2
    have hn1 : ∀ (u v : Value) (w' : World), (∀ (j : Nat) z, [u, v][j]? = some z → (w'.alloc (.cells #[u, v] 123)).cell? (Addr.add ⟨w'.heap.size, 0, none⟩ j) = some z) := fun u v w' j z hj => by
      match j, hj with
      | 0, hj => simp at hj; subst hj; simp [Addr.add]
      | 1, hj => simp at hj; subst hj; simp [Addr.add]
    go_wp2_with (first
      | (at_builtin; refine wpList_append_fits _ rfl (.tmp 15) (.tmp 20) 32 rfl w.heap.size 123 i0 2 Tryz.underlying32 hi hz1 w.heap.size k (len + 1) (upTo2 (fun j => .string (f j)) (fun j => .string (g j)) k) rfl (hown.alloc _) ⟨wr.heap.size, 0, none⟩ 1 1 [.string (f k), .string (g k)] rfl rfl (hn1 _ _ _) (fun u hu => (by simp at hu; rcases hu with rfl | rfl <;> rfl)) (by omega) ?_)
      | (at_builtin; refine wpList_append_fits _ rfl (.tmp 22) (.tmp 24) 32 rfl w.heap.size 123 i0 2 Tryz.underlying32 hi hz1 w.heap.size k (len + 1) (upTo2 (fun j => .string (f j)) (fun j => .string (g j)) k) rfl (hown.alloc _) ⟨wr.heap.size, 0, none⟩ 1 1 [.string ⟨#[115, 112, 97, 114, 101]⟩, .string ⟨#[]⟩] rfl rfl (hn1 _ _ _) (fun u hu => (by simp at hu; rcases hu with rfl | rfl <;> rfl)) (by omega) ?_))
    · intro w2 hown2 hgrow2
      have hlt : k < len := by assumption
      have hB2 : Below w.heap.size w w2 := (hnx.alloc (by have := hnx.size; omega) _).grown hgrow2 (by have := hnx.size; simp; omega) (fun k h => by cases h; exact Nat.le_refl _)
      rw [upTo2_succ (fun j => .string (f j)) (fun j => .string (g j)) k] at hown2
      clear hown hgrow2 hnx hcx hcy hn1
      go_wp2
      go_roundw
      case rel => exact ⟨k + 1, by omega, by go_num, rfl, hown2, hB2⟩
      case measure => simp [intOf]; omega
    · intro w2 hown2 hgrow2
      have hge : ¬ k < len := by assumption
      have hkl : k = len := by omega
      have hB2 : Below w.heap.size w w2 := (hnx.alloc (by have := hnx.size; omega) _).grown hgrow2 (by have := hnx.size; simp; omega) (fun k h => by cases h; exact Nat.le_refl _)
      clear hown hgrow2 hnx hcx hcy hn1 hge
      subst hkl
      go_wp2
      go_ret
      exact ⟨_, rfl, hown2, hB2⟩

end Go.Proofs.YtagpkkofjehcnaaGreatDoor
