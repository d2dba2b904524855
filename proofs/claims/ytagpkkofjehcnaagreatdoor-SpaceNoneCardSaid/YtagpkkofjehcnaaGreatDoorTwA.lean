/-
  TwinTexts: a copy of a list of texts, in memory of its own, with a mark behind it.
-/
import Derived.Test.YtagpkkofjehcnaaGreatDoorProg
import Derived.WalkKit
import Derived.OwnWalk
import Derived.LoopTactic
import Derived.Below
set_option linter.all false
namespace Go.Proofs.YtagpkkofjehcnaaGreatDoor
open Go Go.RowKit

theorem Tryz.info9 : (Tryz.prog.info? 9).map (fun i => (i.zero, i.size, i.bytes)) = some (some (.string ⟨#[]⟩), 1, 16) := by kernel_rfl

/-- So many elements of a row. -/
def upTo (f : Nat → Value) (k : Nat) : List Value := (List.range k).map f
theorem upTo_succ (f : Nat → Value) (k : Nat) : upTo f k ++ [f k] = upTo f (k + 1) := by unfold upTo; rw [List.range_succ, List.map_append]; rfl

set_option maxHeartbeats 1600000 in
set_option maxRecDepth 100000 in
theorem twinTexts_any (b off len cap : Nat) (f : Nat → ByteArray) (w : World) (hreach : len * 16 ≤ 140737488351232) (hb : b < w.heap.size)
    (hc : ∀ j, j < len → w.cell? ⟨b, off + j, none⟩ = some (.string (f j))) :
    Calls Tryz.prog 44 #[.slice (some ⟨b, off, none⟩) len cap] w fun e w' =>
      ∃ g, e = .returned (.slice (some ⟨g, 0, none⟩) len (len + 1)) ∧ w'.ownsRow w.heap.size 9 1 (.slice (some ⟨g, 0, none⟩) (len + 1) (len + 1)) (len + 1) (upTo (fun j => .string (f j)) len ++ [.string ⟨#[115, 112, 97, 114, 101]⟩]) ∧ Below w.heap.size w w' := by
  obtain ⟨i0, hi, hz0, hz1, hz2⟩ := info_parts Tryz.info9
  go_enter Tryz.func44, Tryz.ntmps44
  go_wp2_with (refine wpList_make_own _ rfl _ _ 31 rfl w.heap.size 9 i0 (.string ⟨#[]⟩) 1 Tryz.underlying31 hi hz0 hz1 .i64 .i64 _ (len + 1) rfl rfl ?c1 ?c2 ?c3 ?c4 ?_)
  case c1 => simp
  case c2 => rw [hz2]; omega
  case c3 => unfold maxLen; omega
  case c4 => exact Nat.le_refl _
  intro w1 hown hgrow
  have hB1 : Below w.heap.size w w1 := (Below.refl _ _).grown hgrow (Nat.le_refl _) (fun k h => by cases h)
  clear hgrow
  go_wp2
  go_loopw [3, 4] (fun t i wr => ∃ k : Nat, k ≤ len ∧ i = .int .i64 k ∧ t = .slice (some ⟨w.heap.size, 0, none⟩) k (len + 1) ∧ wr.ownsRow w.heap.size 9 1 (.slice (some ⟨w.heap.size, 0, none⟩) k (len + 1)) k (upTo (fun j => .string (f j)) k) ∧ Below w.heap.size w wr)
    (fun _ i _ => len - (intOf i).toNat)
  case atStart => exact ⟨0, Nat.zero_le _, rfl, rfl, hown, hB1⟩
  case round =>
    obtain ⟨k, hk, rfl, rfl, hown, hnx⟩ := hrel
    have hcx : k < len → wr.cell? ⟨b, off + k, none⟩ = some (.string (f k)) := fun h => (hnx.cell (by exact hb)).trans (hc k h)
    have hn1 : ∀ (u : Value) (w' : World), (∀ (j : Nat) v, [u][j]? = some v → (w'.alloc (.cells #[u] 9)).cell? (Addr.add ⟨w'.heap.size, 0, none⟩ j) = some v) := fun u w' j v hj => by
      match j, hj with
      | 0, hj => simp at hj; subst hj; simp [Addr.add]
    go_wp2_with (first
      | (at_builtin; refine wpList_append_fits _ rfl (.tmp 15) (.tmp 20) 31 rfl w.heap.size 9 i0 1 Tryz.underlying31 hi hz1 w.heap.size k (len + 1) (upTo (fun j => .string (f j)) k) rfl (hown.alloc _) ⟨wr.heap.size, 0, none⟩ 1 1 [.string (f k)] rfl rfl (hn1 _ _) (fun u hu => (by simp at hu; subst hu; rfl)) (by omega) ?_)
      | (at_builtin; refine wpList_append_fits _ rfl (.tmp 22) (.tmp 23) 31 rfl w.heap.size 9 i0 1 Tryz.underlying31 hi hz1 w.heap.size k (len + 1) (upTo (fun j => .string (f j)) k) rfl (hown.alloc _) ⟨wr.heap.size, 0, none⟩ 1 1 [.string ⟨#[115, 112, 97, 114, 101]⟩] rfl rfl (hn1 _ _) (fun u hu => (by simp at hu; subst hu; rfl)) (by omega) ?_))
    · intro w2 hown2 hgrow2
      have hlt : k < len := by assumption
      have hB2 : Below w.heap.size w w2 := (hnx.alloc (by have := hnx.size; omega) _).grown hgrow2 (by have := hnx.size; simp; omega) (fun k h => by cases h; exact Nat.le_refl _)
      rw [upTo_succ (fun j => .string (f j)) k] at hown2
      clear hown hgrow2 hnx hcx hn1
      go_wp2
      go_roundw
      case rel => exact ⟨k + 1, by omega, by go_num, rfl, hown2, hB2⟩
      case measure => simp [intOf]; omega
    · intro w2 hown2 hgrow2
      have hge : ¬ k < len := by assumption
      have hkl : k = len := by omega
      have hB2 : Below w.heap.size w w2 := (hnx.alloc (by have := hnx.size; omega) _).grown hgrow2 (by have := hnx.size; simp; omega) (fun k h => by cases h; exact Nat.le_refl _)
      clear hown hgrow2 hnx hcx hn1 hge
      subst hkl
      go_wp2
      go_ret
      exact ⟨_, rfl, hown2, hB2⟩

end Go.Proofs.YtagpkkofjehcnaaGreatDoor
