/-
  Copies of lists of pairs are as they were: contracts.
-/
import Derived.Test.YtagpkkofjehcnaaGreatDoorTwG
import Derived.Test.YtagpkkofjehcnaaGreatDoorTwB
import Derived.Laws.OwnMore
set_option linter.all false
namespace Go.Proofs.YtagpkkofjehcnaaGreatDoor
open Go Go.RowKit

theorem grown_of_below {w w' : World} (h : Below w.heap.size w w') : w.grownBy w' none := ⟨h.os, h.tape, h.output, h.size, fun k hk _ => h.block k hk⟩

theorem Tryz.info126 : (Tryz.prog.info? 126).map (fun i => (i.zero, i.size, i.bytes)) = some (some (.agg #[.string ⟨#[]⟩, .float .f64 0]), 2, 24) := by kernel_rfl

set_option maxHeartbeats 1600000 in
set_option maxRecDepth 100000 in
theorem twinScoreds_any (b off len cap : Nat) (f : Nat → ByteArray) (g : Nat → Nat) (w : World) (hreach : len * 24 ≤ 140737488351232) (hb : b < w.heap.size)
    (hc : ∀ j, j < len → w.cell? ⟨b, off + j * 2, none⟩ = some (.string (f j)) ∧ w.cell? ⟨b, off + j * 2 + 1, none⟩ = some (.float .f64 (g j))) :
    Calls Tryz.prog 46 #[.slice (some ⟨b, off, none⟩) len cap] w fun e w' =>
      ∃ t, e = .returned (.slice (some ⟨t, 0, none⟩) len (len + 1)) ∧ w'.ownsRow w.heap.size 126 2 (.slice (some ⟨t, 0, none⟩) (len + 1) (len + 1)) (len + 1) (upTo2 (fun j => .string (f j)) (fun j => .float .f64 (g j)) len ++ [.string ⟨#[115, 112, 97, 114, 101]⟩, .float .f64 0]) ∧ Below w.heap.size w w' := by
  obtain ⟨i0, hi, hz0, hz1, hz2⟩ := info_parts Tryz.info126
  go_enter Tryz.func46, Tryz.ntmps46
  go_wp2_with (refine wpList_make_own _ rfl _ _ 33 rfl w.heap.size 126 i0 (.agg #[.string ⟨#[]⟩, .float .f64 0]) 2 Tryz.underlying33 hi hz0 hz1 .i64 .i64 _ (len + 1) rfl rfl ?c1 ?c2 ?c3 ?c4 ?_)
  case c1 => simp
  case c2 => rw [hz2]; omega
  case c3 => unfold maxLen; omega
  case c4 => exact Nat.le_refl _
  intro w1 hown hgrow
  have hB1 : Below w.heap.size w w1 := (Below.refl _ _).grown hgrow (Nat.le_refl _) (fun k h => by cases h)
  clear hgrow
  go_wp2
  go_loopw [3, 4] (fun t i wr => ∃ k : Nat, k ≤ len ∧ i = .int .i64 k ∧ t = .slice (some ⟨w.heap.size, 0, none⟩) k (len + 1) ∧ wr.ownsRow w.heap.size 126 2 (.slice (some ⟨w.heap.size, 0, none⟩) k (len + 1)) k (upTo2 (fun j => .string (f j)) (fun j => .float .f64 (g j)) k) ∧ Below w.heap.size w wr)
    (fun _ i _ => len - (intOf i).toNat)
  case atStart => exact ⟨0, Nat.zero_le _, rfl, rfl, hown, hB1⟩
  case round =>
    obtain ⟨k, hk, rfl, rfl, hown, hnx⟩ := hrel
    have hn1 : ∀ (u v : Value) (w' : World), (∀ (j : Nat) z, [u, v][j]? = some z → (w'.alloc (.cells #[u, v] 126)).cell? (Addr.add ⟨w'.heap.size, 0, none⟩ j) = some z) := fun u v w' j z hj => by
      match j, hj with
      | 0, hj => simp at hj; subst hj; simp [Addr.add]
      | 1, hj => simp at hj; subst hj; simp [Addr.add]
    by_cases hlt : k < len
    · have hcx : wr.cell? ⟨b, off + k * 2, none⟩ = some (.string (f k)) := (hnx.cell (by exact hb)).trans (hc k hlt).1
      have hcy : wr.cell? ⟨b, off + k * 2 + 1, none⟩ = some (.float .f64 (g k)) := (hnx.cell (by exact hb)).trans (hc k hlt).2
      go_wp2_with fail
      go_at_call 80
      refine (twinScored_any _ _ _).mono ?_
      rintro e w3 ⟨rfl, hb3⟩
      have hown3 := hown.kept (grown_of_below hb3) (.inr (by simp [Value.ownBlock]))
      have hnx3 : Below w.heap.size w w3 := hnx.trans (hb3.mono hnx.size)
      clear hown hnx hb3 hcx hcy
      go_wp2_with (at_builtin; refine wpList_append_fits _ rfl (.tmp 15) (.tmp 21) 33 rfl w.heap.size 126 i0 2 Tryz.underlying33 hi hz1 w.heap.size k (len + 1) (upTo2 (fun j => .string (f j)) (fun j => .float .f64 (g j)) k) rfl (hown3.alloc _) ⟨w3.heap.size, 0, none⟩ 1 1 [.string (f k), .float .f64 (g k)] rfl rfl (hn1 _ _ _) (fun u hu => (by simp at hu; rcases hu with rfl | rfl <;> rfl)) (by omega) ?_)
      intro w2 hown2 hgrow2
      have hB2 : Below w.heap.size w w2 := (hnx3.alloc (by have := hnx3.size; omega) _).grown hgrow2 (by have := hnx3.size; simp; omega) (fun k h => by cases h; exact Nat.le_refl _)
      rw [upTo2_succ (fun j => .string (f j)) (fun j => .float .f64 (g j)) k] at hown2
      clear hown3 hgrow2 hnx3 hn1
      go_wp2
      go_roundw
      case rel => exact ⟨k + 1, by omega, by go_num, rfl, hown2, hB2⟩
      case measure => simp [intOf]; omega
    · have hkl : k = len := by omega
      subst hkl
      go_wp2_with (at_builtin; refine wpList_append_fits _ rfl (.tmp 23) (.tmp 25) 33 rfl w.heap.size 126 i0 2 Tryz.underlying33 hi hz1 w.heap.size k (k + 1) (upTo2 (fun j => .string (f j)) (fun j => .float .f64 (g j)) k) rfl (hown.alloc _) ⟨wr.heap.size, 0, none⟩ 1 1 [.string ⟨#[115, 112, 97, 114, 101]⟩, .float .f64 0] rfl rfl (hn1 _ _ _) (fun u hu => (by simp at hu; rcases hu with rfl | rfl <;> rfl)) (by omega) ?_)
      intro w2 hown2 hgrow2
      have hB2 : Below w.heap.size w w2 := (hnx.alloc (by have := hnx.size; omega) _).grown hgrow2 (by have := hnx.size; simp; omega) (fun k h => by cases h; exact Nat.le_refl _)
      clear hown hgrow2 hnx hn1
      go_wp2
      go_ret
      exact ⟨_, rfl, hown2, hB2⟩

end Go.Proofs.YtagpkkofjehcnaaGreatDoor
