/-
  LeftPairs: such a copy of pairs is still what it was made of.
-/
import Derived.Test.YtagpkkofjehcnaaGreatDoorProg
import Derived.WalkKit
import Derived.OwnWalk
import Derived.LoopTactic
import Derived.Below
import Derived.Deep.QuietTactic
import Derived.BigQuiet
set_option linter.all false
namespace Go.Proofs.YtagpkkofjehcnaaGreatDoor
open Go Go.RowKit

theorem below_drewN (B : Nat) (w : World) (n : Nat) : Below B w (w.drewN n) := ⟨rfl, rfl, rfl, Nat.le_refl _, fun _ _ => rfl⟩

set_option maxHeartbeats 1600000 in
set_option maxRecDepth 100000 in
theorem leftPairs_any (g b off len cap : Nat) (f h : Nat → ByteArray) (w : World) (hreach : len * 32 ≤ 140737488351232) (hb : b < w.heap.size) (hg : g < w.heap.size)
    (hc : ∀ j, j < len → w.cell? ⟨b, off + j * 2, none⟩ = some (.string (f j)) ∧ w.cell? ⟨b, off + j * 2 + 1, none⟩ = some (.string (h j)))
    (ht : ∀ j, j < len → w.cell? ⟨g, j * 2, none⟩ = some (.string (f j)) ∧ w.cell? ⟨g, j * 2 + 1, none⟩ = some (.string (h j)))
    (hs : w.cell? ⟨g, len * 2, none⟩ = some (.string ⟨#[115, 112, 97, 114, 101]⟩)) (hs2 : w.cell? ⟨g, len * 2 + 1, none⟩ = some (.string ⟨#[]⟩)) :
    Calls Tryz.prog 59 #[.slice (some ⟨g, 0, none⟩) len (len + 1), .slice (some ⟨b, off, none⟩) len cap] w fun e w' =>
      e = .returned (.bool true) ∧ Below w.heap.size w w' := by
  go_enter Tryz.func59, Tryz.ntmps59
  go_wp2
  go_loopw [5] (fun i wr => ∃ k : Nat, k ≤ len ∧ i = .int .i64 k ∧ Below w.heap.size w wr)
    (fun i _ => len - (intOf i).toNat)
  case atStart => exact ⟨0, Nat.zero_le _, rfl, Below.refl _ _⟩
  case round =>
    obtain ⟨k, hk, rfl, hnx⟩ := hrel
    by_cases hlt : k < len
    · have hcx : wr.cell? ⟨b, off + k * 2, none⟩ = some (.string (f k)) := (hnx.cell (by exact hb)).trans (hc k hlt).1
      have hcy : wr.cell? ⟨b, off + k * 2 + 1, none⟩ = some (.string (h k)) := (hnx.cell (by exact hb)).trans (hc k hlt).2
      have htx : wr.cell? ⟨g, k * 2, none⟩ = some (.string (f k)) := (hnx.cell (by exact hg)).trans (ht k hlt).1
      have hty : wr.cell? ⟨g, k * 2 + 1, none⟩ = some (.string (h k)) := (hnx.cell (by exact hg)).trans (ht k hlt).2
      go_wp2
      go_quiet (fail)
      all_goals (try go_wp2)
      exact ⟨⟨k + 1, by omega, by go_num, hnx.trans (below_drewN _ _ _)⟩, by simp [intOf]; omega⟩
    · have hkl : k = len := by omega
      subst hkl
      have hsx : wr.cell? ⟨g, k * 2, none⟩ = some (.string ⟨#[115, 112, 97, 114, 101]⟩) := (hnx.cell (by exact hg)).trans hs
      have hsy : wr.cell? ⟨g, k * 2 + 1, none⟩ = some (.string ⟨#[]⟩) := (hnx.cell (by exact hg)).trans hs2
      go_wp2
      go_ret
      exact ⟨rfl, by first | exact (hnx.alloc (by have := hnx.size; omega) _)⟩

end Go.Proofs.YtagpkkofjehcnaaGreatDoor
