/-
  LeftTexts: such a copy is still what it was made of.
-/
import Derived.Test.YtagpkkofjehcnaaGreatDoorProg
import Derived.WalkKit
import Derived.OwnWalk
import Derived.LoopTactic
import Derived.Below
import Derived.Deep.QuietTactic
import Derived.BigQuiet
set_option linter.all false
namespace Go.Proofs.YtagpkkofjehcnaaGreatDoor
open Go Go.RowKit

theorem below_drewN (B : Nat) (w : World) (n : Nat) : Below B w (w.drewN n) := ⟨rfl, rfl, rfl, Nat.le_refl _, fun _ _ => rfl⟩

set_option maxHeartbeats 1600000 in
set_option maxRecDepth 100000 in
theorem leftTexts_any (g b off len cap : Nat) (f : Nat → ByteArray) (w : World) (hreach : len * 16 ≤ 140737488351232) (hb : b < w.heap.size) (hg : g < w.heap.size)
    (hc : ∀ j, j < len → w.cell? ⟨b, off + j, none⟩ = some (.string (f j)))
    (ht : ∀ j, j < len → w.cell? ⟨g, j, none⟩ = some (.string (f j))) (hs : w.cell? ⟨g, len, none⟩ = some (.string ⟨#[115, 112, 97, 114, 101]⟩)) :
    Calls Tryz.prog 58 #[.slice (some ⟨g, 0, none⟩) len (len + 1), .slice (some ⟨b, off, none⟩) len cap] w fun e w' =>
      e = .returned (.bool true) ∧ Below w.heap.size w w' := by
  go_enter Tryz.func58, Tryz.ntmps58
  go_wp2
  go_loopw [5] (fun i wr => ∃ k : Nat, k ≤ len ∧ i = .int .i64 k ∧ Below w.heap.size w wr)
    (fun i _ => len - (intOf i).toNat)
  case atStart => exact ⟨0, Nat.zero_le _, rfl, Below.refl _ _⟩
  case round =>
    obtain ⟨k, hk, rfl, hnx⟩ := hrel
    by_cases hlt : k < len
    · have hcx : wr.cell? ⟨b, off + k, none⟩ = some (.string (f k)) := (hnx.cell (by exact hb)).trans (hc k hlt)
      have htx : wr.cell? ⟨g, k, none⟩ = some (.string (f k)) := (hnx.cell (by exact hg)).trans (ht k hlt)
      go_wp2
      go_quiet (fail)
      all_goals (try go_wp2)
      exact ⟨⟨k + 1, by omega, by go_num, hnx.trans (below_drewN _ _ _)⟩, by simp [intOf]; omega⟩
    · have hkl : k = len := by omega
      subst hkl
      have hsx : wr.cell? ⟨g, k, none⟩ = some (.string ⟨#[115, 112, 97, 114, 101]⟩) := (hnx.cell (by exact hg)).trans hs
      go_wp2
      go_ret
      exact ⟨rfl, hnx⟩

end Go.Proofs.YtagpkkofjehcnaaGreatDoor
