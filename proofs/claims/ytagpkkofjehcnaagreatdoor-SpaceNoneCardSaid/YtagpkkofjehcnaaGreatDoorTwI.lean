/-
  Copies of lists of scored members: contracts.
-/
import Derived.Test.YtagpkkofjehcnaaGreatDoorTwG
import Derived.Test.YtagpkkofjehcnaaGreatDoorTwD
import Derived.StillTailTactics
import Derived.Deep.RegionHeld3
set_option linter.all false
namespace Go.Proofs.YtagpkkofjehcnaaGreatDoor
open Go Go.RowKit

@[local go_sem] theorem run_store_float {P : Program} {w : World} {a : Addr} {m : Mode} (k : FloatKind) (x : Nat) : (store a (.float k x) m).run P w = stored P w a (.float k x) m := run_store P w a _ m rfl

set_option maxHeartbeats 1600000 in
set_option maxRecDepth 100000 in
theorem leftScoreds_any (g b off len cap : Nat) (f : Nat → ByteArray) (h : Nat → Nat) (w : World) (hreach : len * 24 ≤ 140737488351232) (hb : b < w.heap.size) (hg : g < w.heap.size)
    (hc : ∀ j, j < len → w.cell? ⟨b, off + j * 2, none⟩ = some (.string (f j)) ∧ w.cell? ⟨b, off + j * 2 + 1, none⟩ = some (.float .f64 (h j)))
    (ht : ∀ j, j < len → w.cell? ⟨g, j * 2, none⟩ = some (.string (f j)) ∧ w.cell? ⟨g, j * 2 + 1, none⟩ = some (.float .f64 (h j)))
    (hs : w.cell? ⟨g, len * 2, none⟩ = some (.string ⟨#[115, 112, 97, 114, 101]⟩)) (hs2 : w.cell? ⟨g, len * 2 + 1, none⟩ = some (.float .f64 0)) :
    Calls Tryz.prog 60 #[.slice (some ⟨g, 0, none⟩) len (len + 1), .slice (some ⟨b, off, none⟩) len cap] w fun e w' =>
      e = .returned (.bool true) ∧ Below w.heap.size w w' := by
  go_enter Tryz.func60, Tryz.ntmps60
  go_wp2
  go_loopw [5] (fun i wr => ∃ k : Nat, k ≤ len ∧ i = .int .i64 k ∧ Below w.heap.size w wr)
    (fun i _ => len - (intOf i).toNat)
  case atStart => exact ⟨0, Nat.zero_le _, rfl, Below.refl _ _⟩
  case round =>
    obtain ⟨k, hk, rfl, hnx⟩ := hrel
    by_cases hlt : k < len
    · have hcx : wr.cell? ⟨b, off + k * 2, none⟩ = some (.string (f k)) := (hnx.cell (by exact hb)).trans (hc k hlt).1
      have hcy : wr.cell? ⟨b, off + k * 2 + 1, none⟩ = some (.float .f64 (h k)) := (hnx.cell (by exact hb)).trans (hc k hlt).2
      have htx : wr.cell? ⟨g, k * 2, none⟩ = some (.string (f k)) := (hnx.cell (by exact hg)).trans (ht k hlt).1
      have hty : wr.cell? ⟨g, k * 2 + 1, none⟩ = some (.float .f64 (h k)) := (hnx.cell (by exact hg)).trans (ht k hlt).2
      go_wp2
      go_still_tail 8, (by kernel_rfl)
      change wpList _ _ _ _ _ wr.drew
      have hB3 : Below w.heap.size w wr.drew := hnx.trans ⟨rfl, rfl, rfl, Nat.le_refl _, fun _ _ => rfl⟩
      clear hcx hcy htx hty hnx
      generalize wr.drew = w2 at hB3
      go_wp2_with fail
      go_at_call 109
      refine (leftScored_self _ _ _).mono ?_
      rintro e w3 ⟨rfl, hb3⟩
      have hB4 : Below w.heap.size w w3 := hB3.trans (hb3.mono hB3.size)
      clear hB3 hb3
      go_wp2
      exact ⟨⟨k + 1, by omega, by go_num, hB4⟩, by simp [intOf]; omega⟩
    · have hkl : k = len := by omega
      subst hkl
      have hsx : wr.cell? ⟨g, k * 2, none⟩ = some (.string ⟨#[115, 112, 97, 114, 101]⟩) := (hnx.cell (by exact hg)).trans hs
      have hsy : wr.cell? ⟨g, k * 2 + 1, none⟩ = some (.float .f64 0) := (hnx.cell (by exact hg)).trans hs2
      go_wp2
      go_ret
      exact ⟨rfl, hnx.alloc (by have := hnx.size; omega) _⟩

end Go.Proofs.YtagpkkofjehcnaaGreatDoor
