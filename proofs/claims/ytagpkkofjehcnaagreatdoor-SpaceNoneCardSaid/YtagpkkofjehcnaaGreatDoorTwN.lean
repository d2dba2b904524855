/-
  A list of entries: its copy is left.
-/
import Derived.Test.YtagpkkofjehcnaaGreatDoorTwM
import Derived.StillTailTactics
import Derived.Deep.RegionHeld3
set_option linter.all false
namespace Go.Proofs.YtagpkkofjehcnaaGreatDoor
open Go Go.RowKit

set_option maxHeartbeats 3200000 in
set_option maxRecDepth 100000 in
theorem leftEntries_any (T lo b off len cap : Nat) (ms seq : Nat → Int) (p : Nat → Option Addr) (l c m G : Nat → Nat) (f g : Nat → Nat → ByteArray) (w : World) (hreach : len * 40 ≤ 140737488351232) (hb : b < w.heap.size) (hT : T < w.heap.size)
    (hc : ∀ j, j < len → w.cell? ⟨b, off + j * 3, none⟩ = some (.int .u64 (ms j)) ∧ w.cell? ⟨b, off + j * 3 + 1, none⟩ = some (.int .u64 (seq j)) ∧ w.cell? ⟨b, off + j * 3 + 2, none⟩ = some (.slice (p j) (l j) (c j)))
    (hin : ∀ j, j < len → m j * 32 ≤ 140737488351232 ∧ Row2At w (.slice (p j) (l j) (c j)) (m j) (fun i => .string (f j i)) (fun i => .string (g j i)))
    (ht : ∀ j, j < len → w.cell? ⟨T, j * 3, none⟩ = some (.int .u64 (ms j)) ∧ w.cell? ⟨T, j * 3 + 1, none⟩ = some (.int .u64 (seq j)) ∧ w.cell? ⟨T, j * 3 + 2, none⟩ = some (.slice (some ⟨G j, 0, none⟩) (m j) (m j + 1)))
    (hcp : ∀ j, j < len → cpOf w lo (m j) (f j) (g j) (G j))
    (hs : w.cell? ⟨T, len * 3, none⟩ = some (.int .u64 7777)) (hs2 : w.cell? ⟨T, len * 3 + 1, none⟩ = some (.int .u64 0)) (hs3 : w.cell? ⟨T, len * 3 + 2, none⟩ = some (.slice none 0 0)) :
    Calls Tryz.prog 61 #[.slice (some ⟨T, 0, none⟩) len (len + 1), .slice (some ⟨b, off, none⟩) len cap] w fun e w' =>
      e = .returned (.bool true) ∧ Below w.heap.size w w' := by
  go_enter Tryz.func61, Tryz.ntmps61
  go_wp2
  go_loopw [5] (fun i wr => ∃ k : Nat, k ≤ len ∧ i = .int .i64 k ∧ Below w.heap.size w wr)
    (fun i _ => len - (intOf i).toNat)
  case atStart => exact ⟨0, Nat.zero_le _, rfl, Below.refl _ _⟩
  case round =>
    obtain ⟨k, hk, rfl, hnx⟩ := hrel
    by_cases hlt : k < len
    · have hcx : wr.cell? ⟨b, off + k * 3, none⟩ = some (.int .u64 (ms k)) := (hnx.cell (by exact hb)).trans (hc k hlt).1
      have hcy : wr.cell? ⟨b, off + k * 3 + 1, none⟩ = some (.int .u64 (seq k)) := (hnx.cell (by exact hb)).trans (hc k hlt).2.1
      have hcz : wr.cell? ⟨b, off + k * 3 + 2, none⟩ = some (.slice (p k) (l k) (c k)) := (hnx.cell (by exact hb)).trans (hc k hlt).2.2
      have htx : wr.cell? ⟨T, k * 3, none⟩ = some (.int .u64 (ms k)) := (hnx.cell (by exact hT)).trans (ht k hlt).1
      have hty : wr.cell? ⟨T, k * 3 + 1, none⟩ = some (.int .u64 (seq k)) := (hnx.cell (by exact hT)).trans (ht k hlt).2.1
      have htz : wr.cell? ⟨T, k * 3 + 2, none⟩ = some (.slice (some ⟨G k, 0, none⟩) (m k) (m k + 1)) := (hnx.cell (by exact hT)).trans (ht k hlt).2.2
      go_wp2
      go_still_tail 8, (by kernel_rfl)
      change wpList _ _ _ _ _ wr.drew
      have hB3 : Below w.heap.size w wr.drew := hnx.trans ⟨rfl, rfl, rfl, Nat.le_refl _, fun _ _ => rfl⟩
      clear hcx hcy hcz htx hty htz hnx
      generalize wr.drew = w2 at hB3
      go_wp2_with fail
      go_at_call 110
      refine (leftEntry_row (ms k) (seq k) _ _ lo (m k) (f k) (g k) _ (hin k hlt).1 ((hcp k hlt).below hB3) ((hin k hlt).2.below hB3) ⟨_, _, _, rfl⟩).mono ?_
      rintro e w3 ⟨rfl, hb3⟩
      have hB4 : Below w.heap.size w w3 := hB3.trans (hb3.mono hB3.size)
      clear hB3 hb3
      go_wp2
      exact ⟨⟨k + 1, by omega, by go_num, hB4⟩, by simp [intOf]; omega⟩
    · have hkl : k = len := by omega
      subst hkl
      have hsx : wr.cell? ⟨T, k * 3, none⟩ = some (.int .u64 7777) := (hnx.cell (by exact hT)).trans hs
      have hsy : wr.cell? ⟨T, k * 3 + 1, none⟩ = some (.int .u64 0) := (hnx.cell (by exact hT)).trans hs2
      have hsz : wr.cell? ⟨T, k * 3 + 2, none⟩ = some (.slice none 0 0) := (hnx.cell (by exact hT)).trans hs3
      go_wp2
      go_ret
      exact ⟨rfl, hnx.alloc (by have := hnx.size; omega) _⟩

end Go.Proofs.YtagpkkofjehcnaaGreatDoor
