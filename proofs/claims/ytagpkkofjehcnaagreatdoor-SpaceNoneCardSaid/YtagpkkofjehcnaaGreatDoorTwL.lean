/-
  What is kept of the copies of entries.
-/
import Derived.Test.YtagpkkofjehcnaaGreatDoorTwK
set_option linter.all false
namespace Go.Proofs.YtagpkkofjehcnaaGreatDoor
open Go Go.RowKit

set_option maxHeartbeats 1600000 in
set_option maxRecDepth 100000 in
theorem leftEntry_row (ms seq : Int) (t v : Value) (lo n : Nat) (f g : Nat → ByteArray) (w : World) (hreach : n * 32 ≤ 140737488351232) (ht : Copy2At w lo t n (fun j => .string (f j)) (fun j => .string (g j)) (.string ⟨#[115, 112, 97, 114, 101]⟩) (.string ⟨#[]⟩))
    (h : Row2At w v n (fun j => .string (f j)) (fun j => .string (g j))) (hv : ∃ p l c, v = .slice p l c) :
    Calls Tryz.prog 110 #[.agg #[.int .u64 ms, .int .u64 seq, t], .agg #[.int .u64 ms, .int .u64 seq, v]] w fun e w' => e = .returned (.bool true) ∧ Below w.heap.size w w' := by
  obtain ⟨p, l, c, rfl⟩ := hv
  obtain ⟨tp, rfl⟩ : ∃ tg, t = .slice (some ⟨tg, 0, none⟩) n (n + 1) := by
    obtain ⟨g, hg, _⟩ := ht
    exact ⟨g, hg⟩
  go_enter Tryz.func110, Tryz.ntmps110
  have hA : Below w.heap.size w ((w.alloc (.cells #[.int .u64 ms, .int .u64 seq, .slice (some ⟨tp, 0, none⟩) n (n + 1)] 129)).alloc (.cells #[.int .u64 ms, .int .u64 seq, .slice p l c] 129)) := ((Below.refl _ _).alloc (Nat.le_refl _) _).alloc (by simp) _
  go_wp2_with fail
  go_at_call 59
  refine (leftPairs_row _ _ lo n f g _ hreach (ht.below hA) (h.below hA)).mono ?_
  rintro e w3 ⟨rfl, hb3⟩
  have hB : Below w.heap.size w w3 := hA.trans (hb3.mono (by simp; omega))
  go_wp2
  go_ret
  exact ⟨rfl, hB⟩

end Go.Proofs.YtagpkkofjehcnaaGreatDoor
