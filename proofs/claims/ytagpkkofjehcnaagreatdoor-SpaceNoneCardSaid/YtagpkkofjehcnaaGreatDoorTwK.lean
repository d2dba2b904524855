/-
  One entry of a stream: its copy and that the copy is left.
-/
import Derived.Test.YtagpkkofjehcnaaGreatDoorTwJ
import Derived.StillTailTactics
import Derived.Deep.RegionWith
set_option linter.all false
namespace Go.Proofs.YtagpkkofjehcnaaGreatDoor
open Go Go.RowKit

theorem size135 : (Tryz.prog.info? 129).map (·.size) = some 3 := by kernel_rfl

theorem store135v (w : World) (b : Nat) (ms seq : Int) (p : Option Addr) (l c : Nat) (hb : w.heap[b]? = some (.cells #[.int .u64 0, .int .u64 0, .slice none 0 0] 129)) :
    (storeVar 129 ⟨b, 0, none⟩ (.agg #[.int .u64 ms, .int .u64 seq, .slice p l c])).run Tryz.prog w = .ok () (w.setRow b #[.int .u64 ms, .int .u64 seq, .slice p l c]) :=
  run_storeVar_row (P := Tryz.prog) w b 129 129 #[.int .u64 0, .int .u64 0, .slice none 0 0] _ hb size135 rfl (by simp [Value.oneCell'])

theorem store135 (w : World) (b : Nat) (ms seq : Int) (p : Option Addr) (l c : Nat) (hb : w.heap[b]? = some (.cells #[.int .u64 0, .int .u64 0, .slice none 0 0] 129)) :
    (Instr.storeAt 129 (.pointer (some ⟨b, 0, none⟩)) (.agg #[.int .u64 ms, .int .u64 seq, .slice p l c])).run Tryz.prog w = .ok () (w.setRow b #[.int .u64 ms, .int .u64 seq, .slice p l c]) := by
  simp only [Instr.storeAt, Instr.sureAddr, Sem.run_bind, Sem.run_pure, Result.andThen_ok, store135v w b ms seq p l c hb]

theorem cells135 (w : World) (b : Nat) (hb : w.heap[b]? = some (.cells #[.int .u64 0, .int .u64 0, .slice none 0 0] 129)) :
    w.cell? ⟨b, 0, none⟩ = some (.int .u64 0) ∧ w.cell? ⟨b, 1, none⟩ = some (.int .u64 0) ∧ w.cell? ⟨b, 2, none⟩ = some (.slice none 0 0) ∧ w.frozen? ⟨b, 0, none⟩ = false ∧ w.frozen? ⟨b, 1, none⟩ = false ∧ w.frozen? ⟨b, 2, none⟩ = false := by
  simp [World.cell?, World.frozen?, hb]

theorem set3_cell (w : World) (b : Nat) (u v x : Value) (p : Addr) (hp : p.block ≠ b) : (((w.setCell ⟨b, 0, none⟩ u).setCell ⟨b, 1, none⟩ v).setCell ⟨b, 2, none⟩ x).cell? p = w.cell? p := by
  refine World.cell?_of_block ?_
  rw [Below.heap_setCell _ _ _ _ hp, Below.heap_setCell _ _ _ _ hp, Below.heap_setCell _ _ _ _ hp]

theorem set3_heap (w : World) (b : Nat) (o1 o2 o3 u v x : Value) (ty : TypeId) (hb : w.heap[b]? = some (.cells #[o1, o2, o3] ty)) : (((w.setCell ⟨b, 0, none⟩ u).setCell ⟨b, 1, none⟩ v).setCell ⟨b, 2, none⟩ x).heap[b]? = some (.cells #[u, v, x] ty) := by
  simp [World.setCell, Array.getElem?_modify, hb]

theorem copy2_set3 {w : World} {lo v n x y sx sy} (h : Copy2At w lo v n x y sx sy) (b : Nat) (hb : b < lo) (lo' : Nat) (hlo' : lo' ≤ lo) (u1 u2 u3 : Value) : Copy2At (((w.setCell ⟨b, 0, none⟩ u1).setCell ⟨b, 1, none⟩ u2).setCell ⟨b, 2, none⟩ u3) lo' v n x y sx sy := by
  obtain ⟨g, hv, hlo, hlt, hc, hs, hs2⟩ := h
  refine ⟨g, hv, by omega, by simpa [World.setCell] using hlt, fun j hj => ⟨?_, ?_⟩, ?_, ?_⟩
  · rw [set3_cell _ _ _ _ _ _ (by simp; omega)]; exact (hc j hj).1
  · rw [set3_cell _ _ _ _ _ _ (by simp; omega)]; exact (hc j hj).2
  · rw [set3_cell _ _ _ _ _ _ (by simp; omega)]; exact hs
  · rw [set3_cell _ _ _ _ _ _ (by simp; omega)]; exact hs2

set_option maxHeartbeats 1600000 in
set_option maxRecDepth 100000 in
theorem twinEntry_row (ms seq : Int) (v : Value) (n : Nat) (f g : Nat → ByteArray) (w : World) (hreach : n * 32 ≤ 140737488351232) (h : Row2At w v n (fun j => .string (f j)) (fun j => .string (g j))) (hv : ∃ p l c, v = .slice p l c) :
    Calls Tryz.prog 81 #[.agg #[.int .u64 ms, .int .u64 seq, v]] w fun e w' =>
      ∃ t, e = .returned (.agg #[.int .u64 ms, .int .u64 seq, t]) ∧ Copy2At w' w.heap.size t n (fun j => .string (f j)) (fun j => .string (g j)) (.string ⟨#[115, 112, 97, 114, 101]⟩) (.string ⟨#[]⟩) ∧ Below w.heap.size w w' := by
  obtain ⟨p, l, c, rfl⟩ := hv
  go_enter Tryz.func81, Tryz.ntmps81
  go_wp2_with fail
  have hA : Below w.heap.size w ((w.alloc (.cells #[.int .u64 ms, .int .u64 seq, .slice p l c] 129)).alloc (.cells #[.int .u64 0, .int .u64 0, .slice none 0 0] 129)) := ((Below.refl _ _).alloc (Nat.le_refl _) _).alloc (by simp) _
  have h0 : ((w.alloc (.cells #[.int .u64 ms, .int .u64 seq, .slice p l c] 129)).alloc (.cells #[.int .u64 0, .int .u64 0, .slice none 0 0] 129)).cell? ⟨w.heap.size, 0, none⟩ = some (.int .u64 ms) := by simp [World.cell?_alloc_past, World.cell?_alloc_at]
  have h1 : ((w.alloc (.cells #[.int .u64 ms, .int .u64 seq, .slice p l c] 129)).alloc (.cells #[.int .u64 0, .int .u64 0, .slice none 0 0] 129)).cell? ⟨w.heap.size, 1, none⟩ = some (.int .u64 seq) := by simp [World.cell?_alloc_past, World.cell?_alloc_at]
  have h2 : ((w.alloc (.cells #[.int .u64 ms, .int .u64 seq, .slice p l c] 129)).alloc (.cells #[.int .u64 0, .int .u64 0, .slice none 0 0] 129)).cell? ⟨w.heap.size, 2, none⟩ = some (.slice p l c) := by simp [World.cell?_alloc_past, World.cell?_alloc_at]
  have hsz : ((w.alloc (.cells #[.int .u64 ms, .int .u64 seq, .slice p l c] 129)).alloc (.cells #[.int .u64 0, .int .u64 0, .slice none 0 0] 129)).heap.size = w.heap.size + 2 := by simp
  have g0 : ((w.alloc (.cells #[.int .u64 ms, .int .u64 seq, .slice p l c] 129)).alloc (.cells #[.int .u64 0, .int .u64 0, .slice none 0 0] 129)).heap[w.heap.size + 1]? = some (.cells #[.int .u64 0, .int .u64 0, .slice none 0 0] 129) := by
    show ((w.alloc _).heap.push _)[_]? = _
    rw [show w.heap.size + 1 = (w.alloc (.cells #[.int .u64 ms, .int .u64 seq, .slice p l c] 129)).heap.size by simp]
    exact Array.getElem?_push_size
  generalize ((w.alloc (.cells #[.int .u64 ms, .int .u64 seq, .slice p l c] 129)).alloc (.cells #[.int .u64 0, .int .u64 0, .slice none 0 0] 129)) = w1 at hA h0 h1 h2 hsz g0 ⊢
  go_region_with (go_at_call 45; refine (twinPairs_row _ n f g _ hreach ?hrow).mono ?_; (case hrow => exact h.below ⟨hA.os, hA.tape, hA.output, hA.size, hA.block⟩); rintro e w3 ⟨t, rfl, ⟨tg, rfl, hlo, hlt, htc, hs, hs2⟩, hb3⟩; have hb4 : Below w1.heap.size w1 w3 := ⟨hb3.os, hb3.tape, hb3.output, hb3.size, hb3.block⟩; have k0 := (hb4.cell (p := ⟨w.heap.size, 0, none⟩) (show w.heap.size < _ by omega)).trans h0;  have k1 := (hb4.cell (p := ⟨w.heap.size, 1, none⟩) (show w.heap.size < _ by omega)).trans h1; have kb := (hb4.block (w.heap.size + 1) (by omega)).trans g0; obtain ⟨c0, c1, c2, z0, z1, z2⟩ := cells135 w3 (w.heap.size + 1) kb)
  all_goals
    have hB : Below w.heap.size w w3 := hA.trans (hb4.mono (by omega))
    have hC : Copy2At w3 w1.heap.size (.slice (some ⟨tg, 0, none⟩) n (n + 1)) n (fun j => .string (f j)) (fun j => .string (g j)) (.string ⟨#[115, 112, 97, 114, 101]⟩) (.string ⟨#[]⟩) := ⟨tg, rfl, hlo, hlt, htc, hs, hs2⟩
    have hD := copy2_set3 hC (w.heap.size + 1) (by omega) w.heap.size (by omega) (.int .u64 ms) (.int .u64 seq) (.slice (some ⟨tg, 0, none⟩) n (n + 1))
    have hW := set3_heap w3 (w.heap.size + 1) (.int .u64 0) (.int .u64 0) (.slice none 0 0) (.int .u64 ms) (.int .u64 seq) (.slice (some ⟨tg, 0, none⟩) n (n + 1)) 129 kb
    clear hb3 hlo hlt htc hs hs2
    go_wp2
    (try simp only [Exit.inBlock, Exit.then])
    refine bodyPost_ret (results_cell_row (P := Tryz.prog) rfl _ _ (w.heap.size + 1) 129 #[.int .u64 ms, .int .u64 seq, .slice (some ⟨tg, 0, none⟩) n (n + 1)] (0, 0) _ rfl hW Tryz.underlying129 rfl size135) rfl ?_
    exact ⟨_, rfl, hD, ((hB.setCell (by simp) _).setCell (by simp) _).setCell (by simp) _⟩

end Go.Proofs.YtagpkkofjehcnaaGreatDoor
