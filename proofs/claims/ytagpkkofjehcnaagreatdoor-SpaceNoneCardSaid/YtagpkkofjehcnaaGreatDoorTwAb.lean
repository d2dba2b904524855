/-
  SpaceNone's loop: every Ask of the slice, at both Spaces, and what stands behind it.
-/
import Derived.Test.YtagpkkofjehcnaaGreatDoorTwAa
import Derived.StillTailTactics
import Derived.Deep.RegionHeld3
set_option linter.all false
namespace Go.Proofs.YtagpkkofjehcnaaGreatDoor
open Go Go.RowKit

/-- An Ask's cells, from an address on. -/
def AskIn (w : World) (b o : Nat) (A : AskD) : Prop :=
  w.cell? ⟨b, o, none⟩ = some (.int .u8 A.kind) ∧ w.cell? ⟨b, o + 1, none⟩ = some (.int .i64 A.db) ∧ w.cell? ⟨b, o + 2, none⟩ = some (A.key) ∧ w.cell? ⟨b, o + 3, none⟩ = some (.int .u8 A.V.kind) ∧ w.cell? ⟨b, o + 4, none⟩ = some (.string A.V.text) ∧ w.cell? ⟨b, o + 5, none⟩ = some (A.a) ∧ w.cell? ⟨b, o + 6, none⟩ = some (A.b) ∧ w.cell? ⟨b, o + 7, none⟩ = some (A.c) ∧ w.cell? ⟨b, o + 8, none⟩ = some (A.d) ∧ w.cell? ⟨b, o + 9, none⟩ = some (A.e) ∧ w.cell? ⟨b, o + 10, none⟩ = some (.int .u64 A.V.ms) ∧ w.cell? ⟨b, o + 11, none⟩ = some (.int .u64 A.V.seq) ∧ w.cell? ⟨b, o + 12, none⟩ = some (A.keep) ∧ w.cell? ⟨b, o + 13, none⟩ = some (A.now) ∧ w.cell? ⟨b, o + 14, none⟩ = some (A.most) ∧ w.cell? ⟨b, o + 15, none⟩ = some (A.pol) ∧ w.cell? ⟨b, o + 16, none⟩ = some (A.cur)

theorem AskIn.below {w w' : World} {b o : Nat} {A : AskD} {n : Nat} (h : AskIn w b o A) (hb : Below n w w') (hlt : b < n) : AskIn w' b o A := by
  obtain ⟨c0, c1, c2, c3, c4, c5, c6, c7, c8, c9, c10, c11, c12, c13, c14, c15, c16⟩ := h
  exact ⟨(hb.cell (by exact hlt)).trans c0, (hb.cell (by exact hlt)).trans c1, (hb.cell (by exact hlt)).trans c2, (hb.cell (by exact hlt)).trans c3, (hb.cell (by exact hlt)).trans c4, (hb.cell (by exact hlt)).trans c5, (hb.cell (by exact hlt)).trans c6, (hb.cell (by exact hlt)).trans c7, (hb.cell (by exact hlt)).trans c8, (hb.cell (by exact hlt)).trans c9, (hb.cell (by exact hlt)).trans c10, (hb.cell (by exact hlt)).trans c11, (hb.cell (by exact hlt)).trans c12, (hb.cell (by exact hlt)).trans c13, (hb.cell (by exact hlt)).trans c14, (hb.cell (by exact hlt)).trans c15, (hb.cell (by exact hlt)).trans c16⟩

set_option maxHeartbeats 6400000 in
set_option maxRecDepth 100000 in
theorem space_any (b off len cap : Nat) (A : Nat → AskD) (w : World) (hreach : len * 232 ≤ 140737488351232) (hb : b < w.heap.size)
    (hc : ∀ j, j < len → AskIn w b (off + j * 17) (A j))
    (hok : ∀ j, j < len → AskOk w (A j)) :
    Calls Tryz.prog 3 #[.slice (some ⟨b, off, none⟩) len cap] w fun e w' => e = .returned (.bool true) ∧ Below w.heap.size w w' := by
  have hA : Below w.heap.size w (w.alloc (.cells zCells 27 (0, 0))) := (Below.refl w.heap.size w).alloc (Nat.le_refl _) _
  have hz : (w.alloc (.cells zCells 27 (0, 0))).heap[w.heap.size]? = some (.cells zCells 27 (0, 0)) := by
    show (w.heap.push _)[w.heap.size]? = _
    exact Array.getElem?_push_size
  go_enter Tryz.func3, Tryz.ntmps3
  go_wp2
  have hA : Below w.heap.size w (w.alloc (.cells #[.slice none 0 0, .int .u64 0, .int .u64 0] 27)) := hA
  have hz : (w.alloc (.cells #[.slice none 0 0, .int .u64 0, .int .u64 0] 27)).heap[w.heap.size]? = some (.cells zCells 27 (0, 0)) := hz
  generalize (w.alloc (.cells #[.slice none 0 0, .int .u64 0, .int .u64 0] 27)) = w1 at hA hz ⊢
  go_loopw [4] (fun i wr => ∃ k : Nat, k ≤ len ∧ i = .int .i64 k ∧ Below w1.heap.size w1 wr)
    (fun i _ => len - (intOf i).toNat)
  case atStart => exact ⟨0, Nat.zero_le _, rfl, Below.refl _ _⟩
  case round =>
    obtain ⟨k, hk, rfl, hZ⟩ := hrel
    have hB : Below w.heap.size w wr := hA.trans (hZ.mono hA.size)
    by_cases hlt : k < len
    · by_cases h50 : k < 50
      · have hx := hc k hlt
        have hok0 := hok k hlt
        obtain ⟨x0, x1, x2, x3, x4, x5, x6, x7, x8, x9, x10, x11, x12, x13, x14, x15, x16⟩ := hx.below hB hb
        have hokk := hok0.below hB
        have hzk := (hZ.block _ (by have := (Array.getElem?_eq_some_iff.1 hz).1; exact this)).trans hz
        go_wp2_with fail
        go_at_call 4
        refine (asks_nil_row (A k) _ hokk).mono ?_
        rintro e w2 ⟨rfl, hb3⟩
        have hB := hB.trans (hb3.mono hB.size)
        have hZ := hZ.trans (hb3.mono hZ.size)
        clear x0 x1 x2 x3 x4 x5 x6 x7 x8 x9 x10 x11 x12 x13 x14 x15 x16 hokk hzk hb3
        as_aux_lemma =>
        obtain ⟨x0, x1, x2, x3, x4, x5, x6, x7, x8, x9, x10, x11, x12, x13, x14, x15, x16⟩ := hx.below hB hb
        have hokk := hok0.below hB
        have hzk := (hZ.block _ (by have := (Array.getElem?_eq_some_iff.1 hz).1; exact this)).trans hz
        go_wp2_with fail
        go_at_call 4
        refine (asks_z_row _ (A k) _ hokk hzk).mono ?_
        rintro e w3 ⟨rfl, hb3⟩
        have hB := hB.trans (hb3.mono hB.size)
        have hZ := hZ.trans (hb3.mono hZ.size)
        clear x0 x1 x2 x3 x4 x5 x6 x7 x8 x9 x10 x11 x12 x13 x14 x15 x16 hokk hzk hb3
        as_aux_lemma =>
        obtain ⟨x0, x1, x2, x3, x4, x5, x6, x7, x8, x9, x10, x11, x12, x13, x14, x15, x16⟩ := hx.below hB hb
        have hokk := hok0.below hB
        have hzk := (hZ.block _ (by have := (Array.getElem?_eq_some_iff.1 hz).1; exact this)).trans hz
        go_wp2_with fail
        go_at_call 5
        refine (stands_nil (.int .i64 (A k).db) (fun _ => ⟨by simp, by simp⟩) _).mono ?_
        rintro e w4 ⟨rfl, hb3⟩
        have hB := hB.trans (hb3.mono hB.size)
        have hZ := hZ.trans (hb3.mono hZ.size)
        clear x0 x1 x2 x3 x4 x5 x6 x7 x8 x9 x10 x11 x12 x13 x14 x15 x16 hokk hzk hb3
        as_aux_lemma =>
        obtain ⟨x0, x1, x2, x3, x4, x5, x6, x7, x8, x9, x10, x11, x12, x13, x14, x15, x16⟩ := hx.below hB hb
        have hokk := hok0.below hB
        have hzk := (hZ.block _ (by have := (Array.getElem?_eq_some_iff.1 hz).1; exact this)).trans hz
        go_wp2_with fail
        go_at_call 5
        refine (stands_z _ (A k).db _ hzk).mono ?_
        rintro e w5 ⟨rfl, hb3⟩
        have hB := hB.trans (hb3.mono hB.size)
        have hZ := hZ.trans (hb3.mono hZ.size)
        clear x0 x1 x2 x3 x4 x5 x6 x7 x8 x9 x10 x11 x12 x13 x14 x15 x16 hokk hzk hb3
        as_aux_lemma =>
        go_wp2
        exact ⟨⟨k + 1, by omega, by go_num, hZ⟩, by simp [intOf]; omega⟩
      · as_aux_lemma =>
        have hzk := (hZ.block _ (by have := (Array.getElem?_eq_some_iff.1 hz).1; exact this)).trans hz
        go_wp2_with fail
        go_at_call 6
        refine (dbs_z _ _ hzk).mono ?_
        rintro e w2 ⟨rfl, hb3⟩
        have hB := hB.trans (hb3.mono hB.size)
        clear hb3
        go_wp2_with fail
        go_at_call 7
        refine (lives_row _).mono ?_
        rintro e w3 ⟨rfl, hb3⟩
        have hB := hB.trans (hb3.mono hB.size)
        clear hb3
        go_wp2
        go_ret
        exact ⟨rfl, hB⟩
    · have hkl : k = len := by omega
      subst hkl
      as_aux_lemma =>
      have hzk := (hZ.block _ (by have := (Array.getElem?_eq_some_iff.1 hz).1; exact this)).trans hz
      go_wp2_with fail
      go_at_call 6
      refine (dbs_z _ _ hzk).mono ?_
      rintro e w2 ⟨rfl, hb3⟩
      have hB := hB.trans (hb3.mono hB.size)
      clear hb3
      go_wp2_with fail
      go_at_call 7
      refine (lives_row _).mono ?_
      rintro e w3 ⟨rfl, hb3⟩
      have hB := hB.trans (hb3.mono hB.size)
      clear hb3
      go_wp2
      go_ret
      exact ⟨rfl, hB⟩

end Go.Proofs.YtagpkkofjehcnaaGreatDoor
