/-
  A list of pairs, whatever its length: its copy and that the copy is left.
-/
import Derived.Test.YtagpkkofjehcnaaGreatDoorTwI
import Derived.Test.YtagpkkofjehcnaaGreatDoorTwH
import Derived.Test.YtagpkkofjehcnaaGreatDoorTwF
import Derived.Laws.OwnMore
set_option linter.all false
namespace Go.Proofs.YtagpkkofjehcnaaGreatDoor
open Go Go.RowKit

/-- A slice of n elements of two cells each, its cells known. -/
def Row2At (w : World) (v : Value) (n : Nat) (x y : Nat → Value) : Prop :=
  ((∃ q, v = .slice q 0 0) ∧ n = 0) ∨ ∃ b off cap, v = .slice (some ⟨b, off, none⟩) n cap ∧ b < w.heap.size ∧ ∀ j, j < n → w.cell? ⟨b, off + j * 2, none⟩ = some (x j) ∧ w.cell? ⟨b, off + j * 2 + 1, none⟩ = some (y j)

/-- A copy of such a slice: n elements and a mark behind them, in a block of their own. -/
def Copy2At (w : World) (lo : Nat) (v : Value) (n : Nat) (x y : Nat → Value) (sx sy : Value) : Prop :=
  ∃ g, v = .slice (some ⟨g, 0, none⟩) n (n + 1) ∧ lo ≤ g ∧ g < w.heap.size ∧ (∀ j, j < n → w.cell? ⟨g, j * 2, none⟩ = some (x j) ∧ w.cell? ⟨g, j * 2 + 1, none⟩ = some (y j)) ∧ w.cell? ⟨g, n * 2, none⟩ = some sx ∧ w.cell? ⟨g, n * 2 + 1, none⟩ = some sy

theorem Row2At.below {w w' : World} {v n x y} (h : Row2At w v n x y) (hb : Below w.heap.size w w') : Row2At w' v n x y := by
  rcases h with h | ⟨b, off, cap, hv, hlt, hc⟩
  · exact .inl h
  · exact .inr ⟨b, off, cap, hv, Nat.lt_of_lt_of_le hlt hb.size, fun j hj => ⟨(hb.cell (by exact hlt)).trans (hc j hj).1, (hb.cell (by exact hlt)).trans (hc j hj).2⟩⟩

theorem Copy2At.below {w w' : World} {lo v n x y sx sy} (h : Copy2At w lo v n x y sx sy) (hb : Below w.heap.size w w') : Copy2At w' lo v n x y sx sy := by
  obtain ⟨g, hv, hlo, hlt, hc, hs, hs2⟩ := h
  exact ⟨g, hv, hlo, Nat.lt_of_lt_of_le hlt hb.size, fun j hj => ⟨(hb.cell (by exact hlt)).trans (hc j hj).1, (hb.cell (by exact hlt)).trans (hc j hj).2⟩, (hb.cell (by exact hlt)).trans hs, (hb.cell (by exact hlt)).trans hs2⟩

theorem upTo2_length (x y : Nat → Value) : ∀ n, (upTo2 x y n).length = n * 2
  | 0 => rfl
  | n + 1 => by rw [← upTo2_succ, List.length_append, upTo2_length x y n]; simp; omega

theorem upTo2_get (x y : Nat → Value) : ∀ n j, j < n → (upTo2 x y n)[j * 2]? = some (x j) ∧ (upTo2 x y n)[j * 2 + 1]? = some (y j)
  | n + 1, j, hj => by
    rw [← upTo2_succ]
    by_cases h : j < n
    · have hl := upTo2_length x y n
      rw [List.getElem?_append_left (by omega), List.getElem?_append_left (by omega)]
      exact upTo2_get x y n j h
    · have : j = n := by omega
      subst this
      have hl := upTo2_length x y j
      rw [List.getElem?_append_right (by omega), List.getElem?_append_right (by omega), hl]
      simp

theorem copy2_of_owns {w : World} {lo e t n : Nat} {x y : Nat → Value} {sx sy : Value} (h : w.ownsRow lo e 2 (.slice (some ⟨t, 0, none⟩) (n + 1) (n + 1)) (n + 1) (upTo2 x y n ++ [sx, sy])) : Copy2At w lo (.slice (some ⟨t, 0, none⟩) n (n + 1)) n x y sx sy := by
  have hl := upTo2_length x y n
  have hlo : lo ≤ t ∧ t < w.heap.size := by
    rcases h.2 with ⟨h1, _⟩ | ⟨g, cap, cur, h1, h2, h3, _⟩
    · cases h1
    · cases h1
      refine ⟨h2, ?_⟩
      exact (Array.getElem?_eq_some_iff.mp h3).1
  refine ⟨t, rfl, hlo.1, hlo.2, fun j hj => ⟨?_, ?_⟩, ?_, ?_⟩
  · rw [h.cellAt _ (by omega), List.getElem?_append_left (by omega)]; exact (upTo2_get x y n j hj).1
  · rw [h.cellAt _ (by omega), List.getElem?_append_left (by omega)]; exact (upTo2_get x y n j hj).2
  · rw [h.cellAt _ (by omega), List.getElem?_append_right (by omega), hl]; simp
  · rw [h.cellAt _ (by omega), List.getElem?_append_right (by omega), hl]; simp

theorem twinPairs_row (v : Value) (n : Nat) (f g : Nat → ByteArray) (w : World) (hreach : n * 32 ≤ 140737488351232) (h : Row2At w v n (fun j => .string (f j)) (fun j => .string (g j))) :
    Calls Tryz.prog 45 #[v] w fun e w' =>
      ∃ t, e = .returned t ∧ Copy2At w' w.heap.size t n (fun j => .string (f j)) (fun j => .string (g j)) (.string ⟨#[115, 112, 97, 114, 101]⟩) (.string ⟨#[]⟩) ∧ Below w.heap.size w w' := by
  rcases h with ⟨⟨q, rfl⟩, rfl⟩ | ⟨b, off, cap, rfl, hlt, hc⟩
  · refine (twinPairs_nil q w).mono ?_
    rintro e w' ⟨t, rfl, hown, hb⟩
    exact ⟨_, rfl, copy2_of_owns (n := 0) hown, hb⟩
  · refine (twinPairs_any b off n cap f g w hreach hlt hc).mono ?_
    rintro e w' ⟨t, rfl, hown, hb⟩
    exact ⟨_, rfl, copy2_of_owns hown, hb⟩

theorem leftPairs_row (t v : Value) (lo n : Nat) (f h : Nat → ByteArray) (w : World) (hreach : n * 32 ≤ 140737488351232)
    (ht : Copy2At w lo t n (fun j => .string (f j)) (fun j => .string (h j)) (.string ⟨#[115, 112, 97, 114, 101]⟩) (.string ⟨#[]⟩))
    (hv : Row2At w v n (fun j => .string (f j)) (fun j => .string (h j))) :
    Calls Tryz.prog 59 #[t, v] w fun e w' => e = .returned (.bool true) ∧ Below w.heap.size w w' := by
  obtain ⟨g, rfl, hlo, hg, htc, hs, hs2⟩ := ht
  rcases hv with ⟨⟨q, rfl⟩, rfl⟩ | ⟨b, off, cap, rfl, hlt, hc⟩
  · exact leftPairs_nil q g w (by simpa using hs) (by simpa using hs2)
  · exact leftPairs_any g b off n cap f h w hreach hlt hg hc htc hs hs2

end Go.Proofs.YtagpkkofjehcnaaGreatDoor
