/-
  Lists of strings, scored members and entries, whatever their length: copies, and that they are left.
-/
import Derived.Test.YtagpkkofjehcnaaGreatDoorTwO
import Derived.Test.YtagpkkofjehcnaaGreatDoorTwC
set_option linter.all false
namespace Go.Proofs.YtagpkkofjehcnaaGreatDoor
open Go Go.RowKit

/-- A slice of n strings. -/
def Row1At (w : World) (v : Value) (n : Nat) (x : Nat → Value) : Prop :=
  ((∃ q, v = .slice q 0 0) ∧ n = 0) ∨ ∃ b off cap, v = .slice (some ⟨b, off, none⟩) n cap ∧ b < w.heap.size ∧ ∀ j, j < n → w.cell? ⟨b, off + j, none⟩ = some (x j)
def Copy1At (w : World) (lo : Nat) (v : Value) (n : Nat) (x : Nat → Value) (sx : Value) : Prop :=
  ∃ g, v = .slice (some ⟨g, 0, none⟩) n (n + 1) ∧ lo ≤ g ∧ g < w.heap.size ∧ (∀ j, j < n → w.cell? ⟨g, j, none⟩ = some (x j)) ∧ w.cell? ⟨g, n, none⟩ = some sx

theorem Row1At.below {w w' : World} {v n x} (h : Row1At w v n x) (hb : Below w.heap.size w w') : Row1At w' v n x := by
  rcases h with h | ⟨b, off, cap, hv, hlt, hc⟩
  · exact .inl h
  · exact .inr ⟨b, off, cap, hv, Nat.lt_of_lt_of_le hlt hb.size, fun j hj => (hb.cell (by exact hlt)).trans (hc j hj)⟩
theorem Copy1At.below {w w' : World} {lo v n x sx} (h : Copy1At w lo v n x sx) (hb : Below w.heap.size w w') : Copy1At w' lo v n x sx := by
  obtain ⟨g, hv, hlo, hlt, hc, hs⟩ := h
  exact ⟨g, hv, hlo, Nat.lt_of_lt_of_le hlt hb.size, fun j hj => (hb.cell (by exact hlt)).trans (hc j hj), (hb.cell (by exact hlt)).trans hs⟩

theorem upTo_length (x : Nat → Value) (n : Nat) : (upTo x n).length = n := by simp [upTo]
theorem upTo_get (x : Nat → Value) (n j : Nat) (h : j < n) : (upTo x n)[j]? = some (x j) := by simp [upTo, h]

theorem copy1_of_owns {w : World} {lo e t n : Nat} {x : Nat → Value} {sx : Value} (h : w.ownsRow lo e 1 (.slice (some ⟨t, 0, none⟩) (n + 1) (n + 1)) (n + 1) (upTo x n ++ [sx])) : Copy1At w lo (.slice (some ⟨t, 0, none⟩) n (n + 1)) n x sx := by
  have hl := upTo_length x n
  have hlo : lo ≤ t ∧ t < w.heap.size := by
    rcases h.2 with ⟨h1, _⟩ | ⟨g, cap, cur, h1, h2, h3, _⟩
    · cases h1
    · cases h1
      exact ⟨h2, (Array.getElem?_eq_some_iff.mp h3).1⟩
  refine ⟨t, rfl, hlo.1, hlo.2, fun j hj => ?_, ?_⟩
  · rw [h.cellAt _ (by omega), List.getElem?_append_left (by omega)]; exact upTo_get x n j hj
  · rw [h.cellAt _ (by omega), List.getElem?_append_right (by omega), hl]; simp

abbrev strs (f : Nat → ByteArray) : Nat → Value := fun j => .string (f j)
abbrev flts (f : Nat → Nat) : Nat → Value := fun j => .float .f64 (f j)
abbrev sp : Value := .string ⟨#[115, 112, 97, 114, 101]⟩

theorem twinTexts_row (v : Value) (n : Nat) (f : Nat → ByteArray) (w : World) (hreach : n * 16 ≤ 140737488351232) (h : Row1At w v n (strs f)) :
    Calls Tryz.prog 44 #[v] w fun e w' => ∃ t, e = .returned t ∧ Copy1At w' w.heap.size t n (strs f) sp ∧ Below w.heap.size w w' := by
  rcases h with ⟨⟨q, rfl⟩, rfl⟩ | ⟨b, off, cap, rfl, hlt, hc⟩
  · refine (twinTexts_nil q w).mono ?_
    rintro e w' ⟨t, rfl, hown, hb⟩
    exact ⟨_, rfl, copy1_of_owns (n := 0) hown, hb⟩
  · refine (twinTexts_any b off n cap f w hreach hlt hc).mono ?_
    rintro e w' ⟨t, rfl, hown, hb⟩
    exact ⟨_, rfl, copy1_of_owns hown, hb⟩

theorem leftTexts_row (t v : Value) (lo n : Nat) (f : Nat → ByteArray) (w : World) (hreach : n * 16 ≤ 140737488351232) (ht : Copy1At w lo t n (strs f) sp) (hv : Row1At w v n (strs f)) :
    Calls Tryz.prog 58 #[t, v] w fun e w' => e = .returned (.bool true) ∧ Below w.heap.size w w' := by
  obtain ⟨g, rfl, hlo, hg, htc, hs⟩ := ht
  rcases hv with ⟨⟨q, rfl⟩, rfl⟩ | ⟨b, off, cap, rfl, hlt, hc⟩
  · exact leftTexts_nil q g w hs
  · exact leftTexts_any g b off n cap f w hreach hlt hg hc htc hs

theorem twinScoreds_row (v : Value) (n : Nat) (f : Nat → ByteArray) (h : Nat → Nat) (w : World) (hreach : n * 24 ≤ 140737488351232) (hv : Row2At w v n (strs f) (flts h)) :
    Calls Tryz.prog 46 #[v] w fun e w' => ∃ t, e = .returned t ∧ Copy2At w' w.heap.size t n (strs f) (flts h) sp (.float .f64 0) ∧ Below w.heap.size w w' := by
  rcases hv with ⟨⟨q, rfl⟩, rfl⟩ | ⟨b, off, cap, rfl, hlt, hc⟩
  · refine (twinScoreds_nil q w).mono ?_
    rintro e w' ⟨t, rfl, hown, hb⟩
    exact ⟨_, rfl, copy2_of_owns (n := 0) hown, hb⟩
  · refine (twinScoreds_any b off n cap f h w hreach hlt hc).mono ?_
    rintro e w' ⟨t, rfl, hown, hb⟩
    exact ⟨_, rfl, copy2_of_owns hown, hb⟩

theorem leftScoreds_row (t v : Value) (lo n : Nat) (f : Nat → ByteArray) (h : Nat → Nat) (w : World) (hreach : n * 24 ≤ 140737488351232) (ht : Copy2At w lo t n (strs f) (flts h) sp (.float .f64 0)) (hv : Row2At w v n (strs f) (flts h)) :
    Calls Tryz.prog 60 #[t, v] w fun e w' => e = .returned (.bool true) ∧ Below w.heap.size w w' := by
  obtain ⟨g, rfl, hlo, hg, htc, hs, hs2⟩ := ht
  rcases hv with ⟨⟨q, rfl⟩, rfl⟩ | ⟨b, off, cap, rfl, hlt, hc⟩
  · exact leftScoreds_nil q g w (by simpa using hs) (by simpa using hs2)
  · exact leftScoreds_any g b off n cap f h w hreach hlt hg hc htc hs hs2

/-- What a stream holds: each entry's number and its pairs. -/
structure Ents where
  n : Nat
  ms : Nat → Int
  seq : Nat → Int
  p : Nat → Option Addr
  l : Nat → Nat
  c : Nat → Nat
  m : Nat → Nat
  f : Nat → Nat → ByteArray
  g : Nat → Nat → ByteArray

/-- A slice of entries. -/
def RowEAt (w : World) (v : Value) (E : Ents) : Prop :=
  (((∃ q, v = .slice q 0 0) ∧ E.n = 0) ∨ ∃ b off cap, v = .slice (some ⟨b, off, none⟩) E.n cap ∧ b < w.heap.size ∧ ∀ j, j < E.n → w.cell? ⟨b, off + j * 3, none⟩ = some (.int .u64 (E.ms j)) ∧ w.cell? ⟨b, off + j * 3 + 1, none⟩ = some (.int .u64 (E.seq j)) ∧ w.cell? ⟨b, off + j * 3 + 2, none⟩ = some (.slice (E.p j) (E.l j) (E.c j))) ∧
  ∀ j, j < E.n → E.m j * 32 ≤ 140737488351232 ∧ Row2At w (.slice (E.p j) (E.l j) (E.c j)) (E.m j) (strs (E.f j)) (strs (E.g j))

def CopyEAt (w : World) (lo : Nat) (v : Value) (E : Ents) : Prop :=
  ∃ (T : Nat) (G : Nat → Nat), v = .slice (some ⟨T, 0, none⟩) E.n (E.n + 1) ∧ lo ≤ T ∧ T < w.heap.size ∧
    (∀ j, j < E.n → w.cell? ⟨T, j * 3, none⟩ = some (.int .u64 (E.ms j)) ∧ w.cell? ⟨T, j * 3 + 1, none⟩ = some (.int .u64 (E.seq j)) ∧ w.cell? ⟨T, j * 3 + 2, none⟩ = some (.slice (some ⟨G j, 0, none⟩) (E.m j) (E.m j + 1))) ∧
    (∀ j, j < E.n → cpOf w lo (E.m j) (E.f j) (E.g j) (G j)) ∧
    w.cell? ⟨T, E.n * 3, none⟩ = some (.int .u64 7777) ∧ w.cell? ⟨T, E.n * 3 + 1, none⟩ = some (.int .u64 0) ∧ w.cell? ⟨T, E.n * 3 + 2, none⟩ = some (.slice none 0 0)

theorem RowEAt.below {w w' : World} {v E} (h : RowEAt w v E) (hb : Below w.heap.size w w') : RowEAt w' v E := by
  refine ⟨?_, fun j hj => ⟨(h.2 j hj).1, (h.2 j hj).2.below hb⟩⟩
  rcases h.1 with h | ⟨b, off, cap, hv, hlt, hc⟩
  · exact .inl h
  · exact .inr ⟨b, off, cap, hv, Nat.lt_of_lt_of_le hlt hb.size, fun j hj => ⟨(hb.cell (by exact hlt)).trans (hc j hj).1, (hb.cell (by exact hlt)).trans (hc j hj).2.1, (hb.cell (by exact hlt)).trans (hc j hj).2.2⟩⟩

theorem CopyEAt.below {w w' : World} {lo v E} (h : CopyEAt w lo v E) (hb : Below w.heap.size w w') : CopyEAt w' lo v E := by
  obtain ⟨T, G, hv, hlo, hlt, hc, hcp, hs, hs2, hs3⟩ := h
  exact ⟨T, G, hv, hlo, Nat.lt_of_lt_of_le hlt hb.size, fun j hj => ⟨(hb.cell (by exact hlt)).trans (hc j hj).1, (hb.cell (by exact hlt)).trans (hc j hj).2.1, (hb.cell (by exact hlt)).trans (hc j hj).2.2⟩, fun j hj => (hcp j hj).below hb, (hb.cell (by exact hlt)).trans hs, (hb.cell (by exact hlt)).trans hs2, (hb.cell (by exact hlt)).trans hs3⟩

theorem upTo3_length (x y z : Nat → Value) : ∀ n, (upTo3 x y z n).length = n * 3
  | 0 => rfl
  | n + 1 => by rw [← upTo3_succ, List.length_append, upTo3_length x y z n]; simp; omega

theorem upTo3_get (x y z : Nat → Value) : ∀ n j, j < n → (upTo3 x y z n)[j * 3]? = some (x j) ∧ (upTo3 x y z n)[j * 3 + 1]? = some (y j) ∧ (upTo3 x y z n)[j * 3 + 2]? = some (z j)
  | n + 1, j, hj => by
    rw [← upTo3_succ]
    by_cases h : j < n
    · have hl := upTo3_length x y z n
      rw [List.getElem?_append_left (by omega), List.getElem?_append_left (by omega), List.getElem?_append_left (by omega)]
      exact upTo3_get x y z n j h
    · have : j = n := by omega
      subst this
      have hl := upTo3_length x y z j
      rw [List.getElem?_append_right (by omega), List.getElem?_append_right (by omega), List.getElem?_append_right (by omega), hl]
      simp

theorem copyE_of_owns {w : World} {lo t : Nat} {E : Ents} {G : Nat → Nat} (h : w.ownsRow lo 129 3 (.slice (some ⟨t, 0, none⟩) (E.n + 1) (E.n + 1)) (E.n + 1) (upTo3 (fun j => .int .u64 (E.ms j)) (fun j => .int .u64 (E.seq j)) (fun j => .slice (some ⟨G j, 0, none⟩) (E.m j) (E.m j + 1)) E.n ++ [.int .u64 7777, .int .u64 0, .slice none 0 0]))
    (hcp : ∀ j, j < E.n → cpOf w lo (E.m j) (E.f j) (E.g j) (G j)) : CopyEAt w lo (.slice (some ⟨t, 0, none⟩) E.n (E.n + 1)) E := by
  have hl := upTo3_length (fun j => .int .u64 (E.ms j)) (fun j => .int .u64 (E.seq j)) (fun j => .slice (some ⟨G j, 0, none⟩) (E.m j) (E.m j + 1)) E.n
  have hg := upTo3_get (fun j => .int .u64 (E.ms j)) (fun j => .int .u64 (E.seq j)) (fun j => .slice (some ⟨G j, 0, none⟩) (E.m j) (E.m j + 1)) E.n
  have hlo : lo ≤ t ∧ t < w.heap.size := by
    rcases h.2 with ⟨h1, _⟩ | ⟨g, cap, cur, h1, h2, h3, _⟩
    · cases h1
    · cases h1
      exact ⟨h2, (Array.getElem?_eq_some_iff.mp h3).1⟩
  refine ⟨t, G, rfl, hlo.1, hlo.2, fun j hj => ⟨?_, ?_, ?_⟩, hcp, ?_, ?_, ?_⟩
  · rw [h.cellAt _ (by omega), List.getElem?_append_left (by omega)]; exact (hg j hj).1
  · rw [h.cellAt _ (by omega), List.getElem?_append_left (by omega)]; exact (hg j hj).2.1
  · rw [h.cellAt _ (by omega), List.getElem?_append_left (by omega)]; exact (hg j hj).2.2
  · rw [h.cellAt _ (by omega), List.getElem?_append_right (by omega), hl]; simp
  · rw [h.cellAt _ (by omega), List.getElem?_append_right (by omega), hl]; simp
  · rw [h.cellAt _ (by omega), List.getElem?_append_right (by omega), hl]; simp

theorem twinEntries_row (v : Value) (E : Ents) (w : World) (hreach : E.n * 40 ≤ 140737488351232) (h : RowEAt w v E) :
    Calls Tryz.prog 47 #[v] w fun e w' => ∃ t, e = .returned t ∧ CopyEAt w' w.heap.size t E ∧ Below w.heap.size w w' := by
  obtain ⟨h1, hin⟩ := h
  rcases h1 with ⟨⟨q, rfl⟩, hn⟩ | ⟨b, off, cap, rfl, hlt, hc⟩
  · refine (twinEntries_nil q w).mono ?_
    rintro e w' ⟨rfl, hown, hb⟩
    refine ⟨_, rfl, ?_, hb⟩
    have := copyE_of_owns (w := w') (lo := w.heap.size) (t := w.heap.size) (E := E) (G := fun _ => 0) (by rw [hn]; exact hown) (fun j hj => by omega)
    rwa [hn] at this
  · refine (twinEntries_any b off E.n cap E.ms E.seq E.p E.l E.c E.m E.f E.g w hreach hlt hc hin).mono ?_
    rintro e w' ⟨G, rfl, hown, hcp, hb⟩
    exact ⟨_, rfl, copyE_of_owns hown (fun j hj => (hcp j hj).low (by omega)), hb⟩

theorem leftEntries_row (t v : Value) (lo : Nat) (E : Ents) (w : World) (hreach : E.n * 40 ≤ 140737488351232) (ht : CopyEAt w lo t E) (h : RowEAt w v E) :
    Calls Tryz.prog 61 #[t, v] w fun e w' => e = .returned (.bool true) ∧ Below w.heap.size w w' := by
  obtain ⟨T, G, rfl, hlo, hT, htc, hcp, hs, hs2, hs3⟩ := ht
  obtain ⟨h1, hin⟩ := h
  rcases h1 with ⟨⟨q, rfl⟩, hn⟩ | ⟨b, off, cap, rfl, hlt, hc⟩
  · rw [hn] at hs hs2 hs3 ⊢
    exact leftEntries_nil q T w (by simpa using hs) (by simpa using hs2) (by simpa using hs3)
  · exact leftEntries_any T lo b off E.n cap E.ms E.seq E.p E.l E.c E.m G E.f E.g w hreach hlt hT hc hin htc hcp hs hs2 hs3

end Go.Proofs.YtagpkkofjehcnaaGreatDoor
