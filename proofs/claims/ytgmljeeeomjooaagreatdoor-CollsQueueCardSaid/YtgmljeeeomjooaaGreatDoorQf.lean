/-
  pack.Insert, Delete, New: contracts.
-/
import Derived.Test.YtgmljeeeomjooaaGreatDoorQe
import Derived.RangeFuncNested
import Derived.RangeFuncBound
import Derived.RangeFuncCalls
import Derived.RangeFuncLeaves
import Derived.RangeFuncBox
import Derived.Shelf.Abstract
import Derived.Shelf.RegionOpen
import Derived.OwnWalkIn
import Derived.TacticsInMore
import Derived.LoopNIn
import Derived.LoopIn
import Derived.Maps.AppendAt
set_option linter.all false
/-
  pack.Insert, Delete, New: contracts.
-/
namespace Go.Q
open Go Go.RowKit

theorem piece_cut (A B C D : List ByteArray) : ((piece (A ++ B ++ C)).take (8 + (encs A).length) ++ encs D ++ (piece (A ++ B ++ C)).drop (8 + (encs A).length + (encs B).length)).drop 8 = encs (A ++ D ++ C) ++ [255] := by
  have e : piece (A ++ B ++ C) = (le 4 (9 + (encs (A ++ B ++ C)).length) ++ le 4 (A ++ B ++ C).length) ++ (encs A ++ (encs B ++ (encs C ++ [255]))) := by
    unfold piece
    rw [encs_append, encs_append]
    simp
  generalize hH : le 4 (9 + (encs (A ++ B ++ C)).length) ++ le 4 (A ++ B ++ C).length = H at e
  have h8 : H.length = 8 := by rw [← hH]; simp [le_length]
  rw [e]
  have h1 : (H ++ (encs A ++ (encs B ++ (encs C ++ [255])))).take (8 + (encs A).length) = H ++ encs A := by
    rw [← List.append_assoc, List.take_left' (by simp [h8])]
  have h2 : (H ++ (encs A ++ (encs B ++ (encs C ++ [255])))).drop (8 + (encs A).length + (encs B).length) = encs C ++ [255] := by
    rw [← List.append_assoc, ← List.append_assoc, List.drop_left' (by simp [h8]; omega)]
  rw [h1, h2, List.append_assoc, List.append_assoc, List.drop_left' h8, encs_append, encs_append]
  simp

def insAt (xs : List ByteArray) (k : Nat) (s : ByteArray) : List ByteArray := xs.take k ++ [s] ++ xs.drop k
def delAt (xs : List ByteArray) (k n : Nat) : List ByteArray := xs.take k ++ xs.drop (k + n)

theorem encs_one (s : ByteArray) : encs [s] = enc s.data.toList := by simp [encs]
theorem insAt_length {xs : List ByteArray} {k : Nat} (s : ByteArray) (h : k ≤ xs.length) : (insAt xs k s).length = xs.length + 1 := by simp [insAt]; omega
theorem delAt_length {xs : List ByteArray} {k n : Nat} (h : k + n ≤ xs.length) : (delAt xs k n).length = xs.length - n := by simp [delAt]; omega
theorem insAt_end (xs : List ByteArray) (s : ByteArray) : insAt xs xs.length s = xs ++ [s] := by simp [insAt]
theorem piece_ins_len {xs : List ByteArray} {k : Nat} (s : ByteArray) : (piece (insAt xs k s)).length = (piece xs).length + (enc s.data.toList).length := by
  have e : encs xs = encs (xs.take k) ++ encs (xs.drop k) := by rw [← encs_append, List.take_append_drop]
  rw [piece_length, piece_length, insAt, encs_append, encs_append, encs_one, e]
  simp; omega
theorem piece_ins {xs : List ByteArray} {k : Nat} (s : ByteArray) (h : k ≤ xs.length) :
    piece (insAt xs k s) = le 4 ((piece xs).length - (pos xs k - pos xs k) + (enc s.data.toList).length) ++ le 4 (xs.length + 1) ++ ((piece xs).take (pos xs k) ++ enc s.data.toList ++ (piece xs).drop (pos xs k)).drop 8 := by
  have h1 := piece_cut (xs.take k) [] (xs.drop k) [s]
  rw [List.append_nil, List.take_append_drop, encs_one] at h1
  simp only [encs_nil, List.length_nil, Nat.add_zero] at h1
  unfold pos
  rw [h1, Nat.sub_self, Nat.sub_zero, ← piece_ins_len (k := k), piece_length]
  rw [piece, insAt_length s h]
  rfl
theorem pos_add {xs : List ByteArray} {k n : Nat} : pos xs (k + n) = pos xs k + (encs ((xs.drop k).take n)).length := by
  unfold pos
  rw [List.take_add, encs_append, List.length_append]
  omega
theorem piece_del_len {xs : List ByteArray} {k n : Nat} (h : k + n ≤ xs.length) : (piece (delAt xs k n)).length = (piece xs).length - (pos xs (k + n) - pos xs k) := by
  have e : encs xs = encs (xs.take k) ++ (encs ((xs.drop k).take n) ++ encs (xs.drop (k + n))) := by
    rw [← encs_append, ← encs_append]
    congr 1
    rw [← List.drop_drop, List.take_append_drop, List.take_append_drop]
  rw [pos_add, piece_length, piece_length, delAt, encs_append, e]
  simp; omega
theorem piece_del {xs : List ByteArray} {k n : Nat} (h : k + n ≤ xs.length) :
    piece (delAt xs k n) = le 4 ((piece xs).length - (pos xs (k + n) - pos xs k) + 0) ++ le 4 (xs.length - n) ++ ((piece xs).take (pos xs k) ++ [] ++ (piece xs).drop (pos xs (k + n))).drop 8 := by
  have h1 := piece_cut (xs.take k) ((xs.drop k).take n) (xs.drop (k + n)) []
  have e : xs.take k ++ (xs.drop k).take n ++ xs.drop (k + n) = xs := by rw [List.append_assoc, ← List.drop_drop, List.take_append_drop, List.take_append_drop]
  rw [e, List.append_nil] at h1
  simp only [encs_nil] at h1
  rw [pos_add, show pos xs k = 8 + (encs (xs.take k)).length from rfl, h1, Nat.add_zero]
  have h2 := piece_del_len h
  rw [pos_add, show pos xs k = 8 + (encs (xs.take k)).length from rfl] at h2
  rw [← h2, piece_length, piece, delAt_length h]
  rfl

end Go.Q
namespace Go.Proofs.YtgmljeeeomjooaaGreatDoor
open Go Go.RowKit Go.Q Go.Sort

set_option maxHeartbeats 6400000 in
set_option maxRecDepth 100000 in
theorem insert_any (p b : Nat) (xs : List ByteArray) (k : Nat) (hk : k ≤ xs.length) (s : ByteArray) (hs : s.size ≤ 65536) (hmany : xs.length ≤ 1000) (w : World) (h : PackAt w p b xs) (hfit : (piece xs).length ≤ 70000000) (hG : Glob w) (hpG : 10 ≤ p) :
    Calls Tryz.prog 250 #[.pointer (some ⟨p, 0, none⟩), .int .i64 k, .string s] w fun e w' => e = .returned (.int .i64 0) ∧ ∃ b', PackAt w' p b' (insAt xs k s) ∧ w.heap.size ≤ b' ∧ Only (· = p) w w' := by
  have hgone := gone_any p b _ _ w (h.cell.cell rfl)
  have hlen := len_any p b xs w h
  have hent := entry_any s (by omega) w hG
  have hp := h.cell.lt
  have hb := h.bytes.lt
  have hg10 := hG.size
  have hseek := fun w' (hw : Below w.heap.size w w') => seek_any p b xs k hk w' (h.below hw hp hb) (hG.below hw hg10)
  have hel := enc_length_le s.data.toList (by simpa using hs)
  have hsl : s.data.toList.length = s.size := by simp
  have hPl := pos_le xs k
  have hN := piece_ge xs
  have hN0 : (0 : Int) ≤ (piece xs).length := by omega
  have hpos8 : 8 ≤ pos xs k := by unfold pos; omega
  have hchg : ∀ w' g cap, Below w.heap.size w w' → w'.ownsRow w.heap.size 5 1 (.slice (some ⟨g, 0, none⟩) (enc s.data.toList).length cap) (enc s.data.toList).length (u8s (enc s.data.toList)) →
      Calls Tryz.prog 311 #[.pointer (some ⟨p, 0, none⟩), .int .i64 (pos xs k), .int .i64 (pos xs k), .slice (some ⟨g, 0, none⟩) (enc s.data.toList).length cap, .int .i64 1] w' fun e' w'' => e' = .returned (.tuple #[]) ∧ PackAt w'' p w'.heap.size (insAt xs k s) ∧ Only (· = p) w' w'' := fun w' g cap hw ho => by
    have hpk := h.below hw hp hb
    obtain ⟨_, hgB, r, hrow, _⟩ := owns_cells ho
    have := change_any p b (pos xs k) (pos xs k) (enc s.data.toList).length (piece xs).length xs.length (xs.length + 1) ((piece xs).length - (pos xs k - pos xs k) + (enc s.data.toList).length) 1 (some ⟨g, 0, none⟩) cap (piece xs) (enc s.data.toList) rfl rfl hpos8 (Nat.le_refl _) (by omega) h.size (by omega) (by omega) (by omega) (by omega) rfl w' hpk.cell hpk.bytes hpk.count
      (fun _ => ⟨g, rfl, hrow.lt, fun j hj => by
        rw [Nat.zero_add]
        refine hrow.cell ?_
        rw [List.getElem?_append_left (by simpa [u8s] using hj)]
        exact u8s_get hj⟩)
    refine this.mono fun e' w'' ⟨h1, h2, h3, h4⟩ => ⟨h1, ⟨?_, ?_, ?_, ?_, ?_⟩, h4⟩
    · rw [piece_ins_len]
      rw [Nat.sub_self, Nat.sub_zero] at h2
      exact h2
    · rw [piece_ins s hk]; exact h3
    · intro x hx
      simp only [insAt, List.mem_append, List.mem_singleton] at hx
      rcases hx with (hx | rfl) | hx
      · exact h.items x (List.mem_of_mem_take hx)
      · exact hs
      · exact h.items x (List.mem_of_mem_drop hx)
    · rw [piece_ins_len]; omega
    · rw [insAt_length s hk]; omega
  have hcp := h.cell.cell (i := 0) rfl
  have hkn : (k : Int) ≤ xs.length := by omega
  have hmn : (xs.length : Int) ≤ 1000 := by omega
  have hsn : (s.size : Int) ≤ 65536 := by omega
  have hfi : ((piece xs).length : Int) ≤ 70000000 := by omega
  have hfe : ((enc s.data.toList).length : Int) ≤ 70000 := by omega
  have hel2 : (enc s.data.toList).length ≤ 70000 := by omega
  have HG := Lib.hid hG
  generalize pos xs k = P at *
  generalize hEE : (enc s.data.toList).length = E at *
  generalize (piece xs).length = N at *
  have Hh := Lib.hid h
  unfold EntryOk at hent
  rw [hEE] at hent
  have HH := Lib.hid hEE
  clear h hG hel hsl hEE hmany hs hk hfit hel2
  generalize xs.length = n at *
  go_enter Tryz.func250, Tryz.ntmps250
  go_wp2_with fail
  go_at_call 306
  refine hgone.mono ?_
  rintro e w' ⟨rfl, rfl⟩
  go_wp2_with fail
  go_at_call 248
  refine hlen.mono ?_
  rintro e w' ⟨rfl, rfl⟩
  go_wp2_with fail
  go_at_call 248
  refine hlen.mono ?_
  rintro e w' ⟨rfl, rfl⟩
  go_wp2_with fail
  go_at_call 309
  refine hent.mono ?_
  rintro e w1 ⟨v1, rfl, hv1, hb1⟩
  obtain ⟨g1, cap1, rfl⟩ : ∃ g cap, v1 = .slice (some ⟨g, 0, none⟩) E cap := by
    have hE2 : 2 ≤ E := by
      have := (enc_length_le s.data.toList (by have := hsn; simp; omega)).2
      rw [HH.out] at this
      exact this
    obtain ⟨_, ⟨_, h0⟩ | ⟨g, cap, _, rfl, _⟩⟩ := hv1
    · omega
    · exact ⟨g, cap, rfl⟩
  have hcp1 := (hb1.cell (p := ⟨p, 0, none⟩) hp).trans hcp
  go_wp2_with fail
  go_at_call 310
  refine (hseek w1 hb1).mono ?_
  rintro e w2 ⟨rfl, hb2⟩
  have hb2' := b_call hb2 hb1
  have hv2 := owns_below hv1 hb2 rfl
  go_wp2_with fail
  go_at_call 311
  refine (hchg w2 g1 cap1 hb2' hv2).mono ?_
  rintro e w3 ⟨rfl, hpk, ho⟩
  go_wp2_with fail
  go_ret
  exact ⟨rfl, _, hpk, hb2'.size, (Only.of_below hb2').then ho (fun i _ h => h)⟩

theorem new_any (w : World) : Calls Tryz.prog 140 #[] w fun e w' => e = .returned (.pointer (some ⟨w.heap.size + 1, 0, none⟩)) ∧ PackAt w' (w.heap.size + 1) w.heap.size [] ∧ Below w.heap.size w w' := by
  go_enter Tryz.func140, Tryz.ntmps140
  go_wp2_with fail
  go_ret
  have hp : piece [] = [9, 0, 0, 0, 0, 0, 0, 0, 255] := by decide
  refine ⟨rfl, ⟨?_, ?_, by simp, by rw [hp]; decide, by simp⟩, ((Below.refl _ _).alloc (Nat.le_refl _) _).alloc (by simp) _⟩
  · rw [hp]
    have := Row.new (w.alloc (.cells #[.int .u8 9, .int .u8 0, .int .u8 0, .int .u8 0, .int .u8 0, .int .u8 0, .int .u8 0, .int .u8 0, .int .u8 255] 5)) 304 [.slice (some ⟨w.heap.size, 0, none⟩) 9 9]
    simpa using this
  · rw [hp]
    exact (Row.new w 5 _).alloc _

set_option maxHeartbeats 6400000 in
set_option maxRecDepth 100000 in
theorem delete_any (p b : Nat) (xs : List ByteArray) (k n : Nat) (hk : k + n ≤ xs.length) (hmany : xs.length ≤ 1000) (w : World) (h : PackAt w p b xs) (hfit : (piece xs).length ≤ 70000000) (hG : Glob w) (hpG : 10 ≤ p) :
    Calls Tryz.prog 308 #[.pointer (some ⟨p, 0, none⟩), .int .i64 k, .int .i64 n] w fun e w' => e = .returned (.int .i64 0) ∧ ∃ b', PackAt w' p b' (delAt xs k n) ∧ w.heap.size ≤ b' ∧ Only (· = p) w w' := by
  have hgone := gone_any p b _ _ w (h.cell.cell rfl)
  have hlen := len_any p b xs w h
  have hp := h.cell.lt
  have hb := h.bytes.lt
  have hg10 := hG.size
  have hseek := fun w' (hw : Below w.heap.size w w') => seek_any p b xs k (by omega) w' (h.below hw hp hb) (hG.below hw hg10)
  have hseek2 := fun w' (hw : Below w.heap.size w w') => seek_any p b xs (k + n) (by omega) w' (h.below hw hp hb) (hG.below hw hg10)
  have hPl := pos_le xs (k + n)
  have hPk : pos xs k ≤ pos xs (k + n) := by rw [pos_add]; omega
  have hN := piece_ge xs
  have hpos8 : 8 ≤ pos xs k := by unfold pos; omega
  have hchg : ∀ w', Below w.heap.size w w' →
      Calls Tryz.prog 311 #[.pointer (some ⟨p, 0, none⟩), .int .i64 (pos xs k), .int .i64 (pos xs (k + n)), .slice none 0 0, .int .i64 (-(n : Int))] w' fun e' w'' => e' = .returned (.tuple #[]) ∧ PackAt w'' p w'.heap.size (delAt xs k n) ∧ Only (· = p) w' w'' := fun w' hw => by
    have hpk := h.below hw hp hb
    have := change_any p b (pos xs k) (pos xs (k + n)) 0 (piece xs).length xs.length (xs.length - n) ((piece xs).length - (pos xs (k + n) - pos xs k) + 0) (-(n : Int)) none 0 (piece xs) [] rfl rfl hpos8 hPk (by omega) h.size (by omega) (by omega) (by omega) (by omega) rfl w' hpk.cell hpk.bytes hpk.count
      (fun h0 => by omega)
    refine this.mono fun e' w'' ⟨h1, h2, h3, h4⟩ => ⟨h1, ⟨?_, ?_, ?_, ?_, ?_⟩, h4⟩
    · rw [piece_del_len hk]
      exact h2
    · rw [piece_del hk]; exact h3
    · intro x hx
      simp only [delAt, List.mem_append] at hx
      rcases hx with hx | hx
      · exact h.items x (List.mem_of_mem_take hx)
      · exact h.items x (List.mem_of_mem_drop hx)
    · rw [piece_del_len hk]; omega
    · rw [delAt_length hk]; omega
  have hcp := h.cell.cell (i := 0) rfl
  have hkn : (k : Int) ≤ xs.length := by omega
  have hmn : (xs.length : Int) ≤ 1000 := by omega
  have hkn2 : (n : Int) ≤ (xs.length : Int) - k := by omega
  have ecast : ((k + n : Nat) : Int) = (k : Int) + n := by omega
  rw [ecast] at hseek2
  generalize hP2 : pos xs (k + n) = P2 at *
  generalize pos xs k = P at *
  generalize (piece xs).length = N at *
  clear h hG hmany hP2 hfit hN hPl hPk hpos8 ecast
  generalize xs.length = m at *
  go_enter Tryz.func308, Tryz.ntmps308
  go_wp2_with fail
  go_at_call 306
  refine hgone.mono ?_
  rintro e w' ⟨rfl, rfl⟩
  go_wp2_with fail
  go_at_call 248
  refine hlen.mono ?_
  rintro e w' ⟨rfl, rfl⟩
  go_wp2_with fail
  go_at_call 248
  refine hlen.mono ?_
  rintro e w' ⟨rfl, rfl⟩
  go_wp2_with fail
  go_at_call 310
  refine (hseek w (Below.refl _ _)).mono ?_
  rintro e w1 ⟨rfl, hb1⟩
  go_wp2_with fail
  go_at_call 310
  refine (hseek2 w1 hb1).mono ?_
  rintro e w2 ⟨rfl, hb2⟩
  have hb2' := b_call hb2 hb1
  go_wp2_with fail
  go_at_call 311
  refine (hchg w2 hb2').mono ?_
  rintro e w3 ⟨rfl, hpk, ho⟩
  go_wp2_with fail
  go_ret
  exact ⟨rfl, _, hpk, hb2'.size, (Only.of_below hb2').then ho (fun i _ h => h)⟩

end Go.Proofs.YtgmljeeeomjooaaGreatDoor

/-
  pack.All: its value stops as its body says.
-/
namespace Go.Q
open Go Go.RowKit

/-- Packs, pieces and the package's variables stay, but for the blocks of X. -/
structure Typed (X : Nat → Prop) (A B : World) : Prop where
  size : A.heap.size ≤ B.heap.size
  kept : ∀ k (c : Array Value) (t : TypeId) (fz : Nat × Nat), ¬ X k → A.heap[k]? = some (.cells c t fz) → (t = 304 ∨ t = 5 ∨ k < 10) → B.heap[k]? = A.heap[k]?
theorem Typed.refl (X : Nat → Prop) (A : World) : Typed X A A := ⟨Nat.le_refl _, fun _ _ _ _ _ _ _ => rfl⟩
theorem Typed.trans {X : Nat → Prop} {A B C : World} (h : Typed X A B) (k : Typed X B C) : Typed X A C :=
  ⟨Nat.le_trans h.size k.size, fun i c t fz hx hc ht => (k.kept i c t fz hx ((h.kept i c t fz hx hc ht).trans hc) ht).trans (h.kept i c t fz hx hc ht)⟩
theorem Typed.only {X S : Nat → Prop} {A B : World} (h : Only S A B) (hs : ∀ k (c : Array Value) (t : TypeId) (fz : Nat × Nat), S k → A.heap[k]? = some (.cells c t fz) → (t = 304 ∨ t = 5 ∨ k < 10) → X k) : Typed X A B :=
  ⟨h.size, fun k c t fz hx hc ht => h.block k (Array.getElem?_eq_some_iff.1 hc).1 fun hS => hx (hs k c t fz hS hc ht)⟩
theorem Typed.below {X : Nat → Prop} {A B : World} (h : Below A.heap.size A B) : Typed X A B := Typed.only (Only.of_below (S := fun _ => False) h) fun _ _ _ _ h => h.elim
theorem PackAt.typed {X : Nat → Prop} {w w' : World} {p b : Nat} {xs : List ByteArray} (h : PackAt w p b xs) (ho : Typed X w w') (hp : ¬ X p) (hb : ¬ X b) : PackAt w' p b xs :=
  ⟨(ho.kept _ _ _ _ hp h.cell (.inl rfl)).trans h.cell, (ho.kept _ _ _ _ hb h.bytes (.inr (.inl rfl))).trans h.bytes, h.items, h.size, h.many⟩
theorem grown_of_below {w w' : World} (h : Below w.heap.size w w') : w.grownBy w' none := ⟨h.os, h.tape, h.output, h.size, fun k hk _ => h.block k hk⟩

/-- The first k texts with their places. -/
def upto (xs : List ByteArray) (k : Nat) : List (Nat × ByteArray) := (List.range k).map fun i => (i, xs.getD i ⟨#[]⟩)
theorem upto_succ (xs : List ByteArray) (k : Nat) : upto xs (k + 1) = upto xs k ++ [(k, xs.getD k ⟨#[]⟩)] := by simp [upto, List.range_succ]
theorem upto_length (xs : List ByteArray) (k : Nat) : (upto xs k).length = k := by simp [upto]

end Go.Q
namespace Go.Proofs.YtgmljeeeomjooaaGreatDoor
open Go Go.RowKit Go.Q Go.Sort Go.Shelf

attribute [local go_sem] Oper.semAt_some

/-- The package's variables are cells. -/
theorem Glob.typed {X : Nat → Prop} {w w' : World} (h : Glob w) (ho : Typed X w w') (hx : ∀ k, k < 10 → ¬ X k) : Glob w' := by
  have hz := h.size
  refine ⟨?_, ?_, ?_, by have := ho.size; omega⟩
  · have t := h.tab
    unfold Lib.TabIs World.var? at t ⊢
    rw [pow_global] at t ⊢
    simp only [Option.bind_some] at t ⊢
    cases hh : w.heap[4]? with
    | none => rw [Array.getElem?_eq_none_iff] at hh; omega
    | some o =>
      cases o with
      | cells c t fz => rw [ho.kept 4 c t fz (hx 4 (by omega)) hh (.inr (.inr (by omega)))]; assumption
      | _ => rw [hh] at t; simp at t
  · obtain ⟨ev, h1, h2⟩ := h.syn
    refine ⟨ev, ?_, h2⟩
    simp only [World.cell?] at h1 ⊢
    cases hh : w.heap[2]? with
    | none => rw [hh] at h1; simp at h1
    | some o =>
      cases o with
      | cells c t fz => rw [ho.kept 2 c t fz (hx 2 (by omega)) hh (.inr (.inr (by omega)))]; exact h1
      | _ => rw [hh] at h1; simp at h1
  · obtain ⟨ev, h1, h2⟩ := h.rng
    refine ⟨ev, ?_, h2⟩
    simp only [World.cell?] at h1 ⊢
    cases hh : w.heap[3]? with
    | none => rw [hh] at h1; simp at h1
    | some o =>
      cases o with
      | cells c t fz => rw [ho.kept 3 c t fz (hx 3 (by omega)) hh (.inr (.inr (by omega)))]; exact h1
      | _ => rw [hh] at h1; simp at h1


set_option maxHeartbeats 800000 in
/-- All: the pack's address is boxed, the function value captures the box. -/
theorem all_any (p : Nat) (w : World) : Calls Tryz.prog 307 #[.pointer (some ⟨p, 0, none⟩)] w fun e w' =>
    e = .returned (.func (.func 334) #[] #[.pointer (some ⟨w.heap.size, 0, none⟩)]) ∧ w' = w.alloc (.cells #[.pointer (some ⟨p, 0, none⟩)] 222) := by
  go_enter Tryz.func307, Tryz.ntmps307
  go_wp2
  go_ret
  exact ⟨rfl, rfl⟩

set_option maxRecDepth 100000 in
set_option maxHeartbeats 6400000 in
theorem all1_in (X : Nat → Prop) (hX : ∀ k, k < 10 → ¬ X k) (n : Nat) (hn : 1 ≤ n) (l Bs p b : Nat) (xs : List ByteArray) (hmany : xs.length ≤ 1000) (hXb : ¬ X b) (J Jx : List (Nat × ByteArray) → World → Prop) (W : World) (hXW : ∀ k, W.heap.size ≤ k → ¬ X k)
    (hJ : AbidesFrom W.heap.size J) (hJx : AbidesFrom W.heap.size Jx)
    (hY : ∀ pre x W1, J pre W1 → pre.length < xs.length → x.2.size ≤ 65536 → YieldAt Fence.wide (n - 1) Tryz.prog l #[.int .i64 (x.1 : Int), .string x.2] W1 fun e W' =>
      (e = .returned (.bool true) ∧ J (pre ++ [x]) W' ∧ Typed X W1 W') ∨ (e = .returned (.bool false) ∧ Jx (pre ++ [x]) W'))
    (hBs : W.cell? ⟨Bs, 0, none⟩ = some (.pointer (some ⟨p, 0, none⟩))) (hp : PackAt W p b xs) (hG : Glob W) (h0 : J [] W) :
    CallsIn Fence.wide n Tryz.prog 334 #[.func (.yield l) #[] #[], .pointer (some ⟨Bs, 0, none⟩)] W fun e W' => (∃ v, e = .returned v) ∧
      ((∃ ys, ys = upto xs xs.length ∧ J ys W') ∨ (∃ pre, (∃ k, k ≤ xs.length ∧ pre = upto xs k) ∧ Jx pre W')) := by
  have hgone := gone_any p b _ _ W (hp.cell.cell rfl)
  have hcp := hp.cell.cell (i := 0) rfl
  refine callsIn_of_wp Tryz.func334 rfl trivial ?_ rfl
  simp only [Tryz.ntmps334, List.size_toArray, List.length_cons, List.length_nil, Nat.reduceAdd, Nat.reduceSub, Array.replicate_succ, Array.replicate_zero, List.push_toArray, List.append_toArray, List.nil_append, List.cons_append]
  gi_wp2_with (refine ⟨trivial, ?_⟩; gi_at_call 306; refine (callsIn_wide.2 hgone).mono ?_; rintro e w' ⟨rfl, rfl⟩)
  obtain ⟨W0, hW0⟩ : ∃ W0, W.alloc (.cells #[.slice (some ⟨b, 0, none⟩) (piece xs).length (piece xs).length] 304) = W0 := ⟨_, rfl⟩
  rw [hW0]
  have hbW : Below W.heap.size W W0 := by rw [← hW0]; exact (Below.refl _ _).alloc (Nat.le_refl _) _
  have hQ : PackAt W0 W.heap.size b xs := ⟨by rw [← hW0]; exact Row.new W 304 [_], (hbW.block b hp.bytes.lt).trans hp.bytes, hp.items, hp.size, hp.many⟩
  have hJ0 : J [] W0 := hJ _ _ _ none h0 (grown_of_below hbW) (fun r e => by cases e)
  have hG0 : Glob W0 := hG.below hbW hG.size
  have hsz0 : W.heap.size ≤ W0.heap.size := hbW.size
  have hXQ : ¬ X W.heap.size := hXW _ (Nat.le_refl _)
  clear hW0 hbW h0 hG hgone hcp
  gi_loopw [4, 5] (fun i a wr => ∃ k : Nat, k ≤ xs.length ∧ i = .int .i64 k ∧ a = .int .i64 (pos xs k) ∧ PackAt wr W.heap.size b xs ∧ Glob wr ∧ J (upto xs k) wr ∧ W.heap.size ≤ wr.heap.size) (fun i _ _ => xs.length - (intOf i).toNat)
  case atStart => exact ⟨0, Nat.zero_le _, rfl, rfl, hQ, hG0, hJ0, hsz0⟩
  case round =>
    obtain ⟨k, hk, rfl, rfl, hQ, hG, hJk, hsz⟩ := hrel
    have hlen := len_any W.heap.size b xs wr hQ
    by_cases hlt : k < xs.length
    · have hcq := hQ.cell.cell (i := 0) rfl
      have hs := hQ.items xs[k] (List.getElem_mem hlt)
      have hgetD : xs.getD k ⟨#[]⟩ = xs[k] := by simp [List.getD_eq_getElem?_getD, hlt]
      have he := hQ.entry hlt
      have e : enc xs[k].data.toList ++ (encs (xs.drop (k + 1)) ++ [255]) = head xs[k].data.toList ++ (back (head xs[k].data.toList).length ++ (encs (xs.drop (k + 1)) ++ [255])) := by rw [enc, List.append_assoc]
      have hend := pos_end hlt
      have hsize := hQ.size
      rw [e] at he hend
      have hrd := read_any xs[k] (by omega) b (pos xs k) ((piece xs).length - pos xs k) ((piece xs).length - pos xs k) _ (by omega) (by simp; omega) (Nat.le_refl _) (by omega) wr he hG hQ.bytes.lt
      unfold ReadOk at hrd
      have hrd' : Calls Tryz.prog 335 #[.slice (some ⟨b, pos xs k, none⟩) ((piece xs).length - pos xs k) ((piece xs).length - pos xs k)] wr fun e w1 => ∃ H : Nat, e = .returned (.tuple #[.string xs[k], .int .i64 (H : Int), .bool true]) ∧ Below wr.heap.size wr w1 ∧ PackAt w1 W.heap.size b xs ∧ Glob w1 ∧ J (upto xs k) w1 ∧ W.heap.size ≤ w1.heap.size :=
        hrd.mono fun e w1 ⟨h1, h2⟩ => ⟨_, h1, h2, hQ.below h2 hQ.cell.lt hQ.bytes.lt, hG.below h2 hG.size, hJ _ _ _ none hJk (grown_of_below h2) (fun r e => by cases e), Nat.le_trans hsz h2.size⟩
      have hnext : ∀ w1, PackAt w1 W.heap.size b xs → Glob w1 → Calls Tryz.prog 336 #[.pointer (some ⟨W.heap.size, 0, none⟩), .int .i64 (pos xs k)] w1 fun e w' => e = .returned (.int .i64 (pos xs (k + 1) : Int)) ∧ Below w1.heap.size w1 w' := fun w1 h1 h2 => next_pack W.heap.size b xs k hlt w1 h1 h2
      have hround := fun w1 (hj : J (upto xs k) w1) => hY (upto xs k) (k, xs.getD k ⟨#[]⟩) w1 hj (by rw [upto_length]; exact hlt) (by rw [hgetD]; exact hs)
      rw [hgetD] at hround
      have hP0 : (0 : Int) ≤ (pos xs k : Int) := by omega
      have hP1 : (pos xs k : Int) ≤ ((piece xs).length : Int) := by have := pos_le xs k; omega
      have hPN : ¬ (piece xs).length = pos xs k := by have := pos_le xs k; have := piece_ge xs; omega
      have hlt' : (k : Int) < xs.length := by omega
      have hup := Lib.hid (upto_succ xs k)
      rw [hgetD] at hup
      have HJ := Lib.hid hJk
      clear hrd he e hend hs hsize hG hgetD hY hJk hQ hp
      generalize xs[k] = s at *
      generalize hPP : pos xs (k + 1) = P' at *
      have hP' : Hid (Value.int .i64 (P' : Int) = .int .i64 (pos xs (k + 1))) := by show _ = _; rw [hPP]
      clear hPP
      gi_wp2_with (refine ⟨trivial, ?_⟩; gi_at_call 248; refine (callsIn_wide.2 hlen).mono ?_; rintro e w' ⟨rfl, rfl⟩)
      refine ⟨trivial, ?_⟩
      gi_at_call 335
      refine (callsIn_wide.2 hrd').mono ?_
      rintro e w1 ⟨H, rfl, hb1, hQ1, hG1, hJ1, hs1⟩
      obtain ⟨fn, tmps, assign, body, hy, hR⟩ := hround w1 hJ1
      (try dsimp only at hy)
      clear hround hrd' hlen hcq
      gi_wp2
      refine hR.mono ?_
      rintro e W3 (⟨rfl, hJ3, hk3⟩ | ⟨rfl, hJx3⟩)
      · have hQ3 := hQ1.typed hk3 hXQ hXb
        have hG3 := hG1.typed hk3 hX
        have hnx := hnext W3 hQ3 hG3
        have hs3 := Nat.le_trans hs1 hk3.size
        clear hnext hR
        gi_wp2_with (refine ⟨trivial, ?_⟩; gi_at_call 336; refine (callsIn_wide.2 hnx).mono ?_; rintro e W4 ⟨rfl, hb4⟩)
        go_roundw
        case rel =>
          refine ⟨k + 1, by omega, rfl, hP'.out, hQ3.below hb4 hQ3.cell.lt hQ3.bytes.lt, hG3.below hb4 hG3.size, ?_, Nat.le_trans hs3 hb4.size⟩
          rw [hup.out]
          exact hJ _ _ _ none hJ3 (grown_of_below hb4) (fun r e => by cases e)
        case measure => simp [intOf] <;> omega
      · gi_wp2
        refine bodyPost_ret (results_none rfl _ _ _) rfl ?_
        exact ⟨⟨_, rfl⟩, .inr ⟨_, ⟨k + 1, by omega, hup.out.symm⟩, hJx3⟩⟩
    · obtain rfl : k = xs.length := by omega
      gi_wp2_with (refine ⟨trivial, ?_⟩; gi_at_call 248; refine (callsIn_wide.2 hlen).mono ?_; rintro e w' ⟨rfl, rfl⟩)
      go_end0
      exact ⟨⟨_, rfl⟩, .inl ⟨_, rfl, hJk⟩⟩

/-- **A pack's All hands back a value that stops as the loop's body says.** -/
theorem all_stops (X : Nat → Prop) (hX : ∀ k, k < 10 → ¬ X k) (n : Nat) (hn : 1 ≤ n) (Bs p b : Nat) (xs : List ByteArray) (hmany : xs.length ≤ 1000) (w : World) (hXp : ¬ X p) (hXb : ¬ X b) (hXW : ∀ k, w.heap.size ≤ k → ¬ X k) (hBl : Bs < w.heap.size)
    (hBs : w.cell? ⟨Bs, 0, none⟩ = some (.pointer (some ⟨p, 0, none⟩))) (hp : PackAt w p b xs) (hG : Glob w) :
    SeqStopsK Fence.wide n Tryz.prog 334 #[.pointer (some ⟨Bs, 0, none⟩)] (fun x : Nat × ByteArray => #[Value.int .i64 (x.1 : Int), Value.string x.2]) (Typed X) (fun ys => ys = upto xs xs.length) (fun pre => ∃ k, k ≤ xs.length ∧ pre = upto xs k) xs.length w :=
  fun l J Jx W hW hJ hJx hY h0 =>
    all1_in X hX n hn l Bs p b xs hmany hXb J Jx W (fun k hk => hXW k (by have := hW.size; omega)) hJ hJx (fun pre x W1 h1 h2 _ => hY pre x W1 h1 h2) ((hW.cell (p := ⟨Bs, 0, none⟩) hBl).trans hBs) (hp.below hW hp.cell.lt hp.bytes.lt) (hG.below hW hG.size) h0

/-- A place and a text that is not too long. -/
abbrev Told := { x : Nat × ByteArray // x.2.size ≤ 65536 }

/-- The same, what comes being no longer than a text may be. -/
theorem all_stopsB (X : Nat → Prop) (hX : ∀ k, k < 10 → ¬ X k) (n : Nat) (hn : 1 ≤ n) (Bs p b : Nat) (xs : List ByteArray) (hmany : xs.length ≤ 1000) (w : World) (hXp : ¬ X p) (hXb : ¬ X b) (hXW : ∀ k, w.heap.size ≤ k → ¬ X k) (hBl : Bs < w.heap.size)
    (hBs : w.cell? ⟨Bs, 0, none⟩ = some (.pointer (some ⟨p, 0, none⟩))) (hp : PackAt w p b xs) (hG : Glob w) :
    SeqStopsK Fence.wide n Tryz.prog 334 #[.pointer (some ⟨Bs, 0, none⟩)] (fun x : Told => #[Value.int .i64 (x.1.1 : Int), Value.string x.1.2]) (Typed X) (fun ys => ys.map (·.1) = upto xs xs.length) (fun pre => ∃ k, k ≤ xs.length ∧ pre.map (·.1) = upto xs k) xs.length w :=
  fun l J Jx W hW hJ hJx hY h0 => by
    have := all1_in X hX n hn l Bs p b xs hmany hXb (fun ys W => ∃ ys', ys'.map (·.1) = ys ∧ J ys' W) (fun ys W => ∃ ys', ys'.map (·.1) = ys ∧ Jx ys' W) W (fun k hk => hXW k (by have := hW.size; omega))
      (fun s A B row h hg hr => by obtain ⟨s', h1, h2⟩ := h; exact ⟨s', h1, hJ s' A B row h2 hg hr⟩) (fun s A B row h hg hr => by obtain ⟨s', h1, h2⟩ := h; exact ⟨s', h1, hJx s' A B row h2 hg hr⟩)
      (fun pre x W1 h hl hx => by
        obtain ⟨pre', h1, h2⟩ := h
        exact (hY pre' ⟨x, hx⟩ W1 h2 (by rw [← h1] at hl; simpa using hl)).mono fun e W' h => by
          rcases h with ⟨e1, e2, e3⟩ | ⟨e1, e2⟩
          · exact .inl ⟨e1, ⟨_, by simp [h1], e2⟩, e3⟩
          · exact .inr ⟨e1, ⟨_, by simp [h1], e2⟩⟩)
      ((hW.cell (p := ⟨Bs, 0, none⟩) hBl).trans hBs) (hp.below hW hp.cell.lt hp.bytes.lt) (hG.below hW hG.size) ⟨[], rfl, h0⟩
    refine this.mono fun e W' ⟨h1, h2⟩ => ⟨h1, ?_⟩
    rcases h2 with ⟨ys, rfl, ys', h3, h4⟩ | ⟨pre, ⟨k, hk, rfl⟩, ys', h3, h4⟩
    · exact .inl ⟨ys', h3, h4⟩
    · exact .inr ⟨ys', ⟨k, hk, h3⟩, h4⟩

end Go.Proofs.YtgmljeeeomjooaaGreatDoor

/-
  (list.small).all: contract.
-/
namespace Go.Q
open Go Go.RowKit

/-- Texts as cells. -/
def strs (xs : List ByteArray) : List Value := xs.map .string
theorem strs_length (xs : List ByteArray) : (strs xs).length = xs.length := by simp [strs]
/-- What has come, the texts alone. -/
def snds (l : List (Nat × ByteArray)) : List ByteArray := l.map (·.2)
theorem snds_upto (xs : List ByteArray) : snds (upto xs xs.length) = xs := by
  apply List.ext_getElem
  · simp [snds, upto]
  · intro i h1 h2
    simp [snds, upto, List.getD_eq_getElem?_getD, h2]
theorem snds_snoc (l : List (Nat × ByteArray)) (x : Nat × ByteArray) : snds (l ++ [x]) = snds l ++ [x.2] := by simp [snds]

theorem typed_appended {X : Nat → Prop} {W w1 : World} {n₀ B : Nat} {v v' : Value} {k : Nat} {xs : List Value} {tmp : Obj} (h10 : 10 ≤ n₀) (hv : Boxed W B 22 v) (hrow : W.ownsRow n₀ 9 1 v k xs) (hB : n₀ ≤ B)
    (hgrow : (W.alloc tmp).grownBy w1 v.ownBlock) : Typed X W (w1.setCell ⟨B, 0, none⟩ v') := by
  have ho : Only (fun i => v.ownBlock = some i ∨ i = B) W (w1.setCell ⟨B, 0, none⟩ v') :=
    (((Only.refl _ W).alloc tmp).grown hgrow (fun i e _ => .inl e)).setCell _ (fun _ => .inr rfl) _
  refine Typed.only ho fun i c t fz hS hc ht => ?_
  exfalso
  rcases hS with hS | rfl
  · rcases hrow.2 with ⟨rfl, _⟩ | ⟨g, cap, cur, rfl, hb, hgb, _⟩
    · simp [Value.ownBlock] at hS
    · obtain rfl : g = i := by simpa [Value.ownBlock] using hS
      rw [hgb] at hc
      cases hc
      rcases ht with h | h | h
      · exact absurd h (by decide)
      · exact absurd h (by decide)
      · omega
  · have : W.heap[i]? = some (.cells #[v] 22 (0, 0)) := hv
    rw [this] at hc
    cases hc
    rcases ht with h | h | h
    · exact absurd h (by decide)
    · exact absurd h (by decide)
    · omega

/-- A slice of texts that a call has made. -/
def Made (w w' : World) (xs : List ByteArray) (e : Ending) : Prop := ∃ v, e = .returned v ∧ w'.ownsRow w.heap.size 9 1 v xs.length (strs xs) ∧ Below w.heap.size w w'

end Go.Q
namespace Go.Proofs.YtgmljeeeomjooaaGreatDoor
open Go Go.RowKit Go.Q Go.Sort Go.Shelf

attribute [local go_sem] Oper.semAt_some

theorem info9 : (Tryz.prog.info? 9).map (fun i => (i.zero, i.size, i.bytes)) = some (some (.string ⟨#[]⟩), 1, 16) := by kernel_rfl

set_option maxRecDepth 100000 in
set_option maxHeartbeats 4000000 in
theorem small_all (p b : Nat) (xs : List ByteArray) (hmany : xs.length ≤ 1000) (w : World) (hp : PackAt w p b xs) (hG : Glob w) :
    Calls Tryz.prog 548 #[.agg #[.pointer (some ⟨p, 0, none⟩)]] w fun e w' => Made w w' xs e := by
  obtain ⟨i0, hi, hz0, hz1, hz2⟩ := info_parts info9
  have h10 := hG.size
  refine (callsIn_wide (n := 5)).1 ?_
  refine callsIn_of_wp_marks Tryz.func548 rfl trivial ?_ rfl
  simp only [Tryz.ntmps548, List.size_toArray, List.length_cons, List.length_nil, Nat.reduceAdd, Nat.reduceSub, Array.replicate_succ, Array.replicate_zero, List.push_toArray, List.append_toArray, List.nil_append, List.cons_append]
  gi_wp2_with (refine ⟨trivial, ?_⟩; gi_at_call 307; refine (callsIn_wide.2 (all_any _ _)).mono ?_; rintro e w' ⟨rfl, rfl⟩)
  have bO := (Boxed.new (w.alloc (.cells #[.pointer (some ⟨p, 0, none⟩)] 302)) 22 (.slice none 0 0))
  have bN := Boxed.new ((w.alloc (.cells #[.pointer (some ⟨p, 0, none⟩)] 302)).alloc (.cells #[.slice none 0 0] 22)) 222 (.pointer (some ⟨p, 0, none⟩))
  have hB0 : Below w.heap.size w (((w.alloc (.cells #[.pointer (some ⟨p, 0, none⟩)] 302)).alloc (.cells #[.slice none 0 0] 22)).alloc (.cells #[.pointer (some ⟨p, 0, none⟩)] 222)) := (((Below.refl _ w).alloc (Nat.le_refl _) _).alloc (by simp) _).alloc (by simp; omega) _
  rw [World.size_alloc] at bO bN
  rw [World.size_alloc] at bN
  have hp0 := hp.below hB0 hp.cell.lt hp.bytes.lt
  have hG0 := hG.below hB0 h10
  have hpl := hp.cell.lt
  have hbl := hp.bytes.lt
  refine wpIn_rangeFunc_ownG rfl (by omega) (gf := 334) (lb := #[.pointer (some ⟨w.heap.size + 1 + 1, 0, none⟩)]) rfl trivial (enters_of Tryz.func334 (by kernel_rfl) rfl)
    (all_stops (fun _ => False) (fun _ _ h => h) 4 (by omega) (w.heap.size + 1 + 1) p b xs hmany _ (fun h => h) (fun h => h) (fun _ _ h => h) (by simp) bN.cell hp0 hG0) (fun h k => Typed.trans h k) ?kb (Below.refl _ _) (fun _ => rfl)
    (fun pre W => (∃ v, Boxed W (w.heap.size + 1) 22 v ∧ W.ownsRow w.heap.size 9 1 v pre.length (strs (snds pre)) ∧ True) ∧ Below w.heap.size w W)
    (fun _ _ _ => False)
    (OwnFrom.and (Own.from (holdsRow_own w.heap.size (w.heap.size + 1) 22 9 1 (fun pre : List (Nat × ByteArray) => pre.length) (fun pre => strs (snds pre)) (fun pre v => True)) _) (ownFrom_below (Nat.le_refl _) (by simp; omega)))
    (fun _ _ _ _ _ hs _ _ => hs)
    ⟨⟨_, bO.alloc _, World.ownsRow_nil _ _ _ _, trivial⟩, hB0⟩
    (fun x => { tmps := #[.agg #[.pointer (some ⟨p, 0, none⟩)], .pointer (some ⟨w.heap.size, 0, none⟩), .pointer (some ⟨w.heap.size + 1, 0, none⟩), undef, .string x.2, .pointer (some ⟨w.heap.size, 0, none⟩), .pointer (some ⟨p, 0, none⟩), .func (.func 334) #[] #[.pointer (some ⟨w.heap.size + 1 + 1, 0, none⟩)], .int .i64 (x.1 : Int), .string x.2, undef, undef, undef, undef, undef], defers := [] }) ?assign ?body ?done ?stop
  case kb =>
    intro W l o o' hl h1 h2 _
    refine ⟨by simp, fun k c t fz _ hk _ => World.putObj_heap_other fun e => ?_⟩
    subst e
    rw [h1] at hk
    cases hk
    cases h2
  case assign =>
    intro l x W K hK
    gi_wp2
    exact hK
  case body =>
    rintro l pre x W ⟨⟨v, hv, hrow, _⟩, hB⟩ hlt
    have hc := hv.cell
    gi_wp2_with (gi_at_builtin; refine wpListIn_append_own _ rfl _ _ 22 rfl w.heap.size 9 i0 (.string ⟨#[]⟩) 1 16 Tryz.underlying22 hi hz0 hz1 hz2 rfl (by decide) _ _ _ rfl (hrow.alloc _) ⟨W.heap.size, 0, none⟩ 1 1 [.string x.2] rfl rfl (cell_one_new _ _ _) (by simp [Value.oneCell']) (by unfold maxLen; omega) (by omega) (by have := hB.size; simp; omega) ?_; intro v' w1 hown' hgrow _; obtain ⟨g', cap', rfl⟩ := ownsRow_succ hown'; obtain ⟨hv1, hv2, hr2, hk2, hb2⟩ := hv.appended (by decide) hrow hB.size (by omega) hown' hgrow; have hty := typed_appended (X := fun _ => False) (v' := .slice (some ⟨g', 0, none⟩) (pre.length + 1) cap') h10 hv hrow (by omega) hgrow; have hc1 := hv1.cell; have hf1 := hv1.frozen)
    exact ⟨hk2.from _, hty, ⟨_, hv2, by rw [snds_snoc]; simpa [strs] using hr2, trivial⟩, hB.trans hb2⟩
  case done =>
    rintro D ys W hD rfl ⟨⟨v, hv, hrow, _⟩, hB⟩ hK
    have hc := hv.cell
    rw [upto_length, snds_upto] at hrow
    obtain ⟨sp, ln, cp, rfl⟩ : ∃ sp l c, v = .slice sp l c := by
      rcases hrow.2 with ⟨rfl, _⟩ | ⟨g, cap, cur, rfl, _⟩ <;> exact ⟨_, _, _, rfl⟩
    have hf := hv.frozen
    gi_wp2
    have hb2 : Boxed (W.setCell ⟨w.heap.size + 1, 0, none⟩ (.slice sp ln cp)) (w.heap.size + 1) 22 (.slice sp ln cp) := hv.set _
    have hK' := (KeepsOthers.setCell W ⟨w.heap.size + 1, 0, none⟩ (.slice sp ln cp)).same D _ hK rfl
    have hrow' := hrow.kept (grownBy_setCell' W (w.heap.size + 1) (.slice sp ln cp)) (.inr (hv.not_row (by decide) hrow).symm)
    have hBn : Below w.heap.size w (W.setCell ⟨w.heap.size + 1, 0, none⟩ (.slice sp ln cp)) := hB.setCell (p := ⟨w.heap.size + 1, 0, none⟩) (by simp) _
    refine ⟨by simp, .inl ⟨_, _, rfl, run_takeDeferred hK', ?_⟩⟩
    have hc5 := cell_kept hb2.cell (grownBy_putObj' _ D (.deferred none)) (fun r e => by cases e; exact ⟨_, hK', rfl⟩)
    refine ⟨.slice sp ln cp, ?_, .slice sp ln cp, rfl, ownsRow_putObj hrow' _ hK' rfl, hBn.trans (belowK_b (w := w) (Nat.le_refl _) _ D _ _ (by simp at hD; omega) hK' rfl rfl)⟩
    simp [results, Tryz.f548, go_sem, hc5]
  case stop =>
    rintro D c pre W _ _ h _
    exact h.elim

end Go.Proofs.YtgmljeeeomjooaaGreatDoor

/-
  quick.pour: contract.
-/
namespace Go.Q
open Go Go.RowKit

theorem encs_le {xs : List ByteArray} (h : ∀ s ∈ xs, s.size ≤ 65536) : (encs xs).length ≤ 65548 * xs.length := by
  induction xs with
  | nil => simp [encs]
  | cons s xs ih =>
    have h1 := ih (fun t ht => h t (List.mem_cons_of_mem _ ht))
    have h2 := (enc_length_le s.data.toList (by have := h s (by simp); simpa using this)).1
    have h3 := h s (by simp)
    have h4 : s.data.toList.length = s.size := by simp
    rw [encs_cons, List.length_append, List.length_cons]
    omega
theorem PackAt.small {w : World} {p b : Nat} {xs : List ByteArray} (h : PackAt w p b xs) (hm : xs.length ≤ 1000) : (piece xs).length ≤ 70000000 := by
  have := encs_le h.items
  rw [piece_length]
  omega
/-- What is cells stays. -/
theorem typed_of_grown {W W' : World} {row : Option Nat} (hg : W.grownBy W' row) (hr : ∀ r, row = some r → ∃ o : Obj, W.heap[r]? = some o ∧ o.isCells = false) : Typed (fun _ => False) W W' := by
  refine ⟨hg.size, fun k c t fz _ hc _ => hg.block k (Array.getElem?_eq_some_iff.1 hc).1 fun e => ?_⟩
  obtain ⟨o, ho, h1⟩ := hr k e.symm
  rw [hc] at ho
  cases ho
  cases h1
theorem boxed_of_grown {W W' : World} {row : Option Nat} {B : Nat} {t : TypeId} {v : Value} (h : Boxed W B t v) (hg : W.grownBy W' row) (hr : ∀ r, row = some r → ∃ o : Obj, W.heap[r]? = some o ∧ o.isCells = false) : Boxed W' B t v := by
  refine h.kept hg fun e => ?_
  obtain ⟨o, ho, h1⟩ := hr B e.symm
  rw [show W.heap[B]? = _ from h] at ho
  cases ho
  cases h1

theorem rows_ne {w : World} {a b : Nat} {cs ds : List Value} (h : Row w a 304 cs) (k : Row w b 5 ds) : a ≠ b := fun e => by
  subst e
  have := (h.eq k).2
  cases this
theorem keeps_only {S : Nat → Prop} {W W' : World} {B : Nat} (h : Only S W W') (hs : ∀ k, S k → k < B) : KeepsFrom B W W' :=
  ⟨h.size, fun k o hB hk _ => h.at hk fun e => by have := hs k e; omega⟩
theorem boxed_only {S : Nat → Prop} {W W' : World} {B : Nat} {t : TypeId} {v : Value} (hb : Boxed W B t v) (h : Only S W W') (hn : ¬ S B) : Boxed W' B t v := h.at hb hn
theorem only_drew {S : Nat → Prop} {W W' : World} (h : Only S W.drew W') : Only S W W' := ⟨h.os, h.tape, h.output, h.size, h.block⟩

/-- From a place on: what has come. -/
def fromAt (k : Nat) (l : List (Nat × ByteArray)) : List ByteArray := snds (l.filter fun x => k ≤ x.1)
theorem fromAt_yes {k : Nat} {l : List (Nat × ByteArray)} {x : Nat × ByteArray} (h : k ≤ x.1) : fromAt k (l ++ [x]) = fromAt k l ++ [x.2] := by simp [fromAt, snds, List.filter_append, h]
theorem fromAt_no {k : Nat} {l : List (Nat × ByteArray)} {x : Nat × ByteArray} (h : ¬ k ≤ x.1) : fromAt k (l ++ [x]) = fromAt k l := by
  have : decide (k ≤ x.1) = false := by simpa using h
  simp [fromAt, snds, List.filter_append, List.filter_cons, this]
theorem fromAt_len (k : Nat) (l : List (Nat × ByteArray)) : (fromAt k l).length ≤ l.length := by simp [fromAt, snds]; exact List.length_filter_le _ _
theorem fromAt_upto (k : Nat) (xs : List ByteArray) : ∀ m, m ≤ xs.length → fromAt k (upto xs m) = (xs.take m).drop k
  | 0, _ => by simp [fromAt, snds, upto]
  | m + 1, h => by
    rw [upto_succ]
    have hg : xs.getD m ⟨#[]⟩ = xs[m] := by simp [List.getD_eq_getElem?_getD, show m < xs.length by omega]
    rw [hg, List.take_succ_eq_append_getElem (by omega)]
    by_cases hk : k ≤ m
    · rw [fromAt_yes (x := (m, xs[m])) hk, fromAt_upto k xs m (by omega), List.drop_append_of_le_length (by simp; omega)]
    · rw [fromAt_no (x := (m, xs[m])) hk, fromAt_upto k xs m (by omega), List.drop_of_length_le (by simp; omega), List.drop_of_length_le (by simp; omega)]

end Go.Q
namespace Go.Proofs.YtgmljeeeomjooaaGreatDoor
open Go Go.RowKit Go.Q Go.Sort Go.Shelf

attribute [local go_sem] Oper.semAt_some

theorem _root_.Go.Q.PackAt.heap {w w' : World} {p b : Nat} {xs : List ByteArray} (h : PackAt w p b xs) (e : w'.heap = w.heap) : PackAt w' p b xs :=
  ⟨by have := h.cell; unfold Row at this ⊢; rw [e]; exact this, by have := h.bytes; unfold Row at this ⊢; rw [e]; exact this, h.items, h.size, h.many⟩
theorem Glob.heap {w w' : World} (h : Glob w) (e : w'.heap = w.heap) : Glob w' := by
  refine ⟨?_, ?_, ?_, by rw [e]; exact h.size⟩
  · have t := h.tab
    unfold Lib.TabIs World.var? at t ⊢
    rw [e]; exact t
  · obtain ⟨ev, h1, h2⟩ := h.syn
    refine ⟨ev, ?_, h2⟩
    simp only [World.cell?] at h1 ⊢
    rw [e]; exact h1
  · obtain ⟨ev, h1, h2⟩ := h.rng
    refine ⟨ev, ?_, h2⟩
    simp only [World.cell?] at h1 ⊢
    rw [e]; exact h1

theorem insert_p (p b : Nat) (xs : List ByteArray) (k : Nat) (hk : k ≤ xs.length) (s : ByteArray) (hs : s.size ≤ 65536) (hmany : xs.length ≤ 1000) (w : World) (h : PackAt w p b xs) (hG : Glob w) (hpG : 10 ≤ p) :
    Calls Tryz.prog 250 #[.pointer (some ⟨p, 0, none⟩), .int .i64 k, .string s] w fun e w' => e = .returned (.int .i64 0) ∧ ∃ b', PackAt w' p b' (insAt xs k s) ∧ w.heap.size ≤ b' ∧ Only (· = p) w w' :=
  insert_any p b xs k hk s hs hmany w h (h.small hmany) hG hpG
theorem delete_p (p b : Nat) (xs : List ByteArray) (k n : Nat) (hk : k + n ≤ xs.length) (hmany : xs.length ≤ 1000) (w : World) (h : PackAt w p b xs) (hG : Glob w) (hpG : 10 ≤ p) :
    Calls Tryz.prog 308 #[.pointer (some ⟨p, 0, none⟩), .int .i64 k, .int .i64 n] w fun e w' => e = .returned (.int .i64 0) ∧ ∃ b', PackAt w' p b' (delAt xs k n) ∧ w.heap.size ≤ b' ∧ Only (· = p) w w' :=
  delete_any p b xs k n hk hmany w h (h.small hmany) hG hpG

/-- What holds between two rounds of pour's loop. -/
structure Pouring (w : World) (p1 b1 p2 b2 at_ : Nat) (xs ys : List ByteArray) (pre : List Told) (W : World) : Prop where
  to : ∃ b', PackAt W p2 b' (ys ++ fromAt at_ (pre.map (·.1))) ∧ (b' = b2 ∨ w.heap.size ≤ b')
  from_ : PackAt W p1 b1 xs
  glob : Glob W
  box1 : Boxed W w.heap.size 3 (.int .i64 at_)
  box2 : Boxed W (w.heap.size + 1) 222 (.pointer (some ⟨p2, 0, none⟩))
  only : Only (· = p2) w W

theorem Pouring.own {w : World} {p1 b1 p2 b2 at_ B : Nat} {xs ys : List ByteArray} (hB : w.heap.size ≤ B) : OwnFrom B (Pouring w p1 b1 p2 b2 at_ xs ys) := by
  intro s W W' row h hg hr
  have hr2 : ∀ r, row = some r → ∃ o : Obj, W.heap[r]? = some o ∧ o.isCells = false := fun r e => (hr r e).2
  have ht := typed_of_grown hg hr2
  refine ⟨?_, h.from_.typed ht (fun h => h) (fun h => h), h.glob.typed ht (fun _ _ h => h), boxed_of_grown h.box1 hg hr2, boxed_of_grown h.box2 hg hr2, h.only.grown hg fun k e hk => ?_⟩
  · obtain ⟨b', h1, h2⟩ := h.to
    exact ⟨b', h1.typed ht (fun h => h) (fun h => h), h2⟩
  · have := (hr k e).1
    omega

set_option maxRecDepth 100000 in
set_option maxHeartbeats 8000000 in
theorem pour_any (p1 b1 p2 b2 at_ : Nat) (xs ys : List ByteArray) (hat : at_ ≤ xs.length) (hm : xs.length + ys.length ≤ 1000) (hne : p1 ≠ p2) (w : World) (h1 : PackAt w p1 b1 xs) (h2 : PackAt w p2 b2 ys) (hG : Glob w) (hg1 : 10 ≤ p1) (hg2 : 10 ≤ p2) :
    Calls Tryz.prog 249 #[.pointer (some ⟨p1, 0, none⟩), .int .i64 at_, .pointer (some ⟨p2, 0, none⟩)] w fun e w' => e = .returned (.tuple #[]) ∧ ∃ b1' b2', PackAt w' p1 b1' (xs.take at_) ∧ w.heap.size ≤ b1' ∧
      PackAt w' p2 b2' (ys ++ xs.drop at_) ∧ (b2' = b2 ∨ w.heap.size ≤ b2') ∧ Only (fun k => k = p1 ∨ k = p2) w w' := by
  have h10 := hG.size
  have hn12 : b1 ≠ p2 := fun e => by
    subst e
    have := (h1.bytes.eq h2.cell).2
    cases this
  refine (callsIn_wide (n := 5)).1 ?_
  refine callsIn_of_wp_marks Tryz.func249 rfl trivial ?_ rfl
  simp only [Tryz.ntmps249, List.size_toArray, List.length_cons, List.length_nil, Nat.reduceAdd, Nat.reduceSub, Array.replicate_succ, Array.replicate_zero, List.push_toArray, List.append_toArray, List.nil_append, List.cons_append]
  gi_wp2_with (refine ⟨trivial, ?_⟩; gi_at_call 307; refine (callsIn_wide.2 (all_any _ _)).mono ?_; rintro e w' ⟨rfl, rfl⟩)
  have bA := (Boxed.new w 3 (.int .i64 (at_ : Int)))
  have bT := (Boxed.new (w.alloc (.cells #[.int .i64 (at_ : Int)] 3)) 222 (.pointer (some ⟨p2, 0, none⟩)))
  have bN := Boxed.new ((w.alloc (.cells #[.int .i64 (at_ : Int)] 3)).alloc (.cells #[.pointer (some ⟨p2, 0, none⟩)] 222)) 222 (.pointer (some ⟨p1, 0, none⟩))
  have hB0 : Below w.heap.size w (((w.alloc (.cells #[.int .i64 (at_ : Int)] 3)).alloc (.cells #[.pointer (some ⟨p2, 0, none⟩)] 222)).alloc (.cells #[.pointer (some ⟨p1, 0, none⟩)] 222)) := (((Below.refl _ w).alloc (Nat.le_refl _) _).alloc (by simp) _).alloc (by simp; omega) _
  rw [World.size_alloc] at bT bN
  rw [World.size_alloc] at bN
  have hI0 : Pouring w p1 b1 p2 b2 at_ xs ys [] (((w.alloc (.cells #[.int .i64 (at_ : Int)] 3)).alloc (.cells #[.pointer (some ⟨p2, 0, none⟩)] 222)).alloc (.cells #[.pointer (some ⟨p1, 0, none⟩)] 222)) :=
    ⟨⟨b2, by simpa [fromAt, snds] using h2.below hB0 h2.cell.lt h2.bytes.lt, .inl rfl⟩, h1.below hB0 h1.cell.lt h1.bytes.lt, hG.below hB0 h10, (bA.alloc _).alloc _, bT.alloc _, Only.of_below hB0⟩
  have hp1l := h1.cell.lt
  have hp2l := h2.cell.lt
  have hsz3 : (((w.alloc (.cells #[.int .i64 (at_ : Int)] 3)).alloc (.cells #[.pointer (some ⟨p2, 0, none⟩)] 222)).alloc (.cells #[.pointer (some ⟨p1, 0, none⟩)] 222)).heap.size = w.heap.size + 3 := by simp
  refine wpIn_rangeFunc_ownG rfl (by omega) (gf := 334) (lb := #[.pointer (some ⟨w.heap.size + 1 + 1, 0, none⟩)]) rfl trivial (enters_of Tryz.func334 (by kernel_rfl) rfl)
    (all_stopsB (· = p2) (fun k hk => by omega) 4 (by omega) (w.heap.size + 1 + 1) p1 b1 xs (by omega) _ hne hn12 (fun k hk => by simp at hk; omega) (by simp) bN.cell hI0.from_ hI0.glob) (fun h k => Typed.trans h k) ?kb (Below.refl _ _) (fun _ => rfl)
    (Pouring w p1 b1 p2 b2 at_ xs ys) (fun _ _ _ => False) (Pouring.own (by simp; omega)) (fun _ _ _ _ _ hs _ _ => hs) hI0
    (fun x => { tmps := #[.pointer (some ⟨p1, 0, none⟩), .int .i64 (at_ : Int), .pointer (some ⟨p2, 0, none⟩), undef, .pointer (some ⟨w.heap.size, 0, none⟩), .pointer (some ⟨w.heap.size + 1, 0, none⟩), .int .i64 (x.1.1 : Int), .string x.1.2, .pointer (some ⟨p1, 0, none⟩), .func (.func 334) #[] #[.pointer (some ⟨w.heap.size + 1 + 1, 0, none⟩)], .int .i64 (x.1.1 : Int), .string x.1.2, undef, undef, undef, undef, undef, undef, undef, undef, undef, undef, undef, undef, undef, undef, undef], defers := [] }) ?assign ?body ?done ?stop
  case kb =>
    intro W l o o' hl h1 h2 _
    refine ⟨by simp, fun k c t fz _ hk _ => World.putObj_heap_other fun e => ?_⟩
    subst e
    rw [h1] at hk
    cases hk
    cases h2
  case assign =>
    intro l x W K hK
    gi_wp2
    exact hK
  case body =>
    rintro l pre x W hI hlt
    obtain ⟨b', hto, hb'⟩ := hI.to
    have hcA := hI.box1.cell
    have hcT := hI.box2.cell
    have hfl := fromAt_len at_ (pre.map (·.1))
    have hpl : (pre.map (·.1)).length = pre.length := by simp
    have hyl : (ys ++ fromAt at_ (pre.map (·.1))).length ≤ 1000 := by simp only [List.length_append]; omega
    have hlen := fun w' (e : w'.heap = W.heap) => len_any p2 b' _ w' (hto.heap e)
    have hins := fun w' (e : w'.heap = W.heap) => insert_p p2 b' _ (ys ++ fromAt at_ (pre.map (·.1))).length (Nat.le_refl _) x.1.2 x.2 hyl w' (hto.heap e) (hI.glob.heap e) hg2
    simp only [insAt_end] at hins
    by_cases hc : at_ ≤ x.1.1
    · have HC := Lib.hid (fromAt_yes (l := pre.map (·.1)) hc)
      have hc' : (at_ : Int) ≤ (x.1.1 : Int) := by omega
      generalize (ys ++ fromAt at_ (pre.map (·.1))).length = m at *
      have hmx := mixed
      have h248 : Fence.wide.fn 248 := trivial
      have h250 : Fence.wide.fn 250 := trivial
      gi_wp2
      gi_region_with_o (first
        | (gi_at_call 248; refine (CallsIn.inRound l (callsIn_wide.2 (hlen _ (by rfl)))).mono ?_; rintro e w' ⟨rfl, rfl⟩)
        | (gi_at_call 250; refine (CallsIn.inRound l (callsIn_wide.2 (hins _ (by rfl)))).mono ?_; rintro e w2 ⟨rfl, b2', hpk, hbb, hon⟩))
      all_goals
        gi_wp2
        have hon' := only_drew hon
        have hws := hI.only.size
        refine ⟨keeps_only hon' (fun k e => by subst e; simp; omega), Typed.only hon' (fun k c t fz h _ _ => h), ⟨⟨b2', ?_, .inr (Nat.le_trans hws hbb)⟩, hI.from_.only hon' hne hn12, hI.glob.only hon' (fun k hk => by omega), boxed_only hI.box1 hon' (by omega), boxed_only hI.box2 hon' (by omega), hI.only.trans hon'⟩⟩
        rw [List.map_append]
        have hcc := HC.out
        simp only [List.map_cons, List.map_nil] at hcc ⊢
        rw [hcc, ← List.append_assoc]
        exact hpk
    · have HC := Lib.hid (fromAt_no (l := pre.map (·.1)) hc)
      have hc' : ¬ (at_ : Int) ≤ (x.1.1 : Int) := by omega
      gi_wp2
      refine ⟨KeepsFrom.refl _ _, Typed.refl _ _, ⟨⟨b', ?_, hb'⟩, hI.from_, hI.glob, hI.box1, hI.box2, hI.only⟩⟩
      rw [List.map_append]
      have hcc := HC.out
      simp only [List.map_cons, List.map_nil] at hcc ⊢
      rw [hcc]
      exact hto
  case done =>
    rintro D ts W hD hts hI hK
    obtain ⟨b', hto, hb'⟩ := hI.to
    have hts' : ts.map (·.1) = upto xs xs.length := hts
    rw [hts', fromAt_upto at_ xs xs.length (Nat.le_refl _), List.take_length] at hto
    have hcA := hI.box1.cell
    have hlen := fun w' (e : w'.heap = W.heap) => len_any p1 b1 xs w' (hI.from_.heap e)
    have hdel := fun w' (e : w'.heap = W.heap) => delete_p p1 b1 xs at_ (xs.length - at_) (by omega) (by omega) w' (hI.from_.heap e) (hI.glob.heap e) hg1
    have hdd : delAt xs at_ (xs.length - at_) = xs.take at_ := by
      unfold delAt
      rw [List.drop_of_length_le (by omega), List.append_nil]
    rw [hdd] at hdel
    have hsub : ((xs.length - at_ : Nat) : Int) = (xs.length : Int) - (at_ : Int) := by omega
    rw [hsub] at hdel
    have hsw : IntKind.i64.wrap ((xs.length : Int) - (at_ : Int)) = (xs.length : Int) - (at_ : Int) := IntWalk.i64_in _ (by omega)
    have HT := Lib.hid hto
    have hD3 : w.heap.size + 3 ≤ D := by rw [hsz3] at hD; exact hD
    have hmx := mixed
    have h248 : Fence.wide.fn 248 := trivial
    have h308 : Fence.wide.fn 308 := trivial
    have hws := hI.only.size
    clear hts hts' hto hsub hdd
    generalize xs.length = m at *
    gi_wp2
    refine Code.wpIn_mono NoPanic.imp ?_
    gi_region_with_o (first
      | (gi_at_call 248; refine (callsIn_wide.2 (hlen _ (by rfl))).mono ?_; rintro e w' ⟨rfl, rfl⟩)
      | (gi_at_call 308; refine (callsIn_wide.2 (hdel _ (by rfl))).mono ?_; rintro e w2 ⟨rfl, b1', hpk, hbb, hon⟩))
    all_goals
      refine NoPanic.normal ?_
      have hon' := only_drew hon
      have hK' : w2.heap[D]? = some (.deferred (some [])) := hon'.at hK (by omega)
      have hgp := typed_of_grown (grownBy_putObj' w2 D (.deferred none)) (fun r e => by cases e; exact ⟨_, hK', rfl⟩)
      have hto2 := HT.out.only hon' (fun e => hne e.symm) (fun e => (rows_ne hI.from_.cell HT.out.bytes) e.symm)
      refine ⟨by simp, .inl ⟨_, _, rfl, run_takeDeferred hK', ?_⟩⟩
      refine ⟨_, results_none rfl _ _ _, rfl, b1', b', hpk.typed hgp (fun h => h) (fun h => h), Nat.le_trans hws hbb, hto2.typed hgp (fun h => h) (fun h => h), hb', ?_⟩
      refine ((hI.only.mono fun k _ e => .inr e).trans (hon'.mono fun k _ e => .inl e)).grown (grownBy_putObj' w2 D (.deferred none)) (fun k e hk => ?_)
      cases e
      omega
  case stop =>
    rintro D c pre W _ _ h _
    exact h.elim

end Go.Proofs.YtgmljeeeomjooaaGreatDoor
