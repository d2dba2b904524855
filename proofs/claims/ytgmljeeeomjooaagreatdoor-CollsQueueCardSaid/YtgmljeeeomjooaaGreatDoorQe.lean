/-
  A pack in memory; gone, Len, next, place, New.
-/
import Derived.Test.YtgmljeeeomjooaaGreatDoorQd
import Derived.Lib.LazyBuf
import Derived.Deep.RegionHeld3
import Derived.Laws.CopyOwn
import Derived.Deep.RegionLaw
import Derived.OwnWalk
set_option linter.all false
/-
  A pack in memory; gone, Len, next, place, New.
-/
namespace Go.Q
open Go Go.RowKit

/-- A pack: its cell, its piece. -/
structure PackAt (w : World) (p b : Nat) (xs : List ByteArray) : Prop where
  cell : Row w p 304 [.slice (some ⟨b, 0, none⟩) (piece xs).length (piece xs).length]
  bytes : Row w b 5 (u8s (piece xs))
  items : ∀ s ∈ xs, s.size ≤ 65536
  size : (piece xs).length ≤ 1073741824
  many : xs.length ≤ 1048576

theorem PackAt.ne {w : World} {p b : Nat} {xs : List ByteArray} (h : PackAt w p b xs) : p ≠ b := by
  intro e
  subst e
  have := (h.cell.eq h.bytes).2
  cases this
theorem PackAt.only {S : Nat → Prop} {w w' : World} {p b : Nat} {xs : List ByteArray} (h : PackAt w p b xs) (ho : Only S w w') (hp : ¬ S p) (hb : ¬ S b) : PackAt w' p b xs :=
  ⟨h.cell.only ho hp, h.bytes.only ho hb, h.items, h.size, h.many⟩
theorem PackAt.below {B : Nat} {w w' : World} {p b : Nat} {xs : List ByteArray} (h : PackAt w p b xs) (ho : Below B w w') (hp : p < B) (hb : b < B) : PackAt w' p b xs :=
  ⟨(ho.block p hp).trans h.cell, (ho.block b hb).trans h.bytes, h.items, h.size, h.many⟩
theorem PackAt.drewN {w : World} {p b : Nat} {xs : List ByteArray} (h : PackAt w p b xs) (n : Nat) : PackAt (w.drewN n) p b xs := ⟨h.cell, h.bytes, h.items, h.size, h.many⟩
theorem row_bytes {w : World} {b : Nat} {l : List UInt8} (h : Row w b 5 (u8s l)) : Proofs.YtgmljeeeomjooaaGreatDoor.BytesAt w b 0 l := fun j hj => by
  rw [Nat.zero_add]
  exact h.cell (u8s_get hj)
theorem piece_ge (xs : List ByteArray) : 9 ≤ (piece xs).length := by rw [piece_length]; omega
theorem PackAt.count {w : World} {p b : Nat} {xs : List ByteArray} (h : PackAt w p b xs) : Proofs.YtgmljeeeomjooaaGreatDoor.BytesAt w b 4 (le 4 xs.length) := by
  have hb := row_bytes h.bytes
  have := Proofs.YtgmljeeeomjooaaGreatDoor.BytesAt.part (w := w) (g := b) (off := 0) (a := le 4 (9 + (encs xs).length)) (b := le 4 xs.length) (c := encs xs ++ [255]) hb
  simpa [le_length] using this
/-- The bytes behind some texts' entries. -/
theorem PackAt.at {w : World} {p b : Nat} {xs : List ByteArray} (h : PackAt w p b xs) {ys : List ByteArray} {r : List UInt8} (he : encs xs ++ [255] = encs ys ++ r) : Proofs.YtgmljeeeomjooaaGreatDoor.BytesAt w b (8 + (encs ys).length) r := by
  have hb := row_bytes h.bytes
  have e : piece xs = (le 4 (9 + (encs xs).length) ++ le 4 xs.length ++ encs ys) ++ r ++ [] := by unfold piece; rw [he]; simp
  rw [e] at hb
  have := hb.part
  have e2 : 0 + (le 4 (9 + (encs xs).length) ++ le 4 xs.length ++ encs ys).length = 8 + (encs ys).length := by simp [le_length]; omega
  rw [e2] at this
  exact this

end Go.Q
namespace Go.Proofs.YtgmljeeeomjooaaGreatDoor
open Go Go.RowKit Go.Q Go.Sort

set_option maxHeartbeats 800000 in
set_option maxRecDepth 100000 in
theorem gone_any (p b N cap : Nat) (w : World) (hc : w.cell? ⟨p, 0, none⟩ = some (.slice (some ⟨b, 0, none⟩) N cap)) :
    Calls Tryz.prog 306 #[.pointer (some ⟨p, 0, none⟩)] w fun e w' => e = .returned (.bool false) ∧ w = w' := by
  have hsn := fun w => Lib.run_eql_slice_nil (P := Tryz.prog) w 261 5 (some ⟨b, 0, none⟩) N cap (h := Tryz.underlying261)
  go_enter Tryz.func306, Tryz.ntmps306
  go_wp2
  go_ret
  exact ⟨rfl, rfl⟩

set_option maxHeartbeats 800000 in
theorem len_bytes (p b N k : Nat) (hk : k ≤ 1048576) (w : World) (hc : w.cell? ⟨p, 0, none⟩ = some (.slice (some ⟨b, 0, none⟩) N N)) (hN : 9 ≤ N) (hb : BytesAt w b 4 (le 4 k)) :
    Calls Tryz.prog 248 #[.pointer (some ⟨p, 0, none⟩)] w fun e w' => e = .returned (.int .i64 k) ∧ w = w' := by
  have hlow := low_any b 4 4 (N - 4) (le 4 k) (le_length _ _) (by omega) w (fun j hj => hb j (by rw [le_length]; exact hj))
  rw [low_le, Nat.mod_eq_of_lt (show k < 256 ^ 4 by omega)] at hlow
  have hg := gone_any p b N N w hc
  clear hb
  go_enter Tryz.func248, Tryz.ntmps248
  go_wp2_with fail
  go_at_call 306
  refine hg.mono ?_
  rintro e w' ⟨rfl, rfl⟩
  go_wp2_with fail
  go_at_call 229
  refine hlow.mono ?_
  rintro e w' ⟨rfl, rfl⟩
  go_wp2_with fail
  go_ret
  exact ⟨rfl, rfl⟩

theorem len_any (p b : Nat) (xs : List ByteArray) (w : World) (h : PackAt w p b xs) : Calls Tryz.prog 248 #[.pointer (some ⟨p, 0, none⟩)] w fun e w' => e = .returned (.int .i64 (xs.length : Int)) ∧ w = w' :=
  len_bytes p b (piece xs).length xs.length h.many w (h.cell.cell rfl) (piece_ge xs) h.count

set_option maxHeartbeats 1600000 in
set_option maxRecDepth 100000 in
theorem next_bytes (s : ByteArray) (hs : s.size ≤ 70000) (p b N at_ : Nat) (r : List UInt8) (hr : 0 < r.length) (hN : N = at_ + (enc s.data.toList ++ r).length) (hNm : N ≤ 2000000000) (w : World) (hc : w.cell? ⟨p, 0, none⟩ = some (.slice (some ⟨b, 0, none⟩) N N)) (hb : BytesAt w b at_ (enc s.data.toList ++ r)) (hG : Glob w) (hbl : b < w.heap.size) :
    Calls Tryz.prog 336 #[.pointer (some ⟨p, 0, none⟩), .int .i64 at_] w fun e w' => e = .returned (.int .i64 ((at_ + (enc s.data.toList).length : Nat) : Int)) ∧ Below w.heap.size w w' := by
  have e : enc s.data.toList ++ r = head s.data.toList ++ (back (head s.data.toList).length ++ r) := by rw [enc, List.append_assoc]
  rw [e] at hb hN
  have hle := head_length_le s.data.toList
  have hsl : s.data.toList.length = s.size := by simp
  have hrd := read_any s (by omega) b at_ (N - at_) (N - at_) (back (head s.data.toList).length ++ r) (by omega) (by simp; omega) (Nat.le_refl _) (by omega) w hb hG hbl
  have hbk := fun w => back_any (head s.data.toList).length (by omega) w
  have hcl := back_length (n := (head s.data.toList).length) (by omega)
  have hel : at_ + (enc s.data.toList).length = at_ + (head s.data.toList).length + (back (head s.data.toList).length).length := by simp [enc]; omega
  have hbp := back_pos (head s.data.toList).length
  have hN2 : at_ < N := by rw [hN]; simp; omega
  have HE := Lib.hid hel
  generalize hH : (head s.data.toList).length = H at *
  have hH70 : H ≤ 70009 := by omega
  clear e hb hN hle hr hsl hel
  unfold ReadOk at hrd
  rw [hH] at hrd
  have HH := Lib.hid hH
  clear hH
  go_enter Tryz.func336, Tryz.ntmps336
  go_wp2_with fail
  go_at_call 335
  refine hrd.mono ?_
  rintro e w1 ⟨rfl, hb1⟩
  go_wp2_with fail
  go_at_call 338
  refine (hbk w1).mono ?_
  rintro e w2 ⟨v2, rfl, hv2, hb2⟩
  obtain ⟨g2, cap2, rfl⟩ := owns_pos hv2 hbp
  go_wp2_with fail
  go_ret
  refine ⟨?_, hb1.trans (hb2.mono hb1.size)⟩
  rw [HE.out]
  show Ending.returned (.int .i64 _) = _
  congr 2

end Go.Proofs.YtgmljeeeomjooaaGreatDoor

/-
  pack.ahead: contract.
-/
namespace Go.Proofs.YtgmljeeeomjooaaGreatDoor
open Go Go.RowKit Go.Q Go.Sort

theorem and127_lo {m : Nat} (h : m < 128) : bits .and .u8 (m : Int) 127 = m := by
  rw [show (127 : Int) = ((127 : Nat) : Int) from rfl, u8_and_nat _ _ (by omega) (by omega), show (127 : Nat) = 2 ^ 7 - 1 from rfl, Nat.and_two_pow_sub_one_eq_mod]
  omega
theorem and127_hi (m : Nat) : bits .and .u8 ((m % 128 + 128 : Nat) : Int) 127 = ((m % 128 : Nat) : Int) := by
  rw [show (127 : Int) = ((127 : Nat) : Int) from rfl, u8_and_nat _ _ (by omega) (by omega), show (127 : Nat) = 2 ^ 7 - 1 from rfl, Nat.and_two_pow_sub_one_eq_mod]
  omega
theorem or_grow (a x k : Nat) (ha : a < 2 ^ k) (hx : x < 128) (hk : k ≤ 14) : bits .or .i64 (a : Int) ((x * 2 ^ k : Nat) : Int) = ((a + x * 2 ^ k : Nat) : Int) := by
  have h1 : 2 ^ k ≤ 2 ^ 14 := Nat.pow_le_pow_right (by omega) hk
  have h2 : x * 2 ^ k ≤ 127 * 2 ^ 14 := Nat.mul_le_mul (by omega) h1
  rw [i64_or_nat _ _ (by omega) (by omega), Nat.or_comm, ← Nat.shiftLeft_eq, ← Nat.shiftLeft_add_eq_or_of_lt ha, Nat.add_comm]

theorem ret_int {k : IntKind} {a b : Int} (h : a = b) : Ending.returned (.int k a) = .returned (.int k b) := by rw [h]

/-- The last byte of a size. -/
theorem back_last (m : Nat) : (back m).getD ((back m).length - 1) 0 = if m < 128 then UInt8.ofNat m else UInt8.ofNat (m % 128 + 128) := by
  by_cases h : m < 128
  · rw [if_pos h, back_small h]; rfl
  · rw [if_neg h, back_big (by omega)]
    simp

set_option maxHeartbeats 3200000 in
set_option maxRecDepth 100000 in
theorem ahead_any (n0 : Nat) (hn0 : n0 ≤ 70009) (p b N S at_ : Nat) (hat : at_ = S + (back n0).length) (hS : n0 ≤ S) (hN : at_ < N) (hNm : N ≤ 1073741824) (w : World) (hc : w.cell? ⟨p, 0, none⟩ = some (.slice (some ⟨b, 0, none⟩) N N)) (hb : BytesAt w b S (back n0)) :
    Calls Tryz.prog 340 #[.pointer (some ⟨p, 0, none⟩), .int .i64 at_] w fun e w' => e = .returned (.int .i64 ((S - n0 : Nat) : Int)) ∧ w = w' := by
  have hbp := back_pos n0
  have hat1 : 1 ≤ at_ := by omega
  have HN := Lib.hid hNm
  have hNm' : (N : Int) ≤ 9223372036854775807 := by omega
  have HS := Lib.hid hat
  have HB := Lib.hid hb
  have H0 := Lib.hid hn0
  clear hNm hat hb hn0
  go_enter Tryz.func340, Tryz.ntmps340
  go_wp2_with fail
  go_loop [1, 5, 6] (fun x y z => ∃ k m acc : Nat, k ≤ 2 ∧ n0 = m * 2 ^ (7 * k) + acc ∧ acc < 2 ^ (7 * k) ∧ (∃ tl, back n0 = back m ++ tl) ∧ x = .int .i64 ((S + ((back m).length - 1) : Nat) : Int) ∧ y = .int .i64 acc ∧ z = .int .i64 ((7 * k : Nat) : Int)) (fun x _ _ => (intOf x).toNat)
  case atStart =>
    refine ⟨0, n0, 0, by omega, by omega, by omega, ⟨[], by simp⟩, ?_, rfl, rfl⟩
    rw [HS.out]
    congr 1
    omega
  case round =>
    obtain ⟨k, m, acc, hk, hn, hacc, ⟨tl, htl⟩, rfl, rfl, rfl⟩ := hrel
    have hlast := back_last m
    have hmp := back_pos m
    have hln : (back n0).length = (back m).length + tl.length := by rw [htl]; simp
    have hcell : w.cell? ⟨b, S + ((back m).length - 1), none⟩ = some (.int .u8 ((if m < 128 then UInt8.ofNat m else UInt8.ofNat (m % 128 + 128)).toNat : Int)) := by
      rw [HB.out _ (by omega), ← hlast, htl]
      congr 3
      simp only [List.getD_eq_getElem?_getD]
      rw [List.getElem?_append_left (by omega)]
    have hA : S + ((back m).length - 1) < N := by have := HS.out; omega
    have hAm : S + ((back m).length - 1) ≤ 1073741824 := by have := HN.out; omega
    by_cases hm : m < 128
    · rw [if_pos hm] at hcell
      have e1 : ((UInt8.ofNat m).toNat : Int) = m := by rw [UInt8.toNat_ofNat']; omega
      rw [e1] at hcell
      have hand := and127_lo hm
      have hor := or_grow acc m (7 * k) hacc hm (by omega)
      have hbm : (back m).length - 1 = 0 := by rw [back_small hm]; rfl
      rw [hbm, Nat.add_zero] at hcell hA hAm ⊢
      rw [show acc + m * 2 ^ (7 * k) = n0 by omega] at hor
      have hn0 := H0.out
      have HH := Lib.hid hn
      clear hn hacc hlast hmp hln htl
      have h3 : k = 0 ∨ k = 1 ∨ k = 2 := by omega
      rcases h3 with rfl | rfl | rfl
      all_goals
        simp only [Nat.mul_zero, Nat.mul_one, Nat.reduceMul, Nat.reducePow, Nat.pow_zero] at hor
        try (have hor' : bits .or .i64 (acc : Int) ((m : Int) * 128) = n0 := by rw [← hor]; congr 1)
        try (have hor' : bits .or .i64 (acc : Int) ((m : Int) * 16384) = n0 := by rw [← hor]; congr 1)
        go_wp2_with fail
        go_ret
        exact ⟨ret_int (by omega), rfl⟩
    · rw [if_neg hm] at hcell
      have e1 : ((UInt8.ofNat (m % 128 + 128)).toNat : Int) = ((m % 128 + 128 : Nat) : Int) := by rw [UInt8.toNat_ofNat']; omega
      rw [e1] at hcell
      have hand := and127_hi m
      have hbig := back_big (n := m) (by omega)
      have hbl : (back m).length - 1 = (back (m / 128)).length := by rw [hbig]; simp
      have hbp2 := back_pos (m / 128)
      rw [hbl] at hcell hA hAm ⊢
      have hn0 := H0.out
      have hk1 : k = 0 ∨ k = 1 := by
        rcases (by omega : k = 0 ∨ k = 1 ∨ k = 2) with h | h | h
        · exact .inl h
        · exact .inr h
        · subst h; omega
      have hor := or_grow acc (m % 128) (7 * k) hacc (by omega) (by omega)
      have hdm : m = 128 * (m / 128) + m % 128 := by omega
      have hx1 : m % 128 < 128 := by omega
      generalize hq : m / 128 = q at *
      generalize hx : m % 128 = x at *
      have hlt : ¬ ((x + 128 : Nat) : Int) < 128 := by omega
      have HH := Lib.hid (show n0 = m * 2 ^ (7 * k) + acc ∧ acc < 2 ^ (7 * k) ∧ m = 128 * q + x ∧ back n0 = back q ++ ([UInt8.ofNat (x + 128)] ++ tl) from ⟨hn, hacc, hdm, by rw [htl, hbig, List.append_assoc]⟩)
      have HL := Lib.hid hbp2
      clear hn hacc hlast hmp hln htl hbig hbl hdm hq hx hbp2
      generalize hB : (back q).length = B at *
      have HBB := Lib.hid hB
      have hB1 : 1 ≤ B := HL.out
      clear hB hm hn0 e1
      have ex : ((x + 128 : Nat) : Int) = (x : Int) + 128 := by omega
      rw [ex] at hand hcell hlt
      rcases hk1 with rfl | rfl
      all_goals
        simp only [Nat.mul_zero, Nat.mul_one, Nat.reduceMul, Nat.reducePow, Nat.pow_zero] at hor
        try (have hor' : bits .or .i64 (acc : Int) ((x : Int) * 128) = ((acc + x * 128 : Nat) : Int) := by rw [← hor]; congr 1)
        go_wp2_with fail
        go_round
        case rel =>
          obtain ⟨q1, q2, q3, q4⟩ := HH.out
          have q5 := HBB.out
          first
          | exact ⟨1, q, acc + x, by omega, by omega, by omega, ⟨_, q4⟩, int_congr (by omega), rfl, rfl⟩
          | exact ⟨2, q, acc + x * 128, by omega, by omega, by omega, ⟨_, q4⟩, int_congr (by omega), int_congr (by omega), rfl⟩
        case measure => simp [intOf] <;> omega

end Go.Proofs.YtgmljeeeomjooaaGreatDoor

/-
  pack.seek's walk, over next and over ahead; seek.
-/
namespace Go.Proofs.YtgmljeeeomjooaaGreatDoor
open Go Go.RowKit Go.Q Go.Sort

set_option maxHeartbeats 1600000 in
set_option maxRecDepth 100000 in
theorem walk_next (p steps : Nat) (hs : steps ≤ 1048576) (f : Nat → Nat) (W : World) (hstep : ∀ i, i < steps → ∀ w, Below W.heap.size W w → Calls Tryz.prog 336 #[.pointer (some ⟨p, 0, none⟩), .int .i64 (f i)] w fun e w' => e = .returned (.int .i64 (f (i + 1) : Int)) ∧ Below w.heap.size w w') :
    Calls Tryz.prog 339 #[.int .i64 (f 0), .int .i64 steps, .func (.func 336) #[.pointer (some ⟨p, 0, none⟩)] #[]] W fun e w' => e = .returned (.int .i64 (f steps)) ∧ Below W.heap.size W w' := by
  have hsm : (steps : Int) ≤ 1048576 := by omega
  go_enter Tryz.func339, Tryz.ntmps339
  go_wp2_with fail
  go_loopw [0, 8] (fun x i wr => ∃ k : Nat, k ≤ steps ∧ i = .int .i64 k ∧ x = .int .i64 (f k) ∧ Below W.heap.size W wr) (fun _ i _ => steps - (intOf i).toNat)
  case atStart => exact ⟨0, Nat.zero_le _, rfl, rfl, Below.refl _ _⟩
  case round =>
    obtain ⟨k, hk, rfl, rfl, hb⟩ := hrel
    by_cases hlt : k < steps
    · have hst := hstep k hlt wr hb
      clear hstep
      go_wp2_with fail
      go_at_call 336
      refine hst.mono ?_
      rintro e w2 ⟨rfl, hb2⟩
      have hb' := hb.trans (hb2.mono hb.size)
      go_wp2_with fail
      go_roundw
      case rel => exact ⟨k + 1, by omega, rfl, rfl, hb'⟩
      case measure => simp [intOf] <;> omega
    · obtain rfl : k = steps := by omega
      clear hstep
      go_wp2_with fail
      go_ret
      exact ⟨rfl, hb⟩

set_option maxHeartbeats 1600000 in
set_option maxRecDepth 100000 in
theorem walk_ahead (p steps : Nat) (hs : steps ≤ 1048576) (f : Nat → Nat) (W : World) (hstep : ∀ i, i < steps → ∀ w, Below W.heap.size W w → Calls Tryz.prog 340 #[.pointer (some ⟨p, 0, none⟩), .int .i64 (f i)] w fun e w' => e = .returned (.int .i64 (f (i + 1) : Int)) ∧ Below w.heap.size w w') :
    Calls Tryz.prog 339 #[.int .i64 (f 0), .int .i64 steps, .func (.func 340) #[.pointer (some ⟨p, 0, none⟩)] #[]] W fun e w' => e = .returned (.int .i64 (f steps)) ∧ Below W.heap.size W w' := by
  have hsm : (steps : Int) ≤ 1048576 := by omega
  go_enter Tryz.func339, Tryz.ntmps339
  go_wp2_with fail
  go_loopw [0, 8] (fun x i wr => ∃ k : Nat, k ≤ steps ∧ i = .int .i64 k ∧ x = .int .i64 (f k) ∧ Below W.heap.size W wr) (fun _ i _ => steps - (intOf i).toNat)
  case atStart => exact ⟨0, Nat.zero_le _, rfl, rfl, Below.refl _ _⟩
  case round =>
    obtain ⟨k, hk, rfl, rfl, hb⟩ := hrel
    by_cases hlt : k < steps
    · have hst := hstep k hlt wr hb
      clear hstep
      go_wp2_with fail
      go_at_call 340
      refine hst.mono ?_
      rintro e w2 ⟨rfl, hb2⟩
      have hb' := hb.trans (hb2.mono hb.size)
      go_wp2_with fail
      go_roundw
      case rel => exact ⟨k + 1, by omega, rfl, rfl, hb'⟩
      case measure => simp [intOf] <;> omega
    · obtain rfl : k = steps := by omega
      clear hstep
      go_wp2_with fail
      go_ret
      exact ⟨rfl, hb⟩

end Go.Proofs.YtgmljeeeomjooaaGreatDoor

/-
  pack.seek: contract.
-/
namespace Go.Q
open Go Go.RowKit

/-- Where the entry of a place begins. -/
def pos (xs : List ByteArray) (i : Nat) : Nat := 8 + (encs (xs.take i)).length
theorem pos_zero (xs : List ByteArray) : pos xs 0 = 8 := rfl
theorem pos_all (xs : List ByteArray) : pos xs xs.length = (piece xs).length - 1 := by unfold pos; rw [List.take_length, piece_length]; omega
theorem take_snoc' {xs : List ByteArray} {i : Nat} (h : i < xs.length) : xs.take (i + 1) = xs.take i ++ [xs[i]] := by rw [List.take_succ_eq_append_getElem h]
theorem pos_succ {xs : List ByteArray} {i : Nat} (h : i < xs.length) : pos xs (i + 1) = pos xs i + (enc xs[i].data.toList).length := by
  unfold pos
  rw [take_snoc' h, encs_append, List.length_append]
  simp [encs]; omega
theorem encs_split {xs : List ByteArray} {i : Nat} (h : i < xs.length) : encs xs ++ [255] = encs (xs.take i) ++ (enc xs[i].data.toList ++ (encs (xs.drop (i + 1)) ++ [255])) := by
  have e : xs = xs.take i ++ (xs[i] :: xs.drop (i + 1)) := by rw [List.getElem_cons_drop, List.take_append_drop]
  conv => lhs; rw [e]
  rw [encs_append, encs_cons]
  simp
theorem pos_le (xs : List ByteArray) (i : Nat) : pos xs i ≤ (piece xs).length - 1 := by
  unfold pos
  rw [piece_length]
  have e : encs xs = encs (xs.take i) ++ encs (xs.drop i) := by rw [← encs_append, List.take_append_drop]
  rw [e, List.length_append]
  omega
theorem PackAt.entry {w : World} {p b : Nat} {xs : List ByteArray} (h : PackAt w p b xs) {i : Nat} (hi : i < xs.length) : Proofs.YtgmljeeeomjooaaGreatDoor.BytesAt w b (pos xs i) (enc xs[i].data.toList ++ (encs (xs.drop (i + 1)) ++ [255])) :=
  h.at (encs_split hi)
theorem pos_end {xs : List ByteArray} {i : Nat} (hi : i < xs.length) : (piece xs).length = pos xs i + (enc xs[i].data.toList ++ (encs (xs.drop (i + 1)) ++ [255])).length := by
  have := congrArg List.length (encs_split hi)
  rw [piece_length, pos]
  simp at this ⊢
  omega

end Go.Q
namespace Go.Proofs.YtgmljeeeomjooaaGreatDoor
open Go Go.RowKit Go.Q Go.Sort

theorem next_pack (p b : Nat) (xs : List ByteArray) (i : Nat) (hi : i < xs.length) (w : World) (h : PackAt w p b xs) (hG : Glob w) :
    Calls Tryz.prog 336 #[.pointer (some ⟨p, 0, none⟩), .int .i64 (pos xs i)] w fun e w' => e = .returned (.int .i64 (pos xs (i + 1) : Int)) ∧ Below w.heap.size w w' := by
  have hs := h.items xs[i] (List.getElem_mem hi)
  have := next_bytes xs[i] (by omega) p b (piece xs).length (pos xs i) (encs (xs.drop (i + 1)) ++ [255]) (by simp) (pos_end hi) (by have := h.size; omega) w (h.cell.cell rfl) (h.entry hi) hG h.bytes.lt
  rw [pos_succ hi]
  exact this

theorem ahead_pack (p b : Nat) (xs : List ByteArray) (i : Nat) (hi : i < xs.length) (w : World) (h : PackAt w p b xs) :
    Calls Tryz.prog 340 #[.pointer (some ⟨p, 0, none⟩), .int .i64 (pos xs (i + 1))] w fun e w' => e = .returned (.int .i64 (pos xs i : Int)) ∧ Below w.heap.size w w' := by
  have hs := h.items xs[i] (List.getElem_mem hi)
  have hle := head_length_le xs[i].data.toList
  have hsl : xs[i].data.toList.length = xs[i].size := by simp
  have he := h.entry hi
  have e : enc xs[i].data.toList ++ (encs (xs.drop (i + 1)) ++ [255]) = head xs[i].data.toList ++ back (head xs[i].data.toList).length ++ (encs (xs.drop (i + 1)) ++ [255]) := by rw [enc]
  have hend := pos_end hi
  rw [e] at he
  have hsz := h.size
  have := ahead_any (head xs[i].data.toList).length (by omega) p b (piece xs).length (pos xs i + (head xs[i].data.toList).length) (pos xs (i + 1)) (by rw [pos_succ hi, enc, List.length_append]; omega) (by omega)
    (by rw [hend, pos_succ hi]; simp) (by omega) w (h.cell.cell rfl) he.part
  rw [Nat.add_sub_cancel] at this
  exact this.mono fun e w' ⟨h1, h2⟩ => ⟨h1, h2 ▸ Below.refl _ _⟩

set_option maxHeartbeats 3200000 in
set_option maxRecDepth 100000 in
theorem seek_any (p b : Nat) (xs : List ByteArray) (at_ : Nat) (hat : at_ ≤ xs.length) (w : World) (h : PackAt w p b xs) (hG : Glob w) :
    Calls Tryz.prog 310 #[.pointer (some ⟨p, 0, none⟩), .int .i64 at_] w fun e w' => e = .returned (.int .i64 (pos xs at_ : Int)) ∧ Below w.heap.size w w' := by
  have hlen := len_any p b xs w h
  have hp := h.cell.lt
  have hb := h.bytes.lt
  have hm := h.many
  have hg10 := hG.size
  have hc := h.cell.cell (i := 0) rfl
  have hN := piece_ge xs
  have hNm := h.size
  by_cases hhalf : xs.length / 2 < at_
  · have hw := walk_ahead p (xs.length - at_) (by omega) (fun i => pos xs (xs.length - i)) w (fun i hi w' hw' => by
      have := ahead_pack p b xs (xs.length - i - 1) (by omega) w' (h.below hw' hp hb)
      rw [show xs.length - i - 1 + 1 = xs.length - i by omega] at this
      rw [show xs.length - (i + 1) = xs.length - i - 1 by omega]
      exact this)
    simp only [Nat.sub_zero] at hw
    rw [show xs.length - (xs.length - at_) = at_ by omega, pos_all] at hw
    have e1 : (((piece xs).length - 1 : Nat) : Int) = ((piece xs).length : Int) - 1 := by omega
    have e2 : ((xs.length - at_ : Nat) : Int) = (xs.length : Int) - at_ := by omega
    rw [e1, e2] at hw
    have hhalf' : ((xs.length : Int) / 2 < at_) := by omega
    generalize pos xs at_ = R at *
    generalize (piece xs).length = N at *
    generalize xs.length = n at *
    clear h hG e1 e2
    go_enter Tryz.func310, Tryz.ntmps310
    go_wp2_with fail
    go_at_call 248
    refine hlen.mono ?_
    rintro e w' ⟨rfl, rfl⟩
    go_wp2_with fail
    go_at_call 339
    refine hw.mono ?_
    rintro e w' ⟨rfl, hbl⟩
    go_wp2_with fail
    go_ret
    exact ⟨rfl, hbl⟩
  · have hw := walk_next p at_ (by omega) (fun i => pos xs i) w (fun i hi w' hw' => next_pack p b xs i (by omega) w' (h.below hw' hp hb) (hG.below hw' hg10))
    simp only [pos_zero] at hw
    have hhalf' : ¬ ((xs.length : Int) / 2 < at_) := by omega
    generalize pos xs at_ = R at *
    generalize (piece xs).length = N at *
    generalize xs.length = n at *
    clear h hG
    go_enter Tryz.func310, Tryz.ntmps310
    go_wp2_with fail
    go_at_call 248
    refine hlen.mono ?_
    rintro e w' ⟨rfl, rfl⟩
    go_wp2_with fail
    go_at_call 339
    refine hw.mono ?_
    rintro e w' ⟨rfl, hbl⟩
    go_wp2_with fail
    go_ret
    exact ⟨rfl, hbl⟩

end Go.Proofs.YtgmljeeeomjooaaGreatDoor

/-
  pack.place, pack.Get: contracts.
-/
namespace Go.Q
open Go Go.RowKit
theorem and_of {a b : Prop} (h : a) (k : a → b) : a ∧ b := ⟨h, k h⟩
theorem b_call {w0 w1 w2 : World} (hb : Below w1.heap.size w1 w2) (h : Below w0.heap.size w0 w1) : Below w0.heap.size w0 w2 := h.trans (hb.mono h.size)
end Go.Q
namespace Go.Proofs.YtgmljeeeomjooaaGreatDoor
open Go Go.RowKit Go.Q Go.Sort

set_option maxHeartbeats 1600000 in
set_option maxRecDepth 100000 in
theorem place_in (p b : Nat) (xs : List ByteArray) (k : Nat) (hk : k < xs.length) (w : World) (h : PackAt w p b xs) :
    Calls Tryz.prog 397 #[.pointer (some ⟨p, 0, none⟩), .int .i64 k] w fun e w' => e = .returned (.tuple #[.int .i64 k, .bool true]) ∧ w = w' := by
  have hlen := len_any p b xs w h
  have hm := h.many
  have hlt : ((k : Int) < xs.length) := by omega
  have h0 : ¬ ((k : Int) < 0) := by omega
  generalize xs.length = n at *
  clear h
  go_enter Tryz.func397, Tryz.ntmps397
  go_wp2_with fail
  go_at_call 248
  refine hlen.mono ?_
  rintro e w' ⟨rfl, rfl⟩
  go_wp2_with fail
  go_ret2
  refine ⟨?_, rfl⟩
  simp [hk]

set_option maxHeartbeats 3200000 in
set_option maxRecDepth 100000 in
theorem get_any (p b : Nat) (xs : List ByteArray) (k : Nat) (hk : k < xs.length) (w : World) (h : PackAt w p b xs) (hG : Glob w) :
    Calls Tryz.prog 395 #[.pointer (some ⟨p, 0, none⟩), .int .i64 k] w fun e w' => e = .returned (.tuple #[.string xs[k], .bool true]) ∧ Below w.heap.size w w' := by
  have hpl := place_in p b xs k hk w h
  have hp := h.cell.lt
  have hb := h.bytes.lt
  have hg10 := hG.size
  have hm := h.many
  have hN := piece_ge xs
  have hNm := h.size
  have hs := h.items xs[k] (List.getElem_mem hk)
  have hseek := fun w' (hw : Below w.heap.size w w') => seek_any p b xs k (by omega) w' (h.below hw hp hb) (hG.below hw hg10)
  have hrd : ∀ w', Below w.heap.size w w' → Calls Tryz.prog 335 #[.slice (some ⟨b, pos xs k, none⟩) ((piece xs).length - pos xs k) ((piece xs).length - pos xs k)] w' (ReadOk xs[k] w') := fun w' hw => by
    have he := (h.below hw hp hb).entry hk
    have e : enc xs[k].data.toList ++ (encs (xs.drop (k + 1)) ++ [255]) = head xs[k].data.toList ++ (back (head xs[k].data.toList).length ++ (encs (xs.drop (k + 1)) ++ [255])) := by rw [enc, List.append_assoc]
    have hend := pos_end hk
    rw [e] at he hend
    exact read_any xs[k] (by omega) b (pos xs k) _ _ _ (by omega) (by simp; omega) (Nat.le_refl _) (by omega) w' he (hG.below hw hg10) (by have := hw.size; omega)
  unfold ReadOk at hrd
  have hpos := pos_le xs k
  have hkeep : ∀ w', Below w.heap.size w w' → w'.cell? ⟨p, 0, none⟩ = some (.slice (some ⟨b, 0, none⟩) (piece xs).length (piece xs).length) := fun w' hw => (h.below hw hp hb).cell.cell rfl
  have hP : pos xs k < (piece xs).length := by omega
  generalize xs[k] = s at *
  generalize (head s.data.toList).length = H at *
  generalize pos xs k = P at *
  generalize (piece xs).length = N at *
  have hP0 : (0 : Int) ≤ (P : Int) := by omega
  have hP1 : (P : Int) ≤ (N : Int) := by omega
  have hNP : ¬ N = P := by omega
  have hdr : Below w.heap.size w w.drew := (Below.refl _ _).drew
  clear h hG hN hs hpos
  go_enter Tryz.func395, Tryz.ntmps395
  go_wp2_with fail
  go_at_call 397
  refine hpl.mono ?_
  rintro e w' ⟨rfl, rfl⟩
  go_wp2_with fail
  go_region_held3 (fun w' => Below w.heap.size w w' ∧ w'.cell? ⟨p, 0, none⟩ = some (.slice (some ⟨b, 0, none⟩) N N)) ((refine and_of ?_ (fun hh => hkeep _ hh); first | exact b_call (by with_reducible assumption) (And.left (by with_reducible assumption)) | exact hdr)) (first
    | (go_at_call 310; refine (hseek _ (And.left (by with_reducible assumption))).mono ?_; rintro en wS ⟨rfl, hbS⟩)
    | (go_at_call 335; refine (hrd _ (And.left (by with_reducible assumption))).mono ?_; rintro en wR ⟨rfl, hbR⟩))
  all_goals
    go_wp2_with fail
    go_ret2
    exact ⟨rfl, b_call hbR (b_call hbS hdr)⟩

end Go.Proofs.YtgmljeeeomjooaaGreatDoor

/-
  pack.change: contract.
-/
namespace Go.Q
open Go Go.RowKit

theorem Row.raw {w : World} {b : Nat} {t : TypeId} {cs : List Value} (h : Row w b t cs) : w.heap[b]? = some (.cells cs.toArray t (0, 0)) := h

theorem splice_eq (cs : List Value) (off : Nat) (vs : List Value) : splice cs off vs = spl cs off vs := by simp [splice, spl]
/-- Three parts, one behind the other. -/
theorem three (Z a b c : List Value) (h : Z.length = a.length + b.length + c.length) : splice (splice (splice Z 0 a) a.length b) (a.length + b.length) c = a ++ b ++ c := by
  have h1 : splice Z 0 a = a ++ Z.drop a.length := by simp [splice]
  have h2 : splice (a ++ Z.drop a.length) a.length b = (a ++ b) ++ Z.drop (a.length + b.length) := by
    unfold splice
    rw [List.take_left' rfl, List.drop_append, List.drop_of_length_le (by omega), List.drop_drop]
    simp [Nat.add_sub_cancel_left]
  rw [h1, h2]
  unfold splice
  rw [List.take_left' (by simp), List.drop_of_length_le (by simp; omega)]
  simp
theorem take44 (L : List UInt8) : L = L.take 4 ++ (L.drop 4).take 4 ++ L.drop 8 := by
  rw [List.append_assoc, show (8 : Nat) = 4 + 4 from rfl, ← List.drop_drop, List.take_append_drop, List.take_append_drop]
theorem spl_mid (x b c y : List Value) (h : y.length = b.length) : spl (x ++ (b ++ c)) x.length y = x ++ (y ++ c) := by
  unfold spl
  rw [List.take_left' rfl, List.drop_append, List.drop_of_length_le (by omega), Nat.add_sub_cancel_left, List.drop_left' h.symm]
  simp
/-- The size and the count are written anew. -/
theorem heads (x y a b c : List UInt8) (ha : a.length = 4) (hx : x.length = 4) (hb : b.length = 4) (hy : y.length = 4) : spl (spl (u8s (a ++ b ++ c)) 0 (u8s x)) 4 (u8s y) = u8s (x ++ y ++ c) := by
  have h1 := spl_mid [] (u8s a) (u8s b ++ u8s c) (u8s x) (by simp [u8s, ha, hx])
  have h2 := spl_mid (u8s x) (u8s b) (u8s c) (u8s y) (by simp [u8s, hb, hy])
  simp only [u8s_append, List.nil_append, List.length_nil, u8s_length, hx, List.append_assoc] at h1 h2 ⊢
  rw [h1, h2]

end Go.Q
namespace Go.Proofs.YtgmljeeeomjooaaGreatDoor
open Go Go.RowKit Go.Q Go.Sort

theorem info5s : (Tryz.prog.info? 5).map (·.size) = some 1 := by kernel_rfl

theorem src_of {w : World} {b off : Nat} {l : List UInt8} (h : BytesAt w b off l) : ∀ j v, (u8s l)[j]? = some v → w.cell? ((⟨b, off, none⟩ : Addr).add j) = some v := by
  intro j v hj
  have hlt : j < l.length := by
    have := (List.getElem?_eq_some_iff.1 hj).1
    simpa [u8s] using this
  rw [u8s_get hlt] at hj
  cases hj
  have := h j hlt
  cases j with
  | zero => simpa [Addr.add_lit] using this
  | succ j => simpa [Addr.add_lit] using this
theorem one_u8s (l : List UInt8) : ∀ v ∈ u8s l, v.oneCell' = true := by
  intro v hv
  simp only [u8s, List.mem_map] at hv
  obtain ⟨x, _, rfl⟩ := hv
  rfl
theorem bytes_take {w : World} {b : Nat} {l : List UInt8} (h : BytesAt w b 0 l) (n : Nat) : BytesAt w b 0 (l.take n) := fun j hj => by
  have hj2 : j < n ∧ j < l.length := by simpa [Nat.lt_min] using hj
  rw [h j hj2.2]
  congr 3
  simp [List.getD_eq_getElem?_getD, List.getElem?_take, hj2.1]
theorem bytes_drop {w : World} {b : Nat} {l : List UInt8} (h : BytesAt w b 0 l) (n : Nat) : BytesAt w b n (l.drop n) := fun j hj => by
  have hj2 : n + j < l.length := by have : j < l.length - n := by simpa using hj
                                    omega
  have := h (n + j) hj2
  rw [Nat.zero_add] at this
  rw [this]
  congr 3
  simp [List.getD_eq_getElem?_getD, List.getElem?_drop]

theorem size_int {size N T F E : Nat} (hsize : size = N - (T - F) + E) (hFT : F ≤ T) (hT : T < N) : (size : Int) = (N : Int) - ((T : Int) - (F : Int)) + (E : Int) := by omega

set_option maxHeartbeats 6400000 in
set_option maxRecDepth 100000 in
theorem change_any (p b0 F T E N k m size : Nat) (more : Int) (sp : Option Addr) (ecap : Nat) (l e : List UInt8) (hl : l.length = N) (he : e.length = E) (hF : 8 ≤ F) (hFT : F ≤ T) (hT : T < N) (hN : N ≤ 1073741824) (hE : E ≤ 1000000) (hk : k ≤ 1048576) (hm : (m : Int) = k + more) (hm2 : m ≤ 1048577) (hsize : size = N - (T - F) + E)
    (W : World) (hc : Row W p 304 [.slice (some ⟨b0, 0, none⟩) N N]) (hr : Row W b0 5 (u8s l)) (hcount : BytesAt W b0 4 (le 4 k))
    (hsp : 0 < E → ∃ g2, sp = some ⟨g2, 0, none⟩ ∧ g2 < W.heap.size ∧ BytesAt W g2 0 e) :
    Calls Tryz.prog 311 #[.pointer (some ⟨p, 0, none⟩), .int .i64 F, .int .i64 T, .slice sp E ecap, .int .i64 more] W fun e' w' => e' = .returned (.tuple #[]) ∧
      Row w' p 304 [.slice (some ⟨W.heap.size, 0, none⟩) size size] ∧ Row w' W.heap.size 5 (u8s (le 4 size ++ le 4 m ++ (l.take F ++ e ++ l.drop T).drop 8)) ∧ Only (· = p) W w' := by
  obtain ⟨i0, hi, hz0, hz1, hz2⟩ := info_parts info5
  have hlen := len_bytes p b0 N k hk W (hc.cell rfl) (by omega) hcount
  have hcp := hc.cell (i := 0) rfl
  have hpl := hc.lt
  have hb0l := hr.lt
  have hb := row_bytes hr
  have hsz1 := size_int hsize hFT hT
  have hpay := three
  generalize hX1 : u8s (l.take F) = X1
  generalize hX2 : u8s e = X2
  generalize hX3 : u8s (l.drop T) = X3
  have l1 : X1.length = F := by rw [← hX1, u8s_length, List.length_take]; omega
  have l2 : X2.length = E := by rw [← hX2, u8s_length, he]
  have l3 : X3.length = N - T := by rw [← hX3, u8s_length, List.length_drop]; omega
  have s1 : ∀ w, Below W.heap.size W w → ∀ j v, X1[j]? = some v → w.cell? ((⟨b0, 0, none⟩ : Addr).add j) = some v := fun w hw => by rw [← hX1]; exact src_of ((bytes_take hb F).below hw hb0l)
  have s3 : ∀ w, Below W.heap.size W w → ∀ j v, X3[j]? = some v → w.cell? ((⟨b0, T, none⟩ : Addr).add j) = some v := fun w hw => by rw [← hX3]; exact src_of ((bytes_drop hb T).below hw hb0l)
  have s2 : ∀ w, Below W.heap.size W w → 0 < E → ∃ ad, sp = some ad ∧ ∀ j v, X2[j]? = some v → w.cell? (ad.add j) = some v := fun w hw h0 => by
    obtain ⟨g2, h1, h2, h3⟩ := hsp h0
    exact ⟨_, h1, by rw [← hX2]; exact src_of (h3.below hw h2)⟩
  have o1 : ∀ v ∈ X1, v.oneCell' = true := by rw [← hX1]; exact one_u8s _
  have o2 : ∀ v ∈ X2, v.oneCell' = true := by rw [← hX2]; exact one_u8s _
  have o3 : ∀ v ∈ X3, v.oneCell' = true := by rw [← hX3]; exact one_u8s _
  have hFEs : F + E < size := by clear hsp s1 s2 s3; omega
  have hFs : F < size := by clear hsp s1 s2 s3; omega
  have hsm : size ≤ 1074741824 := by clear hsp s1 s2 s3; omega
  have hHX := Lib.hid (show u8s (l.take F) = X1 ∧ u8s e = X2 ∧ u8s (l.drop T) = X3 from ⟨hX1, hX2, hX3⟩)
  have HL := Lib.hid hl
  have HE := Lib.hid he
  have HS := Lib.hid hsize
  have HM := Lib.hid hm
  have L1 := Lib.hid l1
  have L2 := Lib.hid l2
  have L3 := Lib.hid l3
  have S1 := Lib.hid s1
  have S2 := Lib.hid s2
  have S3 := Lib.hid s3
  have O1 := Lib.hid o1
  have O2 := Lib.hid o2
  have O3 := Lib.hid o3
  have HC := Lib.hid hc
  clear hX1 hX2 hX3 hl he hsize hm l1 l2 l3 s1 s2 s3 o1 o2 o3 hpay hsp hcount hb hr hc
  go_enter Tryz.func311, Tryz.ntmps311
  go_wp2_with fail
  go_at_call 248
  refine hlen.mono ?_
  rintro e' w' ⟨rfl, rfl⟩
  have hm0 : (0 : Int) ≤ k + more := by rw [← HM.out]; omega
  have hm1 : (k : Int) + more ≤ 1048577 := by rw [← HM.out]; omega
  go_wp2_with (refine wpList_make_full _ rfl _ _ 261 rfl W.heap.size 5 i0 (.int .u8 0) 1 Tryz.underlying261 hi hz0 hz1 .i64 .i64 _ _ size rfl rfl ?c1 ?c2 ?c3 ?c4 ?c5 ?_)
  case c1 => rw [← hsz1]
  case c2 => rw [← hsz1]
  case c3 => rw [hz2]; omega
  case c4 => unfold maxLen; omega
  case c5 => exact Nat.le_refl _
  intro w1 hown hgrow
  have hb1 : Below W.heap.size W w1 := (Below.refl _ _).grown hgrow (Nat.le_refl _) (by simp)
  obtain ⟨Z, hZl, hZ⟩ : ∃ Z : List Value, Z.length = size ∧ Row w1 W.heap.size 5 Z := by
    obtain ⟨_, h0 | ⟨g', cap', cur, h2, h3, h4, h5, h6, h7, h8⟩⟩ := hown
    · cases h0.1
    · cases h2
      exact ⟨cur.toList, by simp [h7], by unfold Row; simpa using h4⟩
  clear hown hgrow
  have HZ := Lib.hid hZl
  have HR := Lib.hid hZ.raw
  have hcp1 := (hb1.cell (p := ⟨p, 0, none⟩) hpl).trans hcp
  go_wp2_with (with_reducible refine wpList_copy_splice rfl (.tmp 31) (.tmp 37) 261 261 rfl 5 Tryz.underlying261 info5s _ _ _ _ _ _ rfl rfl W.heap.size 0 Z 5 HR.out X1 ?d1 ?d2 ?d3 O1.out W.heap.size W hb1 (Nat.le_refl _) ?_)
  case d1 => rw [L1.out]; exact (Nat.min_eq_left (by omega)).symm
  case d2 =>
    intro _ j v hj
    have := S1.out w1 hb1 j v hj
    cases j <;> simpa [Addr.add_lit] using this
  case d3 => rw [L1.out, HZ.out]; omega
  intro w2 hg2 hb2
  have hcp2 := (hb2.cell (p := ⟨p, 0, none⟩) hpl).trans hcp
  clear hcp1 hZ
  go_wp2_with (with_reducible refine wpList_copy_splice rfl (.tmp 41) (.tmp 42) 261 261 rfl 5 Tryz.underlying261 info5s _ _ _ _ _ _ rfl rfl W.heap.size F (splice Z 0 X1) 5 hg2.out X2 ?f1 ?f2 ?f3 O2.out W.heap.size W hb2 (Nat.le_refl _) ?_)
  case f1 => rw [L2.out]; exact (Nat.min_eq_left (by omega)).symm
  case f2 => intro h0; exact S2.out w2 hb2 (by rw [← L2.out]; exact h0)
  case f3 => rw [L2.out, length_splice _ _ _ (by rw [L1.out, HZ.out]; omega), HZ.out]; omega
  intro w3 hg3 hb3
  have hcp3 := (hb3.cell (p := ⟨p, 0, none⟩) hpl).trans hcp
  clear hcp2 hg2
  have hFE0 : (0 : Int) ≤ (F : Int) + E := by omega
  have hFE1 : (F : Int) + E ≤ size := by omega
  have hFEw : IntKind.i64.wrap ((F : Int) + E) = F + E := IntWalk.i64_in _ (by omega)
  have hT0 : (0 : Int) ≤ T := by omega
  have hT1 : (T : Int) ≤ N := by omega
  have hTn : ¬ N = T := by omega
  have hq : (F : Int) ≤ (N : Int) - ((T : Int) - (F : Int)) := by omega
  have hFEn : ¬ size = F + E := by omega
  have hFEt : ((F : Int) + E).toNat = F + E := by omega
  have hg3d : Hid (w3.drew.heap[W.heap.size]? = some (.cells (splice (splice Z 0 X1) F X2).toArray 5 (0, 0))) := hg3
  have R1 : Hid (X3.length = Nat.min (N - T) (size - (F + E))) := by
    show X3.length = _
    rw [L3.out, HS.out]
    exact (Nat.min_eq_left (by omega)).symm
  have R3 : Hid (F + E + X3.length ≤ (splice (splice Z 0 X1) F X2).length) := by
    show _ ≤ _
    rw [length_splice _ _ _ (by rw [L2.out, length_splice _ _ _ (by rw [L1.out, HZ.out]; omega), HZ.out]; omega), length_splice _ _ _ (by rw [L1.out, HZ.out]; omega), HZ.out, L3.out, HS.out]
    omega
  go_wp2_with fail
  go_region_law (with_reducible refine step_copy_splice rfl (.tmp 49) (.tmp 55) 261 261 rfl 5 Tryz.underlying261 info5s _ _ _ _ _ _ rfl rfl W.heap.size (F + E) (splice (splice Z 0 X1) F X2) 5 hg3d.out X3 R1.out (fun _ => ⟨rfl, _, rfl, S3.out _ hb3.drew⟩) R3.out O3.out W.heap.size W hb3.drew (Nat.le_refl _) ?_; intro w4 hg4 hb4)
  have hrow4 : Row w4 W.heap.size 5 (u8s (l.take F ++ e ++ l.drop T)) := by
    have := hg4.out
    obtain ⟨x1, x2, x3⟩ := hHX.out
    have h3 := three Z X1 X2 X3 (by rw [L1.out, L2.out, L3.out, HZ.out, HS.out]; omega)
    rw [L1.out, L2.out] at h3
    rw [h3] at this
    rw [u8s_append, u8s_append, x1, x2, x3]
    exact this
  have hcp4 := (hb4.cell (p := ⟨p, 0, none⟩) hpl).trans hcp
  clear hg4 hg3 hg3d hcp3 R1 R3
  go_wp2_with fail
  go_at_call 239
  rw [← hsz1]
  have hcsl : (u8s (l.take F ++ e ++ l.drop T)).length = size := by
    simp only [u8s_length, List.length_append, List.length_take, List.length_drop, HL.out, HE.out]
    rw [HS.out]; omega
  refine (put_any W.heap.size 0 4 size size _ (by omega) (by omega) (by rw [hcsl]; omega) w4 hrow4).mono ?_
  rintro e' w5 ⟨rfl, hrow5, ho5⟩
  have hpg : p ≠ W.heap.size := by omega
  have hcp5 := (ho5.cell (p := ⟨p, 0, none⟩) (by have := hb4.size; show p < _; omega) hpg).trans hcp4
  have hcs5 : (spl (u8s (l.take F ++ e ++ l.drop T)) 0 (u8s (le 4 size))).length = size := by rw [spl_length (by rw [hcsl, u8s_length, le_length]; omega), hcsl]
  have H5 := Lib.hid hcs5
  clear hrow4 hcp4 hcsl hcs5
  go_wp2_with fail
  go_at_call 239
  rw [← HM.out]
  refine (put_any W.heap.size 4 4 (size - 4) m _ (by omega) (by omega) (by rw [H5.out]; omega) w5 hrow5).mono ?_
  rintro e' w6 ⟨rfl, hrow6, ho6⟩
  have hb6 : Only (· = W.heap.size) w4 w6 := ho5.trans ho6
  have hpw4 : p < w4.heap.size := by have := hb4.size; omega
  have hp4 : Row w4 p 304 [.slice (some ⟨b0, 0, none⟩) N N] := (hb4.block p hpl).trans HC.out
  have hp6 := hp4.only hb6 hpg
  have hcp6 := hp6.cell (i := 0) rfl
  have hfr6 := hp6.free 0
  have hO6 : Only (· = p) W w6 := (Only.of_below hb4).then hb6 (fun i hi h => by omega)
  clear hcp5 hrow5
  go_wp2_with fail
  go_end0
  have hset := hp6.set 0 (.slice (some ⟨W.heap.size, 0, none⟩) size size)
  refine ⟨rfl, hset, ?_, hO6.setCell _ (fun _ => rfl) _⟩
  have hfin := hrow6.set_ne (p := ⟨p, 0, none⟩) (fun h => hpg h.symm) (.slice (some ⟨W.heap.size, 0, none⟩) size size)
  have ex : l.take F ++ e ++ l.drop T = (l.take F ++ e ++ l.drop T).take 4 ++ ((l.take F ++ e ++ l.drop T).drop 4).take 4 ++ (l.take F ++ e ++ l.drop T).drop 8 := take44 _
  have hlen8 : 8 ≤ (l.take F ++ e ++ l.drop T).length := by simp only [List.length_append, List.length_take, HL.out]; omega
  rw [ex, heads _ _ _ _ _ (by simp only [List.length_take]; omega) (le_length _ _) (by simp only [List.length_take, List.length_drop]; omega) (le_length _ _)] at hfin
  exact hfin

end Go.Proofs.YtgmljeeeomjooaaGreatDoor
