/-
  bit, of a number's text.
-/
import Derived.Test.YtehpbcpnmnhdbaaGreatDoorRs
import Derived.Test.YtehpbcpnmnhdbaaGreatDoorRw
set_option linter.all false
namespace Go.Proofs.YtehpbcpnmnhdbaaGreatDoor
open Go Go.Ev Go.RowKit

theorem tab_below {w w' : World} {n : Nat} (h : Below n w w') (hn : 0 < n) (t : Lib.TabIs Tryz.prog w "internal/strconv.uint64pow10" .u64 Lib.pow10Tab) : Lib.TabIs Tryz.prog w' "internal/strconv.uint64pow10" .u64 Lib.pow10Tab := by
  unfold Lib.TabIs World.var? at t ⊢
  rw [pow_global] at t ⊢
  simp only [Option.bind_some] at t ⊢
  rw [h.block 0 hn]
  exact t

set_option maxHeartbeats 1600000 in
set_option maxRecDepth 100000 in
theorem int_row (x : Int) (hx : In64 x) (w : World) (htab : Lib.TabIs Tryz.prog w "internal/strconv.uint64pow10" .u64 Lib.pow10Tab) (hpos : 0 < w.heap.size) :
    Calls Tryz.prog 36 #[.string (itxt x)] w fun e w' => e = .returned (.tuple #[.int .i64 x, .bool true]) ∧ Below w.heap.size w w' := by
  go_enter Tryz.func36, Tryz.ntmps36
  go_wp2_with fail
  go_at_call 88
  refine (Tryz.strconv_ParseInt_10_at64_ok (itxt x) (by have := itxt_size x hx.1 hx.2; omega) x (itxt_parse x hx.1 hx.2) _).mono ?_
  rintro e w1 ⟨rfl, hw⟩
  have hb1 : Below w.heap.size w w1 := by
    rcases hw with rfl | ⟨t, rfl⟩
    · exact Below.refl _ _
    · exact Lib.bytesWorld_below w 5 t
  have ht1 := tab_below hb1 hpos htab
  go_wp2_with fail
  go_at_call 14
  refine (Tryz.strconv_FormatInt_10 x hx.1 hx.2 w1 ht1).mono ?_
  rintro e w2 ⟨rfl, k, os, rfl⟩
  have hb2 := below_grown_sl w1.heap.size w1 k os (Nat.le_refl _)
  have hne : (Lib.itoa x == (itxt x).toList) = true := by simp [itxt]
  go_wp2_with fail
  go_ret2
  exact ⟨rfl, hb1.trans (hb2.mono hb1.size)⟩

set_option maxHeartbeats 1600000 in
set_option maxRecDepth 100000 in
theorem bit_row (n : Nat) (hn : n < 65536) (w : World) (htab : Lib.TabIs Tryz.prog w "internal/strconv.uint64pow10" .u64 Lib.pow10Tab) (hpos : 0 < w.heap.size) :
    Calls Tryz.prog 98 #[.string (itxt n)] w fun e w' => e = .returned (.tuple #[.int .i64 n, .bool true]) ∧ Below w.heap.size w w' := by
  have hx : In64 (n : Int) := by unfold In64; omega
  have h36 := int_row (n : Int) hx w htab hpos
  generalize itxt (n : Int) = p at h36 ⊢
  clear hx htab
  go_enter Tryz.func98, Tryz.ntmps98
  go_wp2_with fail
  go_at_call 36
  refine h36.mono ?_
  rintro e w1 ⟨rfl, hb⟩
  go_wp2_with fail
  go_ret2
  have hd : decide ((n : Int) < 524288) = true := decide_eq_true (by omega)
  refine ⟨?_, hb⟩
  simp [hd]

end Go.Proofs.YtehpbcpnmnhdbaaGreatDoor
