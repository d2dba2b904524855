/-
  pack.read: contract at an entry's head.
-/
import Derived.Test.YtgmljeeeomjooaaGreatDoorQc
import Derived.Test.YtgmljeeeomjooaaGreatDoorEvD
import Derived.Deep.QuietTactic
import Derived.BigQuiet
set_option linter.all false
/-
  pack.read: contract at an entry's head.
-/
namespace Go.Proofs.YtgmljeeeomjooaaGreatDoor
open Go Go.RowKit Go.Q Go.Sort

theorem bytes_run {P : Program} (w : World) (f : Value → ByteArray → Sem (ForInStep ByteArray)) (hf : ∀ n s, f (.int .u8 n) s = pure (ForInStep.yield (s.push (UInt8.ofNat n.toNat)))) :
    ∀ (l : List UInt8) (acc : ByteArray), (forIn (l.map fun b => Value.int .u8 b.toNat) acc f).run P w = .ok ⟨⟨acc.data.toList ++ l⟩⟩ w
  | [], acc => by simp
  | b :: l, acc => by
    simp only [List.map_cons, List.forIn_cons, Sem.run_bind, hf, Sem.run_pure, Result.andThen_ok]
    rw [bytes_run w f hf l]
    congr 2
    simp

theorem mixed : Tryz.prog.follows .mixedOrders = true := by kernel_rfl

/-- Bytes to a text. -/
theorem conv_at (w : World) (g off N cap : Nat) (l : List UInt8) (hl : l.length = N) (hc : ∀ j, j < N → w.cell? ⟨g, off + j, none⟩ = some (.int .u8 (l.getD j 0).toNat)) :
    (Go.convert 261 9 (.slice (some ⟨g, off, none⟩) N cap)).run Tryz.prog w = .ok (.string ⟨l.toArray⟩) w := by
  letI : Go.Ev.Gho := ⟨fun _ _ _ => True⟩
  have ok : (Go.Ev.Cx.of Tryz.prog).Ok := Go.Ev.Cx.of_ok Tryz.prog mixed
  have h1 : (underlying 261).run Tryz.prog w = .ok (.slice 5) w := Go.Ev.run_under (X := Go.Ev.Cx.of Tryz.prog) ok (by kernel_rfl) w
  have h2 : (underlying 9).run Tryz.prog w = .ok .string w := Go.Ev.run_under (X := Go.Ev.Cx.of Tryz.prog) ok (by kernel_rfl) w
  have h3 : (underlying 5).run Tryz.prog w = .ok (.int .u8) w := Go.Ev.run_under (X := Go.Ev.Cx.of Tryz.prog) ok (by kernel_rfl) w
  have hb : (loadCells ⟨g, off, none⟩ N).run Tryz.prog w = .ok (l.map fun b => Value.int .u8 b.toNat).toArray w := by
    have := run_loadCells_list (P := Tryz.prog) (w := w) ⟨g, off, none⟩ (l.map fun b => Value.int .u8 b.toNat) (fun j v hv => by
      rw [List.getElem?_map, Option.map_eq_some_iff] at hv
      obtain ⟨x, hx, rfl⟩ := hv
      have hj := (List.getElem?_eq_some_iff.1 hx).1
      have := hc j (by omega)
      rw [List.getD_eq_getElem?_getD, hx] at this
      cases j with
      | zero => simpa [Addr.add_lit] using this
      | succ j => simpa [Addr.add_lit] using this)
    rw [List.length_map, hl] at this
    exact this
  unfold Go.convert
  simp only [Sem.run_bind, h1, h2, h3, Result.andThen_ok]
  unfold Conv.bytesToString
  simp only [Sem.run_bind, hb, Result.andThen_ok]
  rw [← Array.forIn_toList]
  rw [bytes_run (P := Tryz.prog) w _ (fun n s => rfl) l ByteArray.empty]
  simp only [Result.andThen_ok, Sem.run_pure]
  rfl

/-- Bytes in a block from a place on. -/
def BytesAt (w : World) (g off : Nat) (l : List UInt8) : Prop := ∀ j, j < l.length → w.cell? ⟨g, off + j, none⟩ = some (.int .u8 (l.getD j 0).toNat)

theorem BytesAt.part {w : World} {g off : Nat} {a b c : List UInt8} (h : BytesAt w g off (a ++ b ++ c)) : BytesAt w g (off + a.length) b := by
  intro j hj
  have := h (a.length + j) (by simp; omega)
  rw [← Nat.add_assoc] at this
  rw [this]
  congr 3
  simp only [List.getD_eq_getElem?_getD]
  rw [List.append_assoc, List.getElem?_append_right (by omega), List.getElem?_append_left (by omega), show a.length + j - a.length = j by omega]
theorem BytesAt.below {w w' : World} {g off B : Nat} {l : List UInt8} (h : BytesAt w g off l) (hb : Below B w w') (hg : g < B) : BytesAt w' g off l :=
  fun j hj => (hb.cell (p := ⟨g, off + j, none⟩) hg).trans (h j hj)
theorem BytesAt.drewN {w : World} {g off : Nat} {l : List UInt8} (h : BytesAt w g off l) (n : Nat) : BytesAt (w.drewN n) g off l := h

theorem below_drewN (w : World) (n : Nat) : Below w.heap.size w (w.drewN n) := ⟨rfl, rfl, rfl, Nat.le_refl _, fun _ _ => rfl⟩

set_option maxHeartbeats 1600000 in
set_option maxRecDepth 100000 in
theorem read_short (s : ByteArray) (hn : numOf s.data.toList = none) (hl : s.size < 128) (g off len cap : Nat) (r : List UInt8) (hlen : len = (head s.data.toList ++ r).length) (hr : 0 < r.length) (hcap : len ≤ cap) (hcm : cap ≤ 2000000000) (w : World) (hb : BytesAt w g off (head s.data.toList ++ r)) :
    Calls Tryz.prog 335 #[.slice (some ⟨g, off, none⟩) len cap] w fun e w' => e = .returned (.tuple #[.string s, .int .i64 ((head s.data.toList).length : Int), .bool true]) ∧ Below w.heap.size w w' := by
  have hsz0 : s.data.toList.length = s.size := by simp
  have hh : head s.data.toList = UInt8.ofNat s.size :: s.data.toList := by
    unfold head; rw [hn, if_pos (by omega), hsz0]
  have hl2 : (head s.data.toList).length = 1 + s.size := by rw [hh]; simp; omega
  have hb0 : w.cell? ⟨g, off, none⟩ = some (.int .u8 (s.size : Int)) := by
    have := hb 0 (by simp; omega)
    rw [hh] at this
    simp only [Nat.add_zero, List.cons_append, List.getD_cons_zero, UInt8.toNat_ofNat'] at this
    rw [this, Nat.mod_eq_of_lt (by omega)]
  have hbs : BytesAt w g (off + 1) s.data.toList := by
    rw [hh] at hb
    exact BytesAt.part (a := [UInt8.ofNat s.size]) (c := r) (by simpa using hb)
  have hcv : ∀ n c, (Go.convert 261 9 (.slice (some ⟨g, off + 1, none⟩) s.size c)).run Tryz.prog (w.drewN n) = .ok (.string s) (w.drewN n) := fun n c => by
    have := conv_at (w.drewN n) g (off + 1) s.size c s.data.toList hsz0 (by rw [← hsz0]; exact hbs.drewN n)
    simpa using this
  have hlen2 : len = 1 + s.size + r.length := by rw [hlen, List.length_append, hl2]
  have HL := Lib.hid hl2
  clear hlen hh hl2 hn hb hbs hsz0
  have hc1 : 1 < cap := by omega
  have hlc : (s.size : Int) < 128 := by omega
  have HR := Lib.hid hlen2
  have hlen3 : 1 + s.size + 1 ≤ len := by omega
  clear hlen2
  go_enter Tryz.func335, Tryz.ntmps335
  go_wp2_with fail
  go_quiet (fail)
  go_wp2_with fail
  go_ret3
  exact ⟨by rw [HL.out]; rfl, below_drewN _ _⟩

theorem i64_or_nat (a b : Nat) (ha : a < 9223372036854775808) (hb : b < 9223372036854775808) : bits .or .i64 (a : Int) (b : Int) = ((a ||| b : Nat) : Int) := by
  have hx : a ||| b < 2 ^ 63 := Nat.or_lt_two_pow (by omega) (by omega)
  have h1 : (BitVec.ofInt 64 (a : Int)).toNat = a := by rw [BitVec.toNat_ofInt]; omega
  have h2 : (BitVec.ofInt 64 (b : Int)).toNat = b := by rw [BitVec.toNat_ofInt]; omega
  show IntKind.i64.wrap ((BitVec.ofInt 64 (a : Int) ||| BitVec.ofInt 64 (b : Int)).toNat : Int) = _
  rw [BitVec.toNat_or, h1, h2, IntKind.wrap_i64]
  omega
theorem or_low (n : Nat) : bits .or .i64 ((n : Int) % 256) ((n : Int) / 256 % 256 * 256) = (n : Int) % 65536 := by
  have e1 : ((n : Int) % 256) = ((n % 256 : Nat) : Int) := by omega
  have e2 : ((n : Int) / 256 % 256 * 256) = ((n / 256 % 256 * 256 : Nat) : Int) := by omega
  rw [e1, e2, i64_or_nat _ _ (by omega) (by omega), Nat.or_comm, or_shift _ _ (by omega)]
  omega
theorem or_high (n : Nat) (h : n ≤ 70000) : bits .or .i64 ((n : Int) % 65536) ((n : Int) / 65536 * 65536) = n := by
  have e1 : ((n : Int) % 65536) = ((n % 65536 : Nat) : Int) := by omega
  have e2 : ((n : Int) / 65536 * 65536) = ((n / 65536 * 65536 : Nat) : Int) := by omega
  rw [e1, e2, i64_or_nat _ _ (by omega) (by omega), Nat.or_comm]
  have h1 : n / 65536 * 65536 = (n / 65536) <<< 16 := by rw [Nat.shiftLeft_eq]
  rw [h1, ← Nat.shiftLeft_add_eq_or_of_lt (by omega), ← h1]
  omega

set_option maxHeartbeats 3200000 in
set_option maxRecDepth 100000 in
theorem read_long (s : ByteArray) (hn : numOf s.data.toList = none) (hl : ¬ s.size < 128) (hmx : s.size ≤ 70000) (g off len cap : Nat) (r : List UInt8) (hlen : len = (head s.data.toList ++ r).length) (hr : 0 < r.length) (hcap : len ≤ cap) (hcm : cap ≤ 2000000000) (w : World) (hb : BytesAt w g off (head s.data.toList ++ r)) :
    Calls Tryz.prog 335 #[.slice (some ⟨g, off, none⟩) len cap] w fun e w' => e = .returned (.tuple #[.string s, .int .i64 ((head s.data.toList).length : Int), .bool true]) ∧ Below w.heap.size w w' := by
  have hsz0 : s.data.toList.length = s.size := by simp
  have hh : head s.data.toList = [128, UInt8.ofNat s.size, UInt8.ofNat (s.size / 256), UInt8.ofNat (s.size / 256 / 256)] ++ s.data.toList := by
    unfold head; rw [hn, if_neg (by omega), hsz0]; rfl
  have hl2 : (head s.data.toList).length = 4 + s.size := by rw [hh]; simp; omega
  have hb' : BytesAt w g off ([] ++ [128, UInt8.ofNat s.size, UInt8.ofNat (s.size / 256), UInt8.ofNat (s.size / 256 / 256)] ++ (s.data.toList ++ r)) := by rw [hh, List.append_assoc] at hb; exact hb
  have hp := hb'.part
  have hb0 : w.cell? ⟨g, off, none⟩ = some (.int .u8 128) := hp 0 (by simp)
  have hb1 : w.cell? ⟨g, off + 1, none⟩ = some (.int .u8 ((s.size : Int) % 256)) := by
    have := hp 1 (by simp)
    rw [byte_nat]; exact this
  have hb2 : w.cell? ⟨g, off + 1 + 1, none⟩ = some (.int .u8 ((s.size : Int) / 256 % 256)) := by
    have := hp 2 (by simp)
    rw [show (s.size : Int) / 256 = ((s.size / 256 : Nat) : Int) by omega, byte_nat]; exact this
  have hb3 : w.cell? ⟨g, off + 1 + 2, none⟩ = some (.int .u8 ((s.size : Int) / 65536)) := by
    have := hp 3 (by simp)
    rw [show (s.size : Int) / 65536 = ((s.size / 256 / 256 : Nat) : Int) % 256 by omega, byte_nat]; exact this
  have hbs : BytesAt w g (off + 4) s.data.toList := by
    rw [hh] at hb
    exact hb.part
  have hcv : ∀ n c, (Go.convert 261 9 (.slice (some ⟨g, off + 1 + 3, none⟩) s.size c)).run Tryz.prog (w.drewN n) = .ok (.string s) (w.drewN n) := fun n c => by
    have := conv_at (w.drewN n) g (off + 4) s.size c s.data.toList hsz0 (by rw [← hsz0]; exact hbs.drewN n)
    simpa using this
  have hlen2 : len = 4 + s.size + r.length := by rw [hlen, List.length_append, hl2]
  have HL := Lib.hid hl2
  clear hlen hh hl2 hn hb hbs hsz0 hb' hp
  have ho1 := or_low s.size
  have ho2 := or_high s.size hmx
  have hc1 : 1 < cap := by omega
  have hlc : ¬ (s.size : Int) < 128 := by omega
  have hlen3 : 4 + s.size + 1 ≤ len := by omega
  have HR := Lib.hid hlen2
  clear hlen2
  go_enter Tryz.func335, Tryz.ntmps335
  go_wp2_with fail
  go_quiet (fail)
  go_wp2_with fail
  go_ret3
  exact ⟨by rw [HL.out]; rfl, below_drewN _ _⟩

end Go.Proofs.YtgmljeeeomjooaaGreatDoor

/-
  pack.read at a whole number's entry; at any entry.
-/
namespace Go.Proofs.YtgmljeeeomjooaaGreatDoor
open Go Go.RowKit Go.Q Go.Sort

set_option maxHeartbeats 800000 in
set_option maxRecDepth 100000 in
theorem whole_any (n k : Int) (h0 : -9223372036854775808 ≤ n) (h1 : n ≤ 9223372036854775807) (hk0 : 0 ≤ k) (hk : k ≤ 100) (w : World) (hG : Glob w) :
    Calls Tryz.prog 347 #[.int .i64 n, .int .i64 k] w fun e w' => e = .returned (.tuple #[.string ⟨(Lib.itoa n).toArray⟩, .int .i64 (1 + k), .bool true]) ∧ Below w.heap.size w w' := by
  have hx := intText_any n h0 h1 w hG
  clear h0 h1
  go_enter Tryz.func347, Tryz.ntmps347
  go_wp2_with fail
  go_at_call 117
  refine hx.mono ?_
  rintro e w2 ⟨rfl, hb2⟩
  go_wp2_with fail
  go_ret3
  exact ⟨rfl, hb2⟩

theorem text_of {s : ByteArray} {n : Int} (h : Lib.itoa n = s.data.toList) : (⟨(Lib.itoa n).toArray⟩ : ByteArray) = s := by
  rw [h]

def ReadOk (s : ByteArray) (w : World) (e : Ending) (w' : World) : Prop := e = .returned (.tuple #[.string s, .int .i64 ((head s.data.toList).length : Int), .bool true]) ∧ Below w.heap.size w w'

set_option maxHeartbeats 3200000 in
set_option maxRecDepth 100000 in
theorem read_i8 (s : ByteArray) (n : Int) (hn : numOf s.data.toList = some n) (hw : -128 ≤ n ∧ n < 128) (g off len cap : Nat) (r : List UInt8) (hlen : len = (head s.data.toList ++ r).length) (hr : 0 < r.length) (hcap : len ≤ cap) (hcm : cap ≤ 2000000000) (w : World) (hb : BytesAt w g off (head s.data.toList ++ r)) (hG : Glob w) (hg : g < w.heap.size) :
    Calls Tryz.prog 335 #[.slice (some ⟨g, off, none⟩) len cap] w (ReadOk s w) := by
  obtain ⟨_, hit, h0, h1⟩ := numOf_some hn
  have hwd : wid n = 1 := by unfold wid; rw [if_pos hw]
  have hh : head s.data.toList = [UInt8.ofNat 241] ++ le 1 (u64 n) := by
    unfold head; rw [hn]; simp [hwd]
  have hl2 : (head s.data.toList).length = 2 := by rw [hh]; simp [le_length]
  have hb' : BytesAt w g off ([] ++ [UInt8.ofNat 241] ++ (le 1 (u64 n) ++ r)) := by rw [hh, List.append_assoc] at hb; exact hb
  have hb0 : w.cell? ⟨g, off, none⟩ = some (.int .u8 241) := hb'.part 0 (by simp)
  have hbs : BytesAt w g (off + 1) (le 1 (u64 n)) := by
    rw [hh] at hb
    exact hb.part
  have hb1 : w.cell? ⟨g, off + 1, none⟩ = some (.int .u8 (n % 256)) := by
    have := hbs 0 (by simp [le_length])
    rw [show n % 256 = ((UInt8.ofNat (u64 n)).toNat : Int) by rw [UInt8.toNat_ofNat', u64]; omega]
    exact this
  have hcv : IntKind.i8.wrap (n % 256) = n := by
    simp only [IntKind.wrap, IntKind.signed, IntKind.bits]
    simp; omega
  have hwh := fun w hG => whole_any n 1 h0 h1 (by omega) (by omega) w hG
  rw [text_of hit] at hwh
  have hlen2 : 2 + 1 ≤ len := by rw [hlen, List.length_append, hl2]; omega
  have HL := Lib.hid hl2
  obtain ⟨hw1, hw2⟩ := hw
  clear hlen hh hl2 hn hb hbs hb' hwd hit
  have hc1 : 1 < cap := by omega
  have HX := Lib.hid h0
  have HY := Lib.hid h1
  clear h0 h1
  go_enter Tryz.func335, Tryz.ntmps335
  go_wp2_with fail
  go_at_call 347
  refine (hwh w hG).mono ?_
  rintro e w' ⟨rfl, hbl⟩
  go_wp2_with fail
  go_ret3
  exact ⟨by rw [HL.out]; rfl, hbl⟩

set_option maxHeartbeats 3200000 in
set_option maxRecDepth 100000 in
theorem read_i16 (s : ByteArray) (n : Int) (hn : numOf s.data.toList = some n) (hp : ¬ (-128 ≤ n ∧ n < 128)) (hw : -32768 ≤ n ∧ n < 32768) (g off len cap : Nat) (r : List UInt8) (hlen : len = (head s.data.toList ++ r).length) (hr : 0 < r.length) (hcap : len ≤ cap) (hcm : cap ≤ 2000000000) (w : World) (hb : BytesAt w g off (head s.data.toList ++ r)) (hG : Glob w) (hg : g < w.heap.size) :
    Calls Tryz.prog 335 #[.slice (some ⟨g, off, none⟩) len cap] w (ReadOk s w) := by
  obtain ⟨_, hit, h0, h1⟩ := numOf_some hn
  have hwd : wid n = 2 := by unfold wid; rw [if_neg hp, if_pos hw]
  have hh : head s.data.toList = [UInt8.ofNat 242] ++ le 2 (u64 n) := by
    unfold head; rw [hn]; simp [hwd]
  have hl2 : (head s.data.toList).length = 3 := by rw [hh]; simp [le_length]
  have hb' : BytesAt w g off ([] ++ [UInt8.ofNat 242] ++ (le 2 (u64 n) ++ r)) := by rw [hh, List.append_assoc] at hb; exact hb
  have hb0 : w.cell? ⟨g, off, none⟩ = some (.int .u8 242) := hb'.part 0 (by simp)
  have hbs : BytesAt w g (off + 1) (le 2 (u64 n)) := by
    rw [hh] at hb
    exact hb.part
  have hlow := low_le 2 (u64 n)
  have hcall := fun c w h => low_any g (off + 1) 2 c (le 2 (u64 n)) (le_length _ _) (by omega) w h
  rw [hlow] at hcall
  have hcv : IntKind.i16.wrap ((u64 n % 256 ^ 2 : Nat) : Int) = n := by
    simp only [IntKind.wrap, IntKind.signed, IntKind.bits, u64]
    simp; omega
  generalize u64 n % 256 ^ 2 = q at hcall hcv
  have hcall' := fun c => hcall c w fun j hj => hbs j (by rw [le_length]; exact hj)
  clear hcall hlow
  have hwh := fun w hG => whole_any n 2 h0 h1 (by omega) (by omega) w hG
  rw [text_of hit] at hwh
  have hlen2 : 3 + 1 ≤ len := by rw [hlen, List.length_append, hl2]; omega
  have HL := Lib.hid hl2
  obtain ⟨hw1, hw2⟩ := hw
  clear hlen hh hl2 hn hb hbs hb' hwd hit hp
  have hc1 : 1 < cap := by omega
  have HX := Lib.hid h0
  have HY := Lib.hid h1
  clear h0 h1
  go_enter Tryz.func335, Tryz.ntmps335
  go_wp2_with fail
  go_at_call 229
  refine (hcall' _).mono ?_
  rintro e w' ⟨rfl, rfl⟩
  go_wp2_with fail
  go_at_call 347
  refine (hwh w hG).mono ?_
  rintro e w' ⟨rfl, hbl⟩
  go_wp2_with fail
  go_ret3
  exact ⟨by rw [HL.out]; rfl, hbl⟩

set_option maxHeartbeats 3200000 in
set_option maxRecDepth 100000 in
theorem read_i32 (s : ByteArray) (n : Int) (hn : numOf s.data.toList = some n) (hp : ¬ (-32768 ≤ n ∧ n < 32768)) (hw : -2147483648 ≤ n ∧ n < 2147483648) (g off len cap : Nat) (r : List UInt8) (hlen : len = (head s.data.toList ++ r).length) (hr : 0 < r.length) (hcap : len ≤ cap) (hcm : cap ≤ 2000000000) (w : World) (hb : BytesAt w g off (head s.data.toList ++ r)) (hG : Glob w) (hg : g < w.heap.size) :
    Calls Tryz.prog 335 #[.slice (some ⟨g, off, none⟩) len cap] w (ReadOk s w) := by
  obtain ⟨_, hit, h0, h1⟩ := numOf_some hn
  have hwd : wid n = 4 := by unfold wid; rw [if_neg (by omega), if_neg hp, if_pos hw]
  have hh : head s.data.toList = [UInt8.ofNat 244] ++ le 4 (u64 n) := by
    unfold head; rw [hn]; simp [hwd]
  have hl2 : (head s.data.toList).length = 5 := by rw [hh]; simp [le_length]
  have hb' : BytesAt w g off ([] ++ [UInt8.ofNat 244] ++ (le 4 (u64 n) ++ r)) := by rw [hh, List.append_assoc] at hb; exact hb
  have hb0 : w.cell? ⟨g, off, none⟩ = some (.int .u8 244) := hb'.part 0 (by simp)
  have hbs : BytesAt w g (off + 1) (le 4 (u64 n)) := by
    rw [hh] at hb
    exact hb.part
  have hlow := low_le 4 (u64 n)
  have hcall := fun c w h => low_any g (off + 1) 4 c (le 4 (u64 n)) (le_length _ _) (by omega) w h
  rw [hlow] at hcall
  have hcv : wrap32 ((u64 n % 256 ^ 4 : Nat) : Int) = n := by
    unfold wrap32 u64; omega
  generalize u64 n % 256 ^ 4 = q at hcall hcv
  have hcall' := fun c => hcall c w fun j hj => hbs j (by rw [le_length]; exact hj)
  clear hcall hlow
  have hwh := fun w hG => whole_any n 4 h0 h1 (by omega) (by omega) w hG
  rw [text_of hit] at hwh
  have hlen2 : 5 + 1 ≤ len := by rw [hlen, List.length_append, hl2]; omega
  have HL := Lib.hid hl2
  have w64 : wrap64 n = n := IntWalk.wrap64_in n (by omega)
  clear hw
  clear hlen hh hl2 hn hb hbs hb' hwd hit hp
  have hc1 : 1 < cap := by omega
  have HX := Lib.hid h0
  have HY := Lib.hid h1
  clear h0 h1
  go_enter Tryz.func335, Tryz.ntmps335
  go_wp2_with fail
  go_at_call 229
  refine (hcall' _).mono ?_
  rintro e w' ⟨rfl, rfl⟩
  go_wp2_with fail
  go_at_call 347
  refine (hwh w hG).mono ?_
  rintro e w' ⟨rfl, hbl⟩
  go_wp2_with fail
  go_ret3
  exact ⟨by rw [HL.out]; rfl, hbl⟩

set_option maxHeartbeats 3200000 in
set_option maxRecDepth 100000 in
theorem read_i64 (s : ByteArray) (n : Int) (hn : numOf s.data.toList = some n) (hp : ¬ (-2147483648 ≤ n ∧ n < 2147483648)) (g off len cap : Nat) (r : List UInt8) (hlen : len = (head s.data.toList ++ r).length) (hr : 0 < r.length) (hcap : len ≤ cap) (hcm : cap ≤ 2000000000) (w : World) (hb : BytesAt w g off (head s.data.toList ++ r)) (hG : Glob w) (hg : g < w.heap.size) :
    Calls Tryz.prog 335 #[.slice (some ⟨g, off, none⟩) len cap] w (ReadOk s w) := by
  obtain ⟨_, hit, h0, h1⟩ := numOf_some hn
  have hwd : wid n = 8 := by unfold wid; rw [if_neg (by omega), if_neg (by omega), if_neg hp]
  have hh : head s.data.toList = [UInt8.ofNat 248] ++ le 8 (u64 n) := by
    unfold head; rw [hn]; simp [hwd]
  have hl2 : (head s.data.toList).length = 9 := by rw [hh]; simp [le_length]
  have hb' : BytesAt w g off ([] ++ [UInt8.ofNat 248] ++ (le 8 (u64 n) ++ r)) := by rw [hh, List.append_assoc] at hb; exact hb
  have hb0 : w.cell? ⟨g, off, none⟩ = some (.int .u8 248) := hb'.part 0 (by simp)
  have hbs : BytesAt w g (off + 1) (le 8 (u64 n)) := by
    rw [hh] at hb
    exact hb.part
  have hlow := low_le 8 (u64 n)
  have hcall := fun c w h => low_any g (off + 1) 8 c (le 8 (u64 n)) (le_length _ _) (by omega) w h
  rw [hlow] at hcall
  have hcv : wrap64 ((u64 n % 256 ^ 8 : Nat) : Int) = n := by
    unfold wrap64 u64; omega
  generalize u64 n % 256 ^ 8 = q at hcall hcv
  have hcall' := fun c => hcall c w fun j hj => hbs j (by rw [le_length]; exact hj)
  clear hcall hlow
  have hwh := fun w hG => whole_any n 8 h0 h1 (by omega) (by omega) w hG
  rw [text_of hit] at hwh
  have hlen2 : 9 + 1 ≤ len := by rw [hlen, List.length_append, hl2]; omega
  have HL := Lib.hid hl2
  clear hlen hh hl2 hn hb hbs hb' hwd hit hp
  have hc1 : 1 < cap := by omega
  have HX := Lib.hid h0
  have HY := Lib.hid h1
  clear h0 h1
  go_enter Tryz.func335, Tryz.ntmps335
  go_wp2_with fail
  go_at_call 229
  refine (hcall' _).mono ?_
  rintro e w' ⟨rfl, rfl⟩
  go_wp2_with fail
  go_at_call 347
  refine (hwh w hG).mono ?_
  rintro e w' ⟨rfl, hbl⟩
  go_wp2_with fail
  go_ret3
  exact ⟨by rw [HL.out]; rfl, hbl⟩

/-- At the head of any text's entry. -/
theorem read_any (s : ByteArray) (hmx : s.size ≤ 70000) (g off len cap : Nat) (r : List UInt8) (hlen : len = (head s.data.toList ++ r).length) (hr : 0 < r.length) (hcap : len ≤ cap) (hcm : cap ≤ 2000000000) (w : World) (hb : BytesAt w g off (head s.data.toList ++ r)) (hG : Glob w) (hg : g < w.heap.size) :
    Calls Tryz.prog 335 #[.slice (some ⟨g, off, none⟩) len cap] w (ReadOk s w) := by
  cases hn : numOf s.data.toList with
  | none =>
    by_cases hl : s.size < 128
    · exact read_short s hn hl g off len cap r hlen hr hcap hcm w hb
    · exact read_long s hn hl hmx g off len cap r hlen hr hcap hcm w hb
  | some n =>
    by_cases h8 : -128 ≤ n ∧ n < 128
    · exact read_i8 s n hn h8 g off len cap r hlen hr hcap hcm w hb hG hg
    · by_cases h16 : -32768 ≤ n ∧ n < 32768
      · exact read_i16 s n hn h8 h16 g off len cap r hlen hr hcap hcm w hb hG hg
      · by_cases h32 : -2147483648 ≤ n ∧ n < 2147483648
        · exact read_i32 s n hn h16 h32 g off len cap r hlen hr hcap hcm w hb hG hg
        · exact read_i64 s n hn h32 g off len cap r hlen hr hcap hcm w hb hG hg

end Go.Proofs.YtgmljeeeomjooaaGreatDoor
