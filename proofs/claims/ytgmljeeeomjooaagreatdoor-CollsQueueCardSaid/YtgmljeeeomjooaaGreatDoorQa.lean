/-
  Texts in one piece of memory: how a text is written, and that it is read back. Plain: no program in sight.
-/
import Derived.Test.YtgmljeeeomjooaaGreatDoorEvNum
import Derived.Lib.ParseIntBTie
import Derived.Below
import Derived.WalkKit
import Derived.OwnWalk
import Derived.Lib.Hide
import Derived.Test.YtgmljeeeomjooaaGreatDoorProg
import Derived.LoopTactic
import Derived.Outline
import Derived.IntWalk
import Derived.Laws.BitsAllLaws
import Derived.Maps.AppendAt
import Derived.Laws.Bits128
import Derived.RangeFuncBox
set_option linter.all false
/-
  Texts in one piece of memory: how a text is written, and that it is read back. Plain: no program in sight.
-/
namespace Go.Q
open Go.Lib

/-- A number's lowest bytes, the lowest first. -/
def le : Nat → Nat → List UInt8
  | 0, _ => []
  | w + 1, n => UInt8.ofNat n :: le w (n / 256)
/-- The number of bytes, the lowest first. -/
def low : List UInt8 → Nat
  | [] => 0
  | b :: l => b.toNat + 256 * low l

theorem le_length : ∀ (w n : Nat), (le w n).length = w
  | 0, _ => rfl
  | w + 1, n => by rw [le, List.length_cons, le_length w]
theorem low_le : ∀ (w n : Nat), low (le w n) = n % 256 ^ w
  | 0, n => by simp [le, low, Nat.mod_one]
  | w + 1, n => by
    rw [le, low, low_le w, UInt8.toNat_ofNat', show 256 ^ (w + 1) = 256 * 256 ^ w by rw [Nat.pow_succ, Nat.mul_comm], Nat.mod_mul]
theorem le_snoc : ∀ (w n : Nat), le (w + 1) n = le w n ++ [UInt8.ofNat (n / 256 ^ w)]
  | 0, n => by simp [le]
  | w + 1, n => by
    rw [le, le_snoc w (n / 256), le, List.cons_append, Nat.div_div_eq_div_mul, show 256 ^ (w + 1) = 256 * 256 ^ w by rw [Nat.pow_succ, Nat.mul_comm]]
theorem low_lt : ∀ l : List UInt8, low l < 256 ^ l.length
  | [] => by simp [low]
  | b :: l => by
    have h := low_lt l
    have hb := b.toNat_lt
    rw [low, List.length_cons, Nat.pow_succ]
    omega

/-- The number that a text is, if it is one as a number's text. -/
def numOf (s : List UInt8) : Option Int :=
  match parseIntB 64 s with
  | .ok v => if itoa v = s then some v else none
  | _ => none

theorem numOf_some {s : List UInt8} {n : Int} (h : numOf s = some n) : parseIntB 64 s = .ok n ∧ itoa n = s ∧ -9223372036854775808 ≤ n ∧ n ≤ 9223372036854775807 := by
  unfold numOf at h
  split at h
  · rename_i v hv
    split at h
    · rename_i he
      cases h
      have hb := parseIntB_bounds hv
      refine ⟨hv, he, ?_, ?_⟩ <;> omega
    · cases h
  · cases h

/-- As 64 bits without a sign. -/
def u64 (n : Int) : Nat := (n % 18446744073709551616).toNat

/-- So many bytes a whole number is kept in. -/
def wid (n : Int) : Nat :=
  if -128 ≤ n ∧ n < 128 then 1 else if -32768 ≤ n ∧ n < 32768 then 2 else if -2147483648 ≤ n ∧ n < 2147483648 then 4 else 8
theorem wid_cases (n : Int) : wid n = 1 ∨ wid n = 2 ∨ wid n = 4 ∨ wid n = 8 := by unfold wid; split <;> (try split) <;> (try split) <;> simp

/-- The head and the body of a text's entry. -/
def head (s : List UInt8) : List UInt8 :=
  match numOf s with
  | some n => UInt8.ofNat (240 + wid n) :: le (wid n) (u64 n)
  | none => if s.length < 128 then UInt8.ofNat s.length :: s else 128 :: (le 3 s.length ++ s)

/-- The size of what is ahead, to be read from behind. -/
def back (n : Nat) : List UInt8 := if n < 128 then [UInt8.ofNat n] else back (n / 128) ++ [UInt8.ofNat (n % 128 + 128)]
theorem back_small {n : Nat} (h : n < 128) : back n = [UInt8.ofNat n] := by rw [back, if_pos h]
theorem back_big {n : Nat} (h : 128 ≤ n) : back n = back (n / 128) ++ [UInt8.ofNat (n % 128 + 128)] := by rw [back, if_neg (by omega)]

/-- A text's entry. -/
def enc (s : List UInt8) : List UInt8 := head s ++ back (head s).length
/-- Texts' entries, one behind the other. -/
def encs (xs : List ByteArray) : List UInt8 := xs.flatMap fun s => enc s.data.toList
/-- Texts in one piece. -/
def piece (xs : List ByteArray) : List UInt8 := le 4 (9 + (encs xs).length) ++ le 4 xs.length ++ (encs xs ++ [255])

theorem encs_nil : encs [] = [] := rfl
theorem encs_cons (s : ByteArray) (xs : List ByteArray) : encs (s :: xs) = enc s.data.toList ++ encs xs := rfl
theorem encs_append (xs ys : List ByteArray) : encs (xs ++ ys) = encs xs ++ encs ys := List.flatMap_append
theorem piece_length (xs : List ByteArray) : (piece xs).length = 9 + (encs xs).length := by
  simp [piece, le_length]; omega

theorem head_length_le (s : List UInt8) : (head s).length ≤ s.length + 9 := by
  unfold head
  split
  · rename_i n _
    have := wid_cases n
    simp [le_length]; omega
  · split <;> simp [le_length] <;> omega
theorem head_pos (s : List UInt8) : 0 < (head s).length := by
  unfold head
  split
  · simp
  · split <;> simp
theorem back_length {n : Nat} (h : n < 2097152) : 1 ≤ (back n).length ∧ (back n).length ≤ 3 := by
  by_cases h1 : n < 128
  · rw [back_small h1]; simp
  · rw [back_big (by omega)]
    by_cases h2 : n / 128 < 128
    · rw [back_small h2]; simp
    · rw [back_big (by omega), back_small (n := n / 128 / 128) (by omega)]; simp
theorem enc_length_le (s : List UInt8) (h : s.length ≤ 65536) : (enc s).length ≤ s.length + 12 ∧ 2 ≤ (enc s).length := by
  have h1 := head_length_le s
  have h2 := back_length (n := (head s).length) (by omega)
  have h3 := head_pos s
  simp [enc]; omega

end Go.Q

/-
  A world but for some blocks; a block as a list of cells. No program in sight.
-/
namespace Go.Q
open Go Go.RowKit

/-- But for the blocks of S what was there is as it was. -/
structure Only (S : Nat → Prop) (w w' : World) : Prop where
  os : w'.os = w.os
  tape : w'.tape = w.tape
  output : w'.output = w.output
  size : w.heap.size ≤ w'.heap.size
  block : ∀ k, k < w.heap.size → ¬ S k → w'.heap[k]? = w.heap[k]?

theorem Only.refl (S : Nat → Prop) (w : World) : Only S w w := ⟨rfl, rfl, rfl, Nat.le_refl _, fun _ _ _ => rfl⟩
theorem Only.trans {S : Nat → Prop} {a b c : World} (h : Only S a b) (k : Only S b c) : Only S a c :=
  ⟨k.os.trans h.os, k.tape.trans h.tape, k.output.trans h.output, Nat.le_trans h.size k.size, fun i hi hn => (k.block i (Nat.lt_of_lt_of_le hi h.size) hn).trans (h.block i hi hn)⟩
theorem Only.mono {S T : Nat → Prop} {w w' : World} (h : Only S w w') (hs : ∀ k, k < w.heap.size → S k → T k) : Only T w w' := ⟨h.os, h.tape, h.output, h.size, fun k hk hn => h.block k hk fun e => hn (hs k hk e)⟩
/-- Behind a first step, blocks that the first step made may be written. -/
theorem Only.then {S T : Nat → Prop} {a b c : World} (h : Only S a b) (k : Only T b c) (hs : ∀ i, i < a.heap.size → T i → S i) : Only S a c :=
  ⟨k.os.trans h.os, k.tape.trans h.tape, k.output.trans h.output, Nat.le_trans h.size k.size, fun i hi hn => (k.block i (Nat.lt_of_lt_of_le hi h.size) fun e => hn (hs i hi e)).trans (h.block i hi hn)⟩
theorem Only.drew {S : Nat → Prop} {a w : World} (h : Only S a w) : Only S a w.drew := ⟨h.os, h.tape, h.output, h.size, h.block⟩
theorem Only.drewN {S : Nat → Prop} {a w : World} (h : Only S a w) (n : Nat) : Only S a (w.drewN n) := ⟨h.os, h.tape, h.output, h.size, h.block⟩
theorem Only.alloc {S : Nat → Prop} {a w : World} (h : Only S a w) (o : Obj) : Only S a (w.alloc o) :=
  h.then (T := fun _ => False) ⟨rfl, rfl, rfl, by simp, fun k hk _ => Below.heap_alloc _ _ _ hk⟩ fun _ _ h => h.elim
theorem Only.setCell {S : Nat → Prop} {a w : World} (h : Only S a w) (p : Addr) (hp : p.block < a.heap.size → S p.block) (u : Value) : Only S a (w.setCell p u) :=
  h.then (T := fun k => k = p.block) ⟨rfl, rfl, rfl, by simp [World.setCell], fun k _ hn => Below.heap_setCell _ _ _ _ hn⟩ fun i hi e => e ▸ hp (e ▸ hi)
theorem Only.setRow {S : Nat → Prop} {a w : World} (h : Only S a w) (g : Nat) (hp : g < a.heap.size → S g) (u : Array Value) : Only S a (w.setRow g u) :=
  h.then (T := fun k => k = g) ⟨rfl, rfl, rfl, by simp [World.setRow], fun k _ hn => by simp only [World.setRow, Array.getElem?_modify]; rw [if_neg (fun e => hn e.symm)]⟩ fun i hi e => e ▸ hp (e ▸ hi)
theorem Only.grown {S : Nat → Prop} {a w w' : World} {row : Option Nat} (h : Only S a w) (hg : w.grownBy w' row) (hr : ∀ k, row = some k → k < a.heap.size → S k) : Only S a w' :=
  h.then (T := fun k => row = some k) ⟨hg.os, hg.tape, hg.output, hg.size, fun k hk hn => hg.block k hk fun e => hn e.symm⟩ fun i hi e => hr i e hi
theorem Only.of_below {S : Nat → Prop} {w w' : World} (h : Below w.heap.size w w') : Only S w w' := ⟨h.os, h.tape, h.output, h.size, fun k hk _ => h.block k hk⟩
theorem Only.below {S : Nat → Prop} {w w' : World} (h : Only S w w') {B : Nat} (hB : B ≤ w.heap.size) (hs : ∀ k, k < B → ¬ S k) : Below B w w' := ⟨h.os, h.tape, h.output, h.size, fun k hk => h.block k (by omega) (hs k hk)⟩
theorem Only.below' {w w' : World} (h : Only (fun _ => False) w w') : Below w.heap.size w w' := h.below (Nat.le_refl _) fun _ _ h => h
theorem Only.cell {S : Nat → Prop} {w w' : World} (h : Only S w w') {p : Addr} (hp : p.block < w.heap.size) (hn : ¬ S p.block) : w'.cell? p = w.cell? p := World.cell?_of_block (w := w) (h.block p.block hp hn)
theorem Only.frozen {S : Nat → Prop} {w w' : World} (h : Only S w w') {p : Addr} (hp : p.block < w.heap.size) (hn : ¬ S p.block) : w'.frozen? p = w.frozen? p := World.frozen?_of_block (w := w) (h.block p.block hp hn)
theorem Only.at {S : Nat → Prop} {w w' : World} (h : Only S w w') {b : Nat} {o : Obj} (hb : w.heap[b]? = some o) (hn : ¬ S b) : w'.heap[b]? = some o :=
  (h.block b (Array.getElem?_eq_some_iff.1 hb).1 hn).trans hb

/-- A block is such cells; none of them is frozen. -/
def Row (w : World) (b : Nat) (t : TypeId) (cs : List Value) : Prop := w.heap[b]? = some (.cells cs.toArray t (0, 0))

theorem Row.lt {w : World} {b : Nat} {t : TypeId} {cs : List Value} (h : Row w b t cs) : b < w.heap.size := (Array.getElem?_eq_some_iff.1 h).1
theorem Row.cell {w : World} {b : Nat} {t : TypeId} {cs : List Value} (h : Row w b t cs) {i : Nat} {v : Value} (hi : cs[i]? = some v) : w.cell? ⟨b, i, none⟩ = some v := by
  unfold Row at h
  simp [World.cell?, h, hi]
theorem Row.free {w : World} {b : Nat} {t : TypeId} {cs : List Value} (h : Row w b t cs) (i : Nat) : w.frozen? ⟨b, i, none⟩ = false := by
  unfold Row at h
  simp [World.frozen?, h]
theorem Row.set {w : World} {b : Nat} {t : TypeId} {cs : List Value} (h : Row w b t cs) (i : Nat) (v : Value) : Row (w.setCell ⟨b, i, none⟩ v) b t (cs.set i v) := by
  unfold Row at h ⊢
  simp [World.setCell, Array.getElem?_modify, h]
theorem Row.only {S : Nat → Prop} {w w' : World} {b : Nat} {t : TypeId} {cs : List Value} (h : Row w b t cs) (ho : Only S w w') (hn : ¬ S b) : Row w' b t cs := ho.at h hn
theorem Row.alloc {w : World} {b : Nat} {t : TypeId} {cs : List Value} (h : Row w b t cs) (o : Obj) : Row (w.alloc o) b t cs := (Below.heap_alloc _ _ _ h.lt).trans h
theorem Row.new (w : World) (t : TypeId) (cs : List Value) : Row (w.alloc (.cells cs.toArray t)) w.heap.size t cs := by
  unfold Row
  show (w.heap.push _)[w.heap.size]? = _
  exact Array.getElem?_push_size
theorem Row.set_ne {w : World} {b : Nat} {t : TypeId} {cs : List Value} (h : Row w b t cs) {p : Addr} (hp : b ≠ p.block) (v : Value) : Row (w.setCell p v) b t cs := (Below.heap_setCell _ _ _ _ hp).trans h
theorem Row.eq {w : World} {b : Nat} {t u : TypeId} {cs ds : List Value} (h : Row w b t cs) (k : Row w b u ds) : cs = ds ∧ t = u := by
  unfold Row at h k
  rw [h] at k
  simp only [Option.some.injEq, Obj.cells.injEq, List.toArray_inj] at k
  exact ⟨by simpa using k.1, k.2.1⟩

/-- Cells from a place on are others. -/
def spl (cs : List Value) (off : Nat) (vs : List Value) : List Value := cs.take off ++ vs ++ cs.drop (off + vs.length)
theorem spl_length {cs vs : List Value} {off : Nat} (h : off + vs.length ≤ cs.length) : (spl cs off vs).length = cs.length := by simp [spl]; omega
theorem spl_nil (cs : List Value) (off : Nat) : spl cs off [] = cs := by simp [spl]
theorem spl_snoc {cs vs : List Value} {off : Nat} (v : Value) (h : off + vs.length < cs.length) : (spl cs off vs).set (off + vs.length) v = spl cs off (vs ++ [v]) := by
  unfold spl
  have h1 : (cs.take off ++ vs).length = off + vs.length := by simp; omega
  rw [List.set_append_right _ _ (by omega), h1, Nat.sub_self]
  rw [List.drop_eq_getElem_cons h, List.set_cons_zero]
  simp [Nat.add_assoc]
theorem spl_get_in {cs vs : List Value} {off j : Nat} (h : off ≤ cs.length) (hj : j < vs.length) : (spl cs off vs)[off + j]? = vs[j]? := by
  unfold spl
  rw [List.append_assoc, List.getElem?_append_right (by simp; omega), List.getElem?_append_left (by simp; omega)]
  congr 1
  simp; omega
theorem spl_get_out {cs vs : List Value} {off j : Nat} (h : off + vs.length ≤ cs.length) (hj : j < off ∨ off + vs.length ≤ j) : (spl cs off vs)[j]? = cs[j]? := by
  unfold spl
  rcases hj with hj | hj
  · rw [List.append_assoc, List.getElem?_append_left (by simp; omega), List.getElem?_take, if_pos hj]
  · rw [List.getElem?_append_right (by simp; omega), List.getElem?_drop]
    congr 1
    simp; omega

/-- Bytes as cells. -/
def u8s (l : List UInt8) : List Value := l.map fun b => .int .u8 (b.toNat : Int)
theorem u8s_length (l : List UInt8) : (u8s l).length = l.length := by simp [u8s]
theorem u8s_append (a b : List UInt8) : u8s (a ++ b) = u8s a ++ u8s b := List.map_append
theorem u8s_get {l : List UInt8} {i : Nat} (h : i < l.length) : (u8s l)[i]? = some (.int .u8 ((l.getD i 0).toNat : Int)) := by
  simp [u8s, h]

end Go.Q

/-
  octets.Low: contract.
-/
namespace Go.Proofs.YtgmljeeeomjooaaGreatDoor
open Go Go.RowKit Go.Q

theorem or_shift (x b : Nat) (hb : b < 256) : (x * 256) ||| b = x * 256 + b := by
  have h : x * 256 = x <<< 8 := by rw [Nat.shiftLeft_eq]
  rw [h, Nat.shiftLeft_add_eq_or_of_lt (by omega)]

theorem wrap_u64 (n : Nat) (h : n < 18446744073709551616) : IntKind.u64.wrap (n : Int) = n :=
  IntWalk.u64_in _ ⟨by omega, by omega⟩

theorem low_step (x b : Nat) (hx : x < 72057594037927936) (hb : b < 256) : bits .or .u64 (IntKind.u64.wrap ((x : Int) * 256)) (IntKind.u64.wrap (b : Int)) = ((b + 256 * x : Nat) : Int) := by
  have e : ((x : Int) * 256) = ((x * 256 : Nat) : Int) := (Int.natCast_mul x 256).symm
  rw [e, wrap_u64 _ (by omega), wrap_u64 _ (by omega), u64_or_nat _ _ (by omega) (by omega), or_shift _ _ hb]
  congr 1
  omega

theorem int_congr {k : IntKind} {a b : Int} (h : a = b) : Value.int k a = .int k b := by rw [h]

set_option maxHeartbeats 800000 in
theorem low_any (b off len cap : Nat) (l : List UInt8) (hl : l.length = len) (h8 : len ≤ 8) (w : World) (hc : ∀ j, j < len → w.cell? ⟨b, off + j, none⟩ = some (.int .u8 (l.getD j 0).toNat)) :
    Calls Tryz.prog 229 #[.slice (some ⟨b, off, none⟩) len cap] w fun e w' => e = .returned (.int .u64 (low l)) ∧ w = w' := by
  have hlen : (len : Int) ≤ 8 := by omega
  go_enter Tryz.func229, Tryz.ntmps229
  go_wp2
  go_loop [2, 3] (fun n i => ∃ k : Nat, k ≤ len ∧ i = .int .i64 ((k : Int) - 1) ∧ n = .int .u64 (low (l.drop k))) (fun _ i => (intOf i + 1).toNat)
  case atStart => exact ⟨len, Nat.le_refl _, rfl, by rw [List.drop_of_length_le (by omega)]; rfl⟩
  case round =>
    obtain ⟨k, hk, rfl, rfl⟩ := hrel
    cases k with
    | zero =>
      go_wp2
      go_ret
      exact ⟨rfl, rfl⟩
    | succ k =>
      have hcell := hc k (by omega)
      have e1 : ((k + 1 : Nat) : Int) - 1 = k := by omega
      rw [e1]
      have hd : l.drop k = l.getD k 0 :: l.drop (k + 1) := by
        rw [List.drop_eq_getElem_cons (by omega), List.getD_eq_getElem?_getD, List.getElem?_eq_getElem (by omega)]
        rfl
      have hb := (l.getD k 0).toNat_lt
      have hx : low (l.drop (k + 1)) < 72057594037927936 := by
        have h1 := low_lt (l.drop (k + 1))
        have h2 : (l.drop (k + 1)).length ≤ 7 := by simp; omega
        have h3 : 256 ^ (l.drop (k + 1)).length ≤ 256 ^ 7 := Nat.pow_le_pow_right (by omega) h2
        have h4 : (256 : Nat) ^ 7 = 72057594037927936 := rfl
        omega
      have hs := Lib.hid (low_step _ _ hx hb)
      have hdh := Lib.hid hd
      clear hd hx hb
      go_wp2
      go_round
      case rel =>
        refine ⟨k, by omega, rfl, int_congr ?_⟩
        rw [hdh.out]
        simpa [low] using hs.out
      case measure => simp [intOf] <;> omega
end Go.Proofs.YtgmljeeeomjooaaGreatDoor

/-
  octets.Put: contract.
-/
namespace Go.Proofs.YtgmljeeeomjooaaGreatDoor
open Go Go.RowKit Go.Q

theorem byte_of (n : Nat) : IntKind.u8.wrap (n : Int) = ((UInt8.ofNat n).toNat : Int) := by
  rw [IntKind.wrap_u8, UInt8.toNat_ofNat']
  omega

theorem cast_div (n k : Nat) : ((n / 256 ^ k : Nat) : Int) = (n : Int) / 256 ^ k := by simp
theorem cast_div_succ (n k : Nat) : (n : Int) / 256 ^ k / 256 = ((n / 256 ^ (k + 1) : Nat) : Int) := by
  rw [Nat.pow_succ, ← Nat.div_div_eq_div_mul]; simp
theorem byte_div (n k : Nat) : (n : Int) / 256 ^ k % 256 = ((UInt8.ofNat (n / 256 ^ k)).toNat : Int) := by
  rw [UInt8.toNat_ofNat', ← cast_div]
  omega

set_option maxHeartbeats 800000 in
theorem put_any (b off len cap n : Nat) (cs : List Value) (h8 : len ≤ 8) (hn : n < 18446744073709551616) (hfit : off + len ≤ cs.length) (w : World) (hr : Row w b 5 cs) :
    Calls Tryz.prog 239 #[.slice (some ⟨b, off, none⟩) len cap, .int .u64 n] w fun e w' => e = .returned (.tuple #[]) ∧ Row w' b 5 (spl cs off (u8s (le len n))) ∧ Only (· = b) w w' := by
  have hlen : (len : Int) ≤ 8 := by omega
  go_enter Tryz.func239, Tryz.ntmps239
  go_wp2
  go_loopw [1, 4, 7] (fun m x i wr => ∃ k : Nat, k ≤ len ∧ i = .int .i64 k ∧ m = .int .u64 ((n / 256 ^ k : Nat) : Int) ∧ (∃ y, x = y) ∧ Row wr b 5 (spl cs off (u8s (le k n))) ∧ Only (· = b) w wr) (fun _ _ i _ => len - (intOf i).toNat)
  case atStart => exact ⟨0, Nat.zero_le _, rfl, by simp, ⟨_, rfl⟩, by simpa [le, u8s, spl_nil] using hr, Only.refl _ _⟩
  case round =>
    obtain ⟨k, hk, rfl, rfl, ⟨y, rfl⟩, hrow, hon⟩ := hrel
    by_cases hlt : k < len
    · have hl : (u8s (le k n)).length = k := by rw [u8s_length, le_length]
      have hcell : wr.cell? ⟨b, off + k, none⟩ = some cs[off + k] := by
        refine hrow.cell ?_
        rw [spl_get_out (by omega) (.inr (by omega)), List.getElem?_eq_getElem (by omega)]
      have hfro := hrow.free (off + k)
      have hset := spl_snoc (cs := cs) (off := off) (vs := u8s (le k n)) (.int .u8 ((UInt8.ofNat (n / 256 ^ k)).toNat : Int)) (by omega)
      rw [hl] at hset
      have hS := Lib.hid hset
      clear hset
      go_wp2
      go_roundw
      case rel =>
        refine ⟨k + 1, by omega, rfl, int_congr ?_, ⟨_, rfl⟩, ?_, hon.setCell _ (fun _ => rfl) _⟩
        · exact cast_div_succ n k
        · have h := hrow.set (off + k) (.int .u8 ((UInt8.ofNat (n / 256 ^ k)).toNat : Int))
          rw [hS.out] at h
          rw [le_snoc, u8s_append]
          rw [byte_div]
          exact h
      case measure => simp [intOf] <;> omega
    · obtain rfl : k = len := by omega
      go_wp2
      go_end0
      exact ⟨rfl, hrow, hon⟩
end Go.Proofs.YtgmljeeeomjooaaGreatDoor

/-
  octets.Append: contract.
-/
namespace Go.Proofs.YtgmljeeeomjooaaGreatDoor
open Go Go.RowKit Go.Q

theorem info5 : (Tryz.prog.info? 5).map (fun i => (i.zero, i.size, i.bytes)) = some (some (.int .u8 0), 1, 1) := by kernel_rfl

set_option maxHeartbeats 1600000 in
theorem append_any (B : Nat) (v : Value) (l : List UInt8) (n width : Nat) (hl : l.length ≤ 100) (hw : width ≤ 8) (hn : n < 18446744073709551616) (w : World) (hB : B ≤ w.heap.size) (hr : w.ownsRow B 5 1 v l.length (u8s l)) :
    Calls Tryz.prog 337 #[v, .int .u64 n, .int .i64 width] w fun e w' => ∃ v', e = .returned v' ∧ w'.ownsRow B 5 1 v' (l.length + width) (u8s (l ++ le width n)) ∧ Below B w w' := by
  have hlen : (width : Int) ≤ 8 := by omega
  obtain ⟨i0, hi, hz0, hz1, hz2⟩ := info_parts info5
  go_enter Tryz.func337, Tryz.ntmps337
  go_wp2
  go_loopw [0, 1, 8] (fun v m i wr => ∃ k : Nat, k ≤ width ∧ i = .int .i64 k ∧ m = .int .u64 ((n / 256 ^ k : Nat) : Int) ∧ wr.ownsRow B 5 1 v (l.length + k) (u8s (l ++ le k n)) ∧ Below B w wr) (fun _ _ i _ => width - (intOf i).toNat)
  case atStart => exact ⟨0, Nat.zero_le _, rfl, by simp, by simpa [le] using hr, Below.refl _ _⟩
  case round =>
    obtain ⟨k, hk, rfl, rfl, hrow, hb⟩ := hrel
    by_cases hlt : k < width
    · have hsz := hb.size
      go_wp2_with (at_builtin; refine wpList_append_own _ rfl _ _ 261 rfl B 5 i0 (.int .u8 0) 1 1 Tryz.underlying261 hi hz0 hz1 hz2 rfl (by decide) _ _ _ rfl (hrow.alloc _) ⟨wr.heap.size, 0, none⟩ 1 1 [.int .u8 ((UInt8.ofNat (n / 256 ^ k)).toNat : Int)] rfl rfl ?c1 ?c2 ?c3 ?c4 ?c5 ?_)
      case c1 =>
        intro j u hj
        cases j with
        | zero => simp at hj; subst hj; exact (Row.new wr 5 [_]).cell rfl
        | succ j => simp at hj
      case c2 => intro u hu; simp at hu; subst hu; rfl
      case c3 => unfold maxLen; omega
      case c4 => omega
      case c5 => simp; omega
      intro v' w1 hown hgrow _
      have hown' : w1.ownsRow B 5 1 v' (l.length + (k + 1)) (u8s (l ++ le (k + 1) n)) := by
        rw [le_snoc, ← List.append_assoc, u8s_append, ← Nat.add_assoc]
        exact hown
      have hb' : Below B w w1 := (hb.alloc (by omega) _).grown hgrow (by simp; omega) fun g e => ?hh
      clear hown
      go_wp2
      go_roundw
      case rel => exact ⟨k + 1, by omega, rfl, int_congr (cast_div_succ n k), hown', hb'⟩
      case measure => simp [intOf] <;> omega
      case hh =>
        obtain ⟨_, h0 | ⟨g', cap, cur, h1, h2, _⟩⟩ := hrow
        · rw [h0.1] at e; cases e
        · rw [h1] at e; cases e; exact h2
    · obtain rfl : k = width := by omega
      go_wp2
      go_ret
      exact ⟨_, rfl, hrow, hb⟩
end Go.Proofs.YtgmljeeeomjooaaGreatDoor

/-
  pack.back: contract.
-/
namespace Go.Proofs.YtgmljeeeomjooaaGreatDoor
open Go Go.RowKit Go.Q

theorem or128 (m : Nat) : bits .or .u8 ((m : Int) % 128) 128 = ((UInt8.ofNat (m % 128 + 128)).toNat : Int) := by
  rw [u8_or128_right _ (by omega) (by omega), UInt8.toNat_ofNat']
  omega
theorem byte128 (m : Nat) : (m : Int) % 128 = ((UInt8.ofNat (m % 128)).toNat : Int) := by
  rw [UInt8.toNat_ofNat']; omega

theorem owns_ge {w : World} {B : Nat} {e : TypeId} {s g k cap : Nat} {n : Nat} {xs : List Value} (h : w.ownsRow B e s (.slice (some ⟨g, k, none⟩) n cap) n xs) : B ≤ g := by
  obtain ⟨_, h0 | ⟨g', cap', cur, h1, h2, _⟩⟩ := h
  · cases h0.1
  · cases h1; exact h2
theorem byte_small {t : Nat} (h : t < 128) : (t : Int) = ((UInt8.ofNat t).toNat : Int) := by
  rw [UInt8.toNat_ofNat']; omega

theorem back_step {m n : Nat} {r : List UInt8} (h : back n = back m ++ r) (hm : 128 ≤ m) : back n = back (m / 128) ++ (UInt8.ofNat (m % 128 + 128) :: r) := by
  rw [h, back_big hm]; simp
theorem back_end {m n : Nat} {r : List UInt8} (h : back n = back m ++ r) (hm : m < 128) : back n = UInt8.ofNat (m % 128) :: r := by
  rw [h, back_small hm, Nat.mod_eq_of_lt hm]; rfl
theorem back_rest {m n : Nat} {r : List UInt8} (h : back n = back m ++ r) (hn : n < 2097152) : r.length ≤ 2 := by
  have h1 := back_length hn
  have h2 : 1 ≤ (back m).length := by
    by_cases h : m < 128
    · rw [back_small h]; simp
    · rw [back_big (by omega)]; simp
  rw [h] at h1
  simp at h1; omega

set_option maxHeartbeats 1600000 in
set_option maxRecDepth 100000 in
theorem back_any (n : Nat) (hn : n < 2097152) (w : World) :
    Calls Tryz.prog 338 #[.int .i64 n] w fun e w' => ∃ v', e = .returned v' ∧ w'.ownsRow w.heap.size 5 1 v' (back n).length (u8s (back n)) ∧ Below w.heap.size w w' := by
  have hlen : (n : Int) < 2097152 := by omega
  obtain ⟨i0, hi, hz0, hz1, hz2⟩ := info_parts info5
  have h127 := fun x : Int => i64_and127 x
  go_enter Tryz.func338, Tryz.ntmps338
  go_wp2
  go_loopw [0, 3] (fun x v wr => ∃ (q t : Nat) (r : List UInt8), q ≤ 20000 ∧ t < 128 ∧ back n = back (128 * q + t) ++ r ∧ x = .int .i64 q ∧ wr.ownsRow w.heap.size 5 1 v (r.length + 1) (u8s (UInt8.ofNat t :: r)) ∧ Below w.heap.size w wr) (fun x _ _ => (intOf x).toNat)
  case atStart =>
    refine ⟨n / 128, n % 128, [], by omega, by omega, by rw [List.append_nil]; congr 1; omega, by simp, ?_, (Below.refl _ _).alloc (Nat.le_refl _) _⟩
    rw [byte128]
    exact World.ownsRow_lit (base := w.heap.size) (e := 5) (size := 1) w _ 1 (Nat.le_refl _) (by unfold maxLen; omega) rfl
  case round =>
    obtain ⟨q, t, r, hqn, ht, hbk, rfl, hrow, hb⟩ := hrel
    have hr2 := back_rest hbk hn
    have HB := Lib.hid hbk
    clear hbk
    obtain ⟨g, cap, rfl⟩ := ownsRow_succ hrow
    have hg : w.heap.size ≤ g := owns_ge hrow
    have hcell := (hrow.cellAt 0 (by omega)).trans (show (u8s (UInt8.ofNat t :: r))[0]? = some (.int .u8 (t : Int)) by rw [byte_small ht]; rfl)
    have hfro := hrow.frozenAt 0
    by_cases hlt : 0 < q
    · have hsz := hb.size
      have HN := Lib.hid hn
      clear hn hlen
      have st := hrow.stored 0 (.int .u8 (bits .or .u8 (t : Int) 128))
      have e1 : (u8s (UInt8.ofNat t :: r)).set 0 (.int .u8 (bits .or .u8 (t : Int) 128)) = u8s (UInt8.ofNat (t + 128) :: r) := by
        have h := or128 t
        rw [show (t : Int) % 128 = t by omega, show t % 128 = t by omega] at h
        rw [h]; rfl
      rw [e1] at st
      obtain ⟨st1, st2⟩ := st
      have hS := Lib.hid e1
      clear e1
      have hlit : ((wr.setCell ⟨g, 0, none⟩ (.int .u8 (bits .or .u8 (t : Int) 128))).alloc (.cells #[.int .u8 ((q : Int) % 128)] 5)).ownsRow w.heap.size 5 1 (.slice (some ⟨wr.heap.size, 0, none⟩) 1 1) 1 [.int .u8 ((q : Int) % 128)] := by
        have h := World.ownsRow_lit (base := w.heap.size) (e := 5) (size := 1) (wr.setCell ⟨g, 0, none⟩ (.int .u8 (bits .or .u8 (t : Int) 128))) #[.int .u8 ((q : Int) % 128)] 1 (by simp; omega) (by unfold maxLen; omega) rfl
        simpa using h
      go_wp2_with (at_builtin; refine wpList_append_own _ rfl _ _ 261 rfl w.heap.size 5 i0 (.int .u8 0) 1 1 Tryz.underlying261 hi hz0 hz1 hz2 rfl (by decide) _ 1 [.int .u8 ((q : Int) % 128)] rfl hlit ⟨g, 0, none⟩ (r.length + 1) cap (u8s (UInt8.ofNat (t + 128) :: r)) rfl ?c3 ?c4 ?c5 ?c6 ?c7 ?c8 ?_)
      case c3 => simp [u8s]
      case c4 =>
        intro j u hj
        have hj' := (List.getElem?_eq_some_iff.1 hj).1
        have h2 := (st1.alloc (.cells #[.int .u8 ((q : Int) % 128)] 5)).cellAt j (by simpa [u8s] using hj')
        rw [hj] at h2
        simpa [Addr.add_lit] using h2
      case c5 => intro u hu; simp only [u8s, List.mem_map] at hu; obtain ⟨x, _, rfl⟩ := hu; rfl
      case c6 => unfold maxLen; omega
      case c7 => omega
      case c8 => simp; omega
      intro v' w1 hown hgrow _
      have hown' : w1.ownsRow w.heap.size 5 1 v' ((UInt8.ofNat (t + 128) :: r).length + 1) (u8s (UInt8.ofNat (q % 128) :: UInt8.ofNat (t + 128) :: r)) := by
        have e : (UInt8.ofNat (t + 128) :: r).length + 1 = 1 + (r.length + 1) := by simp; omega
        rw [e]
        have e2 : u8s (UInt8.ofNat (q % 128) :: UInt8.ofNat (t + 128) :: r) = [.int .u8 ((q : Int) % 128)] ++ u8s (UInt8.ofNat (t + 128) :: r) := by
          rw [byte128]; rfl
        rw [e2]
        simpa using hown
      have hb' : Below w.heap.size w w1 := ((hb.grown st2 hsz (by intro k e; cases e; exact hg)).alloc (by simp; omega) _).grown hgrow (by simp; omega) (by intro k e; cases e; simp; omega)
      clear hown
      go_wp2
      go_roundw
      case rel =>
        refine ⟨q / 128, q % 128, UInt8.ofNat (t + 128) :: r, by omega, by omega, ?_, by simp, hown', hb'⟩
        have e := back_step HB.out (by omega)
        rw [e]
        congr 2
        · omega
        · rw [show (128 * q + t) % 128 = t by omega]
      case measure => simp [intOf] <;> omega
    · obtain rfl : q = 0 := by omega
      go_wp2
      go_ret
      have e := back_end HB.out (by omega)
      rw [show (128 * 0 + t) % 128 = t by omega] at e
      exact ⟨_, rfl, by rw [e]; exact hrow, hb⟩
end Go.Proofs.YtgmljeeeomjooaaGreatDoor
