/-
  Bits of bytes: plain, no program in sight.
-/
import Derived.Laws.Entries
import Derived.RowKit
set_option linter.all false
namespace Go.Proofs.YtehpbcpnmnhdbaaGreatDoor
open Go Go.RowKit

theorem and_one : ∀ x : Fin 256, bits .and .i64 (x.val : Int) 1 = ((x.val % 2 : Nat) : Int) := by decide +kernel

/-- The byte at a place, nought behind the end. -/
def byteAt (v : ByteArray) (j : Nat) : Nat := if h : j < v.size then v[j].toNat else 0
theorem byteAt_lt (v : ByteArray) (j : Nat) : byteAt v j < 256 := by
  unfold byteAt
  split
  · exact v[j].toNat_lt
  · omega
/-- A bit of a string, the highest one of a byte first. -/
def hasB (v : ByteArray) (n : Nat) : Nat := byteAt v (n / 8) / 2 ^ (7 - n % 8) % 2

theorem has_eq (b k : Nat) (hb : b < 256) : bits .and .i64 (wrap64 ((b : Int) / 2 ^ k)) 1 = ((b / 2 ^ k % 2 : Nat) : Int) := by
  have e : ((b : Int) / 2 ^ k) = ((b / 2 ^ k : Nat) : Int) := by push_cast; rfl
  have hlt : b / 2 ^ k < 256 := Nat.lt_of_le_of_lt (Nat.div_le_self _ _) hb
  rw [e]
  generalize b / 2 ^ k = q at hlt ⊢
  have hw : wrap64 (q : Int) = (q : Int) := by unfold wrap64; omega
  rw [hw]
  exact and_one ⟨q, hlt⟩

/-- A byte with a bit set so. -/
def setBit (b k : Nat) (one : Bool) : Nat := (bits .andNot .u8 (b : Int) ((2 ^ k : Nat) : Int)).toNat ||| (if one then 2 ^ k else 0)

theorem clear_lt : ∀ (b : Fin 256) (k : Fin 8), bits .andNot .u8 (b.val : Int) ((2 ^ k.val : Nat) : Int) = ((bits .andNot .u8 (b.val : Int) ((2 ^ k.val : Nat) : Int)).toNat : Int) ∧ (bits .andNot .u8 (b.val : Int) ((2 ^ k.val : Nat) : Int)).toNat < 256 := by decide +kernel
theorem or_nat : ∀ (b : Fin 256) (k : Fin 8), bits .or .u8 (b.val : Int) ((2 ^ k.val : Nat) : Int) = ((b.val ||| 2 ^ k.val : Nat) : Int) ∧ b.val ||| 2 ^ k.val < 256 := by decide +kernel
theorem x1_eq : ∀ (b : Fin 256) (k : Fin 8), bits .andNot .u8 (b.val : Int) ((2 : Int) ^ k.val % 256) = ((setBit b.val k.val false : Nat) : Int) := by decide +kernel
theorem x2_eq : ∀ (b : Fin 256) (k : Fin 8), bits .or .u8 ((setBit b.val k.val false : Nat) : Int) ((2 : Int) ^ k.val % 256) = ((setBit b.val k.val true : Nat) : Int) := by decide +kernel
theorem set_get : ∀ (b : Fin 256) (k : Fin 8), setBit b.val k.val true / 2 ^ k.val % 2 = 1 ∧ setBit b.val k.val false / 2 ^ k.val % 2 = 0 := by decide +kernel
theorem set_other : ∀ (b : Fin 256) (k j : Fin 8), k ≠ j → setBit b.val k.val true / 2 ^ j.val % 2 = b.val / 2 ^ j.val % 2 ∧ setBit b.val k.val false / 2 ^ j.val % 2 = b.val / 2 ^ j.val % 2 := by decide +kernel
theorem set_lt : ∀ (b : Fin 256) (k : Fin 8), setBit b.val k.val true < 256 ∧ setBit b.val k.val false < 256 := by decide +kernel

theorem setBit_lt {b k : Nat} (hb : b < 256) (hk : k < 8) (one : Bool) : setBit b k one < 256 := by
  cases one
  · exact (set_lt ⟨b, hb⟩ ⟨k, hk⟩).2
  · exact (set_lt ⟨b, hb⟩ ⟨k, hk⟩).1

/-- A byte of a string of which one bit is set. -/
def newByte (v : ByteArray) (n : Nat) (one : Bool) (j : Nat) : Nat := if j = n / 8 then setBit (byteAt v j) (7 - n % 8) one else byteAt v j
theorem newByte_lt (v : ByteArray) (n : Nat) (one : Bool) (j : Nat) : newByte v n one j < 256 := by
  unfold newByte
  split
  · exact setBit_lt (byteAt_lt _ _) (by omega) _
  · exact byteAt_lt _ _
/-- A string of which one bit is set; as long as that asks. -/
def setB (v : ByteArray) (n : Nat) (one : Bool) : ByteArray := ⟨((List.range (max (n / 8 + 1) v.size)).map fun j => UInt8.ofNat (newByte v n one j)).toArray⟩
theorem setB_size (v : ByteArray) (n : Nat) (one : Bool) : (setB v n one).size = max (n / 8 + 1) v.size := by
  show (List.toArray _).size = _
  simp
theorem byteAt_setB (v : ByteArray) (n : Nat) (one : Bool) (j : Nat) (hj : j < max (n / 8 + 1) v.size) : byteAt (setB v n one) j = newByte v n one j := by
  unfold byteAt
  rw [dif_pos (by rw [setB_size]; exact hj)]
  have e : (setB v n one)[j]'(by rw [setB_size]; exact hj) = UInt8.ofNat (newByte v n one j) := by
    show (((List.range (max (n / 8 + 1) v.size)).map fun j => UInt8.ofNat (newByte v n one j)).toArray)[j]'(by simpa using hj) = _
    simp
  rw [e, UInt8.toNat_ofNat']
  exact Nat.mod_eq_of_lt (newByte_lt v n one j)
theorem byteAt_past (v : ByteArray) (n : Nat) (one : Bool) (j : Nat) (hj : ¬ j < max (n / 8 + 1) v.size) : byteAt (setB v n one) j = byteAt v j := by
  unfold byteAt
  rw [dif_neg (by rw [setB_size]; exact hj), dif_neg (by omega)]

/-- The bit that was set is got. -/
theorem has_set (v : ByteArray) (n : Nat) (one : Bool) : hasB (setB v n one) n = if one then 1 else 0 := by
  unfold hasB
  rw [byteAt_setB _ _ _ _ (by omega), newByte, if_pos rfl]
  have := set_get ⟨byteAt v (n / 8), byteAt_lt _ _⟩ ⟨7 - n % 8, by omega⟩
  cases one
  · exact this.2
  · exact this.1
/-- No other one is another. -/
theorem has_other (v : ByteArray) (n m : Nat) (one : Bool) (h : n ≠ m) : hasB (setB v n one) m = hasB v m := by
  unfold hasB
  by_cases hj : m / 8 < max (n / 8 + 1) v.size
  · rw [byteAt_setB _ _ _ _ hj, newByte]
    by_cases he : m / 8 = n / 8
    · rw [if_pos he]
      have := set_other ⟨byteAt v (m / 8), byteAt_lt _ _⟩ ⟨7 - n % 8, by omega⟩ ⟨7 - m % 8, by omega⟩ (by
        intro e
        have := congrArg Fin.val e
        simp only at this
        omega)
      cases one
      · exact this.2
      · exact this.1
    · rw [if_neg he]
  · rw [byteAt_past _ _ _ _ hj]

end Go.Proofs.YtehpbcpnmnhdbaaGreatDoor
