/-
  A whole number's decimal text parses to the number: plain, no program in sight.
-/
import Derived.Lib.ParseIntB
import Derived.Lib.ItoaNum
import Derived.Lib.ItoaLen
set_option linter.all false
namespace Go.Ev
open Go.Lib

theorem parseM_cons (M acc : Nat) (c : UInt8) (r : List UInt8) : parseUintM M acc (c :: r) = if 48 ≤ c.toNat ∧ c.toNat ≤ 57 then (if 1844674407370955162 ≤ acc then .range else if M < acc * 10 + (c.toNat - 48) then .range else parseUintM M (acc * 10 + (c.toNat - 48)) r) else .syntax := by
  rw [parseUintM]
theorem parseM_append (M : Nat) : ∀ (l r : List UInt8) (acc : Nat), parseUintM M acc (l ++ r) = match parseUintM M acc l with | .ok a => parseUintM M a r | .syntax => .syntax | .range => .range
  | [], r, acc => rfl
  | c :: l, r, acc => by
    rw [List.cons_append, parseM_cons, parseM_cons]
    by_cases h1 : 48 ≤ c.toNat ∧ c.toNat ≤ 57
    · rw [if_pos h1, if_pos h1]
      by_cases h2 : 1844674407370955162 ≤ acc
      · rw [if_pos h2, if_pos h2]
      · rw [if_neg h2, if_neg h2]
        by_cases h3 : M < acc * 10 + (c.toNat - 48)
        · rw [if_pos h3, if_pos h3]
        · rw [if_neg h3, if_neg h3]
          exact parseM_append M l r _
    · rw [if_neg h1, if_neg h1]

theorem digit_toNat {d : Nat} (h : d < 10) : (UInt8.ofNat (48 + d)).toNat = 48 + d := by
  rw [UInt8.toNat_ofNat']
  omega

theorem parseM_digits (u : Nat) (hu : u ≤ 18446744073709551615) : parseUintM 18446744073709551615 0 (decDigits u) = .ok u := by
  induction u using Nat.strongRecOn with
  | _ u ih =>
    rw [decDigits]
    by_cases h : u < 10
    · rw [dif_pos h, parseM_cons]
      rw [digit_toNat h, if_pos (by omega), if_neg (by omega), if_neg (by omega)]
      show NumEnd.ok _ = NumEnd.ok u
      congr 1
      omega
    · rw [dif_neg h, parseM_append, ih (u / 10) (by omega) (by omega)]
      show parseUintM _ (u / 10) [_] = _
      rw [parseM_cons, digit_toNat (by omega), if_pos (by omega), if_neg (by omega), if_neg (by omega)]
      show NumEnd.ok _ = NumEnd.ok u
      congr 1
      omega

theorem digits_head (u : Nat) : ∃ c r, decDigits u = c :: r ∧ 48 ≤ c.toNat ∧ c.toNat ≤ 57 := by
  induction u using Nat.strongRecOn with
  | _ u ih =>
    rw [decDigits]
    by_cases h : u < 10
    · rw [dif_pos h]
      exact ⟨_, _, rfl, by rw [digit_toNat h]; omega, by rw [digit_toNat h]; omega⟩
    · rw [dif_neg h]
      obtain ⟨c, r, h1, h2, h3⟩ := ih (u / 10) (by omega)
      exact ⟨c, r ++ [_], by rw [h1]; rfl, h2, h3⟩

theorem parse_itoa (n : Int) (h0 : -9223372036854775808 ≤ n) (h1 : n ≤ 9223372036854775807) : parseIntB 64 (itoa n) = .ok n := by
  have hB : ∀ u : Nat, u ≤ 18446744073709551615 → parseUintB 64 (decDigits u) = .ok u := by
    intro u hu
    obtain ⟨c, r, hc, _⟩ := digits_head u
    unfold parseUintB
    rw [if_neg (by rw [hc]; simp)]
    exact parseM_digits u hu
  unfold itoa
  by_cases hn : n < 0
  · rw [if_pos hn]
    unfold parseIntB
    simp only
    rw [if_pos (Or.inr (by decide)), hB n.natAbs (by omega)]
    simp only
    rw [if_neg (by intro h; exact h.1 (by decide)), if_neg (by intro h; have := h.2; omega), if_pos (by decide)]
    congr 1
    omega
  · rw [if_neg hn]
    obtain ⟨c, r, hc, h2, h3⟩ := digits_head n.toNat
    have hb := hB n.toNat (by omega)
    rw [hc] at hb ⊢
    unfold parseIntB
    simp only
    rw [if_neg (by omega), hb]
    simp only
    rw [if_neg (by intro h; have := h.2; omega), if_neg (by intro h; have := h.1; omega), if_neg (by omega)]
    congr 1
    omega

/-- A whole number's text. -/
def itxt (n : Int) : ByteArray := ⟨(itoa n).toArray⟩
theorem itxt_size (n : Int) (h0 : -9223372036854775808 ≤ n) (h1 : n ≤ 9223372036854775807) : (itxt n).size ≤ 21 := by
  have := itoa_length_le n h0 h1
  show (itoa n).toArray.size ≤ 21
  simpa using this
theorem itxt_parse (n : Int) (h0 : -9223372036854775808 ≤ n) (h1 : n ≤ 9223372036854775807) : parseIntB 64 (itxt n).data.toList = .ok n := by
  show parseIntB 64 (itoa n).toArray.toList = _
  simpa using parse_itoa n h0 h1

end Go.Ev
