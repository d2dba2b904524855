/-
  Whole numbers and strings as the evaluator reckons them: the model's own results, by steps that the kernel takes fast.
-/
import Derived.Test.YtjjgdnelkkmdcaaGreatDoorEvBase
import Derived.Laws.Sem
import Derived.Laws.Cells
set_option linter.all false
namespace Go.Ev

def modK : IntKind → Nat
  | .i8 | .u8 => 256
  | .i16 | .u16 => 65536
  | .i32 | .u32 => 4294967296
  | .i64 | .u64 => 18446744073709551616
def halfK : IntKind → Nat
  | .i8 => 128
  | .i16 => 32768
  | .i32 => 2147483648
  | .i64 => 9223372036854775808
  | .u8 => 256
  | .u16 => 65536
  | .u32 => 4294967296
  | .u64 => 18446744073709551616

def toM (M : Nat) : Int → Nat
  | .ofNat a => a % M
  | .negSucc a => M - 1 - a % M

def wrapF (k : IntKind) (n : Int) : Int :=
  bif Nat.blt (toM (modK k) n) (halfK k) then .ofNat (toM (modK k) n) else .negSucc (modK k - 1 - toM (modK k) n)

theorem toM_eq (M : Nat) (hM : 0 < M) (n : Int) : (toM M n : Int) = n % (M : Int) := by
  cases n with
  | ofNat a => simp [toM]
  | negSucc a =>
    simp only [toM]
    rw [Int.negSucc_emod_ofNat_succ_eq M hM a]
where
  Int.negSucc_emod_ofNat_succ_eq (M : Nat) (hM : 0 < M) (a : Nat) : ((M - 1 - a % M : Nat) : Int) = Int.negSucc a % (M : Int) := by
    have h := Nat.mod_lt a hM
    have h1 : ((M - 1 - a % M : Nat) : Int) = (M : Int) - 1 - (a % M : Nat) := by omega
    rw [h1, Int.negSucc_eq]
    have hd : (a : Int) = (M : Int) * ((a / M : Nat) : Int) + ((a % M : Nat) : Int) := by
      have := Nat.div_add_mod a M
      exact_mod_cast this.symm
    have e : -((a : Int) + 1) = ((M : Int) - 1 - (a % M : Nat)) + (M : Int) * (-((a / M : Nat) : Int) - 1) := by
      rw [Int.mul_sub, Int.mul_neg, Int.mul_one]; omega
    rw [e, Int.add_mul_emod_self_left]
    exact (Int.emod_eq_of_lt (by omega) (by omega)).symm

theorem wrapF_eq (k : IntKind) (n : Int) : wrapF k n = k.wrap n := by
  have h := toM_eq (modK k) (by cases k <;> decide) n
  have hlt : toM (modK k) n < modK k := by
    have := Int.emod_lt_of_pos n (show (0 : Int) < (modK k : Int) by cases k <;> decide)
    omega
  unfold wrapF IntKind.wrap
  generalize toM (modK k) n = m at h hlt
  cases hb : Nat.blt m (halfK k) with
  | true =>
    have hb' : m < halfK k := by simpa [Nat.blt_eq] using hb
    rw [cond_true]
    cases k <;> simp only [modK, halfK, IntKind.bits, IntKind.signed] at * <;> simp <;> omega
  | false =>
    have hb' : ¬ m < halfK k := by
      intro hc
      have : Nat.blt m (halfK k) = true := by simpa [Nat.blt_eq] using hc
      rw [hb] at this; cases this
    rw [cond_false]
    cases k <;> simp only [modK, halfK, IntKind.bits, IntKind.signed] at * <;> simp [Int.negSucc_eq] <;> omega

def intEq : Int → Int → Bool
  | .ofNat a, .ofNat b => Nat.beq a b
  | .negSucc a, .negSucc b => Nat.beq a b
  | _, _ => false
theorem nbeq (a b : Nat) : Nat.beq a b = decide (a = b) := by
  by_cases h : a = b
  · rw [Tr.beq_true' h]; simp [h]
  · rw [Tr.beq_false' h]; simp [h]
theorem intEq_eq (a b : Int) : intEq a b = (a == b) := by
  rw [Bool.eq_iff_iff]
  cases a <;> cases b <;> simp [intEq, nbeq, Int.negSucc_eq] <;> omega

def intLt : Int → Int → Bool
  | .ofNat a, .ofNat b => Nat.blt a b
  | .ofNat _, .negSucc _ => false
  | .negSucc _, .ofNat _ => true
  | .negSucc a, .negSucc b => Nat.blt b a
theorem intLt_eq (a b : Int) : intLt a b = decide (a < b) := by
  rw [Bool.eq_iff_iff]
  cases a <;> cases b <;> simp [intLt, Nat.blt_eq, Int.negSucc_eq] <;> omega

def shrF (a : Int) (n : Nat) : Int :=
  match a with
  | .ofNat m => .ofNat (m / 2 ^ n)
  | .negSucc m => .negSucc (m / 2 ^ n)
theorem shrF_eq (a : Int) (n : Nat) : shrF a n = a.fdiv (2 ^ n) := by
  have h2 : 0 < 2 ^ n := Nat.pow_pos (by decide)
  have hc : ((2 : Int) ^ n) = ((2 ^ n : Nat) : Int) := by simp
  rw [hc]
  unfold shrF
  generalize 2 ^ n = d at h2
  clear hc
  obtain ⟨d, rfl⟩ : ∃ e, d = e + 1 := ⟨d - 1, by omega⟩
  cases a with
  | ofNat m => cases m <;> simp [Int.fdiv]
  | negSucc m => rfl

def bitsF (k : IntKind) (f : Nat → Nat → Nat) (a b : Int) : Value := .int k (wrapF k (.ofNat (f (toM (modK k) a) (toM (modK k) b))))

theorem toM_bv (k : IntKind) (a : Int) : (BitVec.ofInt k.bits a).toNat = toM (modK k) a := by
  have h := toM_eq (modK k) (by cases k <;> decide) a
  have hm : ((2 ^ k.bits : Nat) : Int) = (modK k : Int) := by cases k <;> rfl
  rw [BitVec.toNat_ofInt]
  have : (a % ((2 ^ k.bits : Nat) : Int)) = (toM (modK k) a : Int) := by rw [hm, h]
  rw [this]; simp

/-- What an operator gives for two whole numbers. -/
def intOp (op : BinOp) (k : IntKind) (a b : Int) : Option Value :=
  match op with
  | .add => some (.int k (wrapF k (a + b)))
  | .sub => some (.int k (wrapF k (a - b)))
  | .mul => some (.int k (wrapF k (a * b)))
  | .quo => bif intEq b 0 then none else some (.int k (wrapF k (a.tdiv b)))
  | .rem => bif intEq b 0 then none else some (.int k (a.tmod b))
  | .and => some (bitsF k Nat.land a b)
  | .or => some (bitsF k Nat.lor a b)
  | .xor => some (bitsF k Nat.xor a b)
  | .andNot => some (bitsF k (fun x y => Nat.land x (modK k - 1 - y)) a b)
  | .shl => bif intLt b 0 then none else some (.int k (wrapF k (a * .ofNat (2 ^ Nat.min b.toNat k.bits))))
  | .shr => bif intLt b 0 then none else some (.int k (shrF a (Nat.min b.toNat k.bits)))
  | .eql => some (.bool (intEq a b))
  | .neq => some (.bool (!intEq a b))
  | .lss => some (.bool (intLt a b))
  | .leq => some (.bool (!intLt b a))
  | .gtr => some (.bool (intLt b a))
  | .geq => some (.bool (!intLt a b))

def isShift : BinOp → Bool
  | .shl | .shr => true
  | _ => false

theorem intOp_shift {P : Program} {op : BinOp} {k j : IntKind} {a b : Int} {v : Value} {w : World} (ho : isShift op = true) (h : intOp op k a b = some v) :
    (Op.shift op k a j b).run P w = .ok v w := by
  have key : ∀ (u : Value), (bif intLt b 0 then none else some u) = some v → ¬ b < 0 ∧ u = v := by
    intro u hu
    cases hz : intLt b 0 with
    | true => rw [hz, cond_true] at hu; cases hu
    | false =>
      rw [hz, cond_false] at hu; cases hu
      exact ⟨by rw [intLt_eq] at hz; simpa using hz, rfl⟩
  cases op <;> simp [isShift] at ho <;> simp only [intOp] at h
  · obtain ⟨hz, rfl⟩ := key _ h
    unfold Op.shift
    rw [if_neg hz]
    show Result.ok (Value.int k (k.wrap (a * 2 ^ min b.toNat k.bits))) w = _
    have e : a * Int.ofNat (2 ^ Nat.min b.toNat k.bits) = a * 2 ^ min b.toNat k.bits := by
      simp only [Int.ofNat_eq_natCast, Int.natCast_pow]; rfl
    rw [wrapF_eq, e]
  · obtain ⟨hz, rfl⟩ := key _ h
    unfold Op.shift
    rw [if_neg hz]
    show Result.ok (Value.int k (a.fdiv (2 ^ min b.toNat k.bits))) w = _
    rw [shrF_eq]

theorem intOp_int {P : Program} {op : BinOp} {k : IntKind} {a b : Int} {v : Value} {w : World} (ho : isShift op = false) (h : intOp op k a b = some v) (X Y : Value)
    (t : TypeId) (hX : X = .int k a) (hY : Y = .int k b) : (Go.binOp op t X Y).run P w = .ok v w := by
  subst hX hY
  cases op <;> simp [isShift] at ho <;> simp only [intOp] at h <;> try (cases h; simp only [Go.binOp, ne_eq, not_true_eq_false, if_false, Op.intArith, Op.intCmp, Op.intBits, Sem.run_pure, wrapF_eq, intEq_eq, intLt_eq])
  · cases hz : intEq b 0 with
    | true => rw [hz, cond_true] at h; cases h
    | false =>
      rw [hz, cond_false] at h; cases h
      have hz' : ¬ b = 0 := by rw [intEq_eq] at hz; simpa using hz
      simp [Go.binOp, Op.intDiv, if_neg hz', wrapF_eq]
  · cases hz : intEq b 0 with
    | true => rw [hz, cond_true] at h; cases h
    | false =>
      rw [hz, cond_false] at h; cases h
      have hz' : ¬ b = 0 := by rw [intEq_eq] at hz; simpa using hz
      simp [Go.binOp, Op.intDiv, if_neg hz']
  · rw [BitVec.toNat_and, toM_bv, toM_bv]; rw [bitsF, wrapF_eq]; rfl
  · rw [BitVec.toNat_or, toM_bv, toM_bv]; rw [bitsF, wrapF_eq]; rfl
  · rw [BitVec.toNat_xor, toM_bv, toM_bv]; rw [bitsF, wrapF_eq]; rfl
  · rw [BitVec.toNat_and, BitVec.toNat_not, toM_bv, toM_bv]; rw [bitsF, wrapF_eq]
    have : 2 ^ k.bits = modK k := by cases k <;> rfl
    rw [this]; rfl
  all_goals first | rfl | (congr 2; rw [Bool.eq_iff_iff]; simp)

/-! ### Strings -/

def eqB : List UInt8 → List UInt8 → Bool
  | [], [] => true
  | a :: x, b :: y => bif Nat.beq a.toNat b.toNat then eqB x y else false
  | _, _ => false
theorem eqB_eq : ∀ (x y : List UInt8), eqB x y = (x == y)
  | [], [] => rfl
  | [], _ :: _ => rfl
  | _ :: _, [] => rfl
  | a :: x, b :: y => by
    simp only [eqB]
    rw [nbeq, eqB_eq x y]
    by_cases h : a = b
    · subst h; simp
    · have : ¬ a.toNat = b.toNat := fun e => h (UInt8.toNat_inj.1 e)
      simp [this, h]

def ltB : List UInt8 → List UInt8 → Bool
  | _, [] => false
  | [], _ :: _ => true
  | a :: x, b :: y => bif Nat.beq a.toNat b.toNat then ltB x y else Nat.blt a.toNat b.toNat
theorem ltB_eq : ∀ (x y : List UInt8), ltB x y = Op.bytesLess x y
  | _, [] => by simp [ltB, Op.bytesLess]
  | [], _ :: _ => by simp [ltB, Op.bytesLess]
  | a :: x, b :: y => by
    simp only [ltB, Op.bytesLess]
    rw [nbeq, ltB_eq x y]
    by_cases h : a = b
    · subst h; simp
    · have h1 : ¬ a.toNat = b.toNat := fun e => h (UInt8.toNat_inj.1 e)
      simp only [h1, decide_false, cond_false, beq_eq_false_iff_ne.2 h, Bool.false_and, Bool.or_false]
      rw [Bool.eq_iff_iff]; simp [Nat.blt_eq, UInt8.lt_iff_toNat_lt]

theorem size_data (s : ByteArray) : s.size = s.data.toList.length := by rw [Array.length_toList]; rfl

theorem toList_data (s : ByteArray) : s.toList = s.data.toList := by
  have key : ∀ (n i : Nat) (r : List UInt8), s.size - i = n → ByteArray.toList.loop s i r = r.reverse ++ s.data.toList.drop i := by
    intro n
    induction n with
    | zero =>
      intro i r hn
      unfold ByteArray.toList.loop
      have hs : ¬ i < s.size := by omega
      rw [if_neg hs]
      have hs' : s.data.toList.length ≤ i := by
        have := size_data s
        omega
      rw [List.drop_eq_nil_of_le hs', List.append_nil]
    | succ n ih =>
      intro i r hn
      unfold ByteArray.toList.loop
      have hs : i < s.size := by omega
      rw [if_pos hs, ih (i + 1) _ (by omega)]
      have hl : i < s.data.toList.length := by rw [← size_data]; exact hs
      rw [List.drop_eq_getElem_cons hl]
      have hl' : i < s.data.size := hs
      have hg : s.get! i = s.data.toList[i] := by
        obtain ⟨d⟩ := s
        show d[i]! = _
        rw [getElem!_pos d i hl']; simp
      rw [hg]; simp
  unfold ByteArray.toList
  rw [key s.size 0 [] rfl]; simp

/-- The greatest int. -/
def maxStr : Nat := 9223372036854775807

/-- What an operator gives for two strings. -/
def strOp (op : BinOp) (x y : ByteArray) : Option Value :=
  match op with
  | .add => bif Nat.ble (x.data.toList.length + y.data.toList.length) maxStr then some (.string ⟨⟨x.data.toList ++ y.data.toList⟩⟩) else none
  | .eql => some (.bool (eqB x.data.toList y.data.toList))
  | .neq => some (.bool (!eqB x.data.toList y.data.toList))
  | .lss => some (.bool (ltB x.data.toList y.data.toList))
  | .leq => some (.bool (ltB x.data.toList y.data.toList || eqB x.data.toList y.data.toList))
  | .gtr => some (.bool (!(ltB x.data.toList y.data.toList || eqB x.data.toList y.data.toList)))
  | .geq => some (.bool (!ltB x.data.toList y.data.toList))
  | _ => none

theorem strOp_ok {P : Program} {op : BinOp} {x y : ByteArray} {v : Value} {w : World} (h : strOp op x y = some v) : (Op.stringOp op x y).run P w = .ok v w := by
  unfold Op.stringOp
  simp only [toList_data]
  cases op <;> simp only [strOp] at h <;> try (cases h; done)
  case add =>
    cases hb : Nat.ble (x.data.toList.length + y.data.toList.length) maxStr with
    | false => rw [hb, cond_false] at h; cases h
    | true =>
      rw [hb, cond_true] at h; cases h
      have hle := Nat.le_of_ble_eq_true hb
      have hs : x.size + y.size = x.data.toList.length + y.data.toList.length := by rw [size_data, size_data]
      have hm : IntKind.i64.max = (maxStr : Int) := by decide
      rw [hs, hm, if_neg (by omega)]
      simp only [Sem.run_pure]
      congr 2
  all_goals (cases h; simp [eqB_eq, ltB_eq])

theorem bytes_beq (a b : ByteArray) : (a == b) = eqB a.data.toList b.data.toList := by
  have e0 : (a == b) = (a.data == b.data) := by cases a; cases b; rfl
  rw [e0, eqB_eq, Bool.eq_iff_iff, beq_iff_eq, beq_iff_eq]
  exact ⟨fun h => by rw [h], fun h => Array.ext' h⟩

/-- A part of a string. -/
def bsub (s : ByteArray) (l h : Nat) : ByteArray := ⟨⟨(s.data.toList.take h).drop l⟩⟩
theorem bsub_eq (s : ByteArray) (l h : Nat) : bsub s l h = s.extract l h := by
  apply ByteArray.ext
  apply Array.ext'
  rw [bsub]
  simp only [ByteArray.data_extract, Array.toList_extract, List.extract_eq_take_drop]
  rw [List.drop_take]

end Go.Ev
