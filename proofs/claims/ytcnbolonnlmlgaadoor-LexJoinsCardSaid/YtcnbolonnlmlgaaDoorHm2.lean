/-
  For the human's part: bits of natural numbers.
-/
import Derived.Test.YtcnbolonnlmlgaaDoorHm1
set_option linter.unusedSectionVars false
set_option linter.unusedSimpArgs false
set_option linter.unusedVariables false
namespace Go.Sh

theorem bv_nat (w a : Nat) (h : a < 2 ^ w) : BitVec.ofInt w (a : Int) = BitVec.ofNat w a := by
  apply BitVec.eq_of_toNat_eq
  rw [BitVec.toNat_ofInt, BitVec.toNat_ofNat]
  rw [← Int.natCast_emod, Int.toNat_natCast]
theorem and_nat (k : IntKind) (a b : Nat) (ha : a < 2 ^ k.bits) (hb : b < 2 ^ k.bits) : bitsAnd k a b = k.wrap ((a &&& b : Nat) : Int) := by
  unfold bitsAnd
  rw [bv_nat _ _ ha, bv_nat _ _ hb, BitVec.toNat_and, BitVec.toNat_ofNat, BitVec.toNat_ofNat, Nat.mod_eq_of_lt ha, Nat.mod_eq_of_lt hb]
theorem or_nat (k : IntKind) (a b : Nat) (ha : a < 2 ^ k.bits) (hb : b < 2 ^ k.bits) : bitsOr k a b = k.wrap ((a ||| b : Nat) : Int) := by
  unfold bitsOr
  rw [bv_nat _ _ ha, bv_nat _ _ hb, BitVec.toNat_or, BitVec.toNat_ofNat, BitVec.toNat_ofNat, Nat.mod_eq_of_lt ha, Nat.mod_eq_of_lt hb]
theorem xor_nat (k : IntKind) (a b : Nat) (ha : a < 2 ^ k.bits) (hb : b < 2 ^ k.bits) : bitsXor k a b = k.wrap ((a ^^^ b : Nat) : Int) := by
  unfold bitsXor
  rw [bv_nat _ _ ha, bv_nat _ _ hb, BitVec.toNat_xor, BitVec.toNat_ofNat, BitVec.toNat_ofNat, Nat.mod_eq_of_lt ha, Nat.mod_eq_of_lt hb]

theorem lt_i64 {a : Nat} (h : a < 18446744073709551616) : a < 2 ^ IntKind.bits .i64 := Nat.lt_of_lt_of_le h (by decide)
theorem lt_u32 {a : Nat} (h : a < 4294967296) : a < 2 ^ IntKind.bits .u32 := Nat.lt_of_lt_of_le h (by decide)
theorem lt_u16 {a : Nat} (h : a < 65536) : a < 2 ^ IntKind.bits .u16 := Nat.lt_of_lt_of_le h (by decide)
theorem lt_u8 {a : Nat} (h : a < 256) : a < 2 ^ IntKind.bits .u8 := Nat.lt_of_lt_of_le h (by decide)

/-- The low bits. -/
theorem and_low (n a : Nat) : a &&& (2 ^ n - 1) = a % 2 ^ n := Nat.and_two_pow_sub_one_eq_mod a n
theorem and_65535 (a : Nat) : a &&& 65535 = a % 65536 := and_low 16 a
theorem and_8191 (a : Nat) : a &&& 8191 = a % 8192 := and_low 13 a
theorem and_255 (a : Nat) : a &&& 255 = a % 256 := and_low 8 a
theorem and_15 (a : Nat) : a &&& 15 = a % 16 := and_low 4 a
/-- One bit. -/
theorem and_bit (n a : Nat) : a &&& 2 ^ n = 2 ^ n * (a / 2 ^ n % 2) := by
  apply Nat.eq_of_testBit_eq
  intro i
  rw [Nat.testBit_and, Nat.testBit_two_pow, Nat.testBit_two_pow_mul]
  by_cases h : n = i
  · subst h
    simp only [decide_true, Bool.and_true, Nat.le_refl, ge_iff_le, Nat.sub_self, Bool.true_and]
    rw [Nat.testBit_eq_decide_div_mod_eq]
    rw [Nat.testBit_eq_decide_div_mod_eq]
    simp
  · rw [decide_eq_false h, Bool.and_false]
    by_cases h2 : n ≤ i
    · rw [decide_eq_true (by omega), Bool.true_and, Nat.testBit_eq_decide_div_mod_eq]
      have : a / 2 ^ n % 2 / 2 ^ (i - n) = 0 := by
        apply Nat.div_eq_of_lt
        have h3 : 2 ^ 1 ≤ 2 ^ (i - n) := Nat.pow_le_pow_right (by decide) (by omega)
        omega
      rw [this]; rfl
    · rw [decide_eq_false (by omega), Bool.false_and]
theorem and_8192 (a : Nat) : a &&& 8192 = 8192 * (a / 8192 % 2) := and_bit 13 a
theorem and_16384 (a : Nat) : a &&& 16384 = 16384 * (a / 16384 % 2) := and_bit 14 a
theorem and_32768 (a : Nat) : a &&& 32768 = 32768 * (a / 32768 % 2) := and_bit 15 a
/-- Numbers that share no bit. -/
theorem or_up (n a b : Nat) (h : b < 2 ^ n) : (2 ^ n * a) ||| b = 2 ^ n * a + b := (Nat.two_pow_add_eq_or_of_lt h a).symm
theorem or_256 (a b : Nat) (h : b < 256) : (a * 256) ||| b = a * 256 + b := by
  have := or_up 8 a b h
  rw [show (2 : Nat) ^ 8 = 256 from rfl, Nat.mul_comm 256 a] at this; exact this
theorem or_65536 (a b : Nat) (h : b < 65536) : (a * 65536) ||| b = a * 65536 + b := by
  have := or_up 16 a b h
  rw [show (2 : Nat) ^ 16 = 65536 from rfl, Nat.mul_comm 65536 a] at this; exact this
theorem or_8192 (b : Nat) (h : b < 8192) : b ||| 8192 = b + 8192 := by
  have := or_up 13 1 b h
  rw [Nat.or_comm, Nat.mul_one] at this
  rw [show (8192 : Nat) = 2 ^ 13 from rfl, this]; omega
theorem or_16384 (b : Nat) (h : b < 16384) : b ||| 16384 = b + 16384 := by
  have := or_up 14 1 b h
  rw [Nat.or_comm, Nat.mul_one] at this
  rw [show (16384 : Nat) = 2 ^ 14 from rfl, this]; omega
/-- All bits turned. -/
theorem xor_ones (n a : Nat) (h : a < 2 ^ n) : (2 ^ n - 1) ^^^ a = 2 ^ n - 1 - a := by
  apply Nat.eq_of_testBit_eq
  intro i
  rw [Nat.testBit_xor, Nat.testBit_two_pow_sub_one, show 2 ^ n - 1 - a = 2 ^ n - (a + 1) by omega, Nat.testBit_two_pow_sub_succ h]
  by_cases hi : i < n
  · simp [hi]
  · have : a.testBit i = false := Nat.testBit_lt_two_pow (Nat.lt_of_lt_of_le h (Nat.pow_le_pow_right (by decide) (by omega)))
    simp [hi, this]
theorem xor_65535 (a : Nat) (h : a < 65536) : 65535 ^^^ a = 65535 - a := xor_ones 16 a h

end Go.Sh
