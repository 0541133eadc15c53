/-
  For the human's part: bits of natural numbers.
-/
import Derived.Test.YtboagabgpcghcaaDoorHm1
set_option linter.all false
namespace Go.Sh
theorem bv_nat (w a : Nat) (h : a < 2 ^ w) : BitVec.ofInt w (a : Int) = BitVec.ofNat w a := by apply BitVec.eq_of_toNat_eq; rw [BitVec.toNat_ofInt, BitVec.toNat_ofNat]; rw [← Int.natCast_emod, Int.toNat_natCast]
theorem and_nat (k : IntKind) (a b : Nat) (ha : a < 2 ^ k.bits) (hb : b < 2 ^ k.bits) : bitsAnd k a b = k.wrap ((a &&& b : Nat) : Int) := by unfold bitsAnd; rw [bv_nat _ _ ha, bv_nat _ _ hb, BitVec.toNat_and, BitVec.toNat_ofNat, BitVec.toNat_ofNat, Nat.mod_eq_of_lt ha, Nat.mod_eq_of_lt hb]
theorem or_nat (k : IntKind) (a b : Nat) (ha : a < 2 ^ k.bits) (hb : b < 2 ^ k.bits) : bitsOr k a b = k.wrap ((a ||| b : Nat) : Int) := by unfold bitsOr; rw [bv_nat _ _ ha, bv_nat _ _ hb, BitVec.toNat_or, BitVec.toNat_ofNat, BitVec.toNat_ofNat, Nat.mod_eq_of_lt ha, Nat.mod_eq_of_lt hb]
theorem lt_i64 {a : Nat} (h : a < 18446744073709551616) : a < 2 ^ IntKind.bits .i64 := Nat.lt_of_lt_of_le h (by decide)
theorem lt_u32 {a : Nat} (h : a < 4294967296) : a < 2 ^ IntKind.bits .u32 := Nat.lt_of_lt_of_le h (by decide)
theorem lt_u8 {a : Nat} (h : a < 256) : a < 2 ^ IntKind.bits .u8 := Nat.lt_of_lt_of_le h (by decide)
theorem and_low (n a : Nat) : a &&& (2 ^ n - 1) = a % 2 ^ n := Nat.and_two_pow_sub_one_eq_mod a n
theorem and_255 (a : Nat) : a &&& 255 = a % 256 := and_low 8 a
theorem and_bit (n a : Nat) : a &&& 2 ^ n = 2 ^ n * (a / 2 ^ n % 2) := by
  apply Nat.eq_of_testBit_eq; intro i; rw [Nat.testBit_and, Nat.testBit_two_pow, Nat.testBit_two_pow_mul]; by_cases h : n = i; subst h; simp only [decide_true, Bool.and_true, Nat.le_refl, ge_iff_le, Nat.sub_self, Bool.true_and]; rw [Nat.testBit_eq_decide_div_mod_eq]; rw [Nat.testBit_eq_decide_div_mod_eq]; simp
  . rw [decide_eq_false h, Bool.and_false]; by_cases h2 : n <= i
    . rw [decide_eq_true (by omega), Bool.true_and, Nat.testBit_eq_decide_div_mod_eq]
      have : a / 2 ^ n % 2 / 2 ^ (i - n) = 0 := by
        apply Nat.div_eq_of_lt; have h3 : 2 ^ 1 <= 2 ^ (i - n) := Nat.pow_le_pow_right (by decide) (by omega)
        omega
      rw [this]; rfl
    rw [decide_eq_false (by omega), Bool.false_and]
theorem or_up (n a b : Nat) (h : b < 2 ^ n) : (2 ^ n * a) ||| b = 2 ^ n * a + b := (Nat.two_pow_add_eq_or_of_lt h a).symm
theorem or_256 (a b : Nat) (h : b < 256) : (a * 256) ||| b = a * 256 + b := by
  have := or_up 8 a b h; rw [show (2 : Nat) ^ 8 = 256 from rfl, Nat.mul_comm 256 a] at this; exact this
end Go.Sh
