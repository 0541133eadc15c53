/-
  The first bits of an address, in numbers.
-/
import Derived.Test.YtcnbolonnlmlgaaDoorHm2
set_option linter.unusedVariables false
set_option linter.unusedSimpArgs false
namespace Go.Proofs.YtcnbolonnlmlgaaDoor
open Go.Sh

theorem wi64n (a : Nat) (h : a ≤ 9223372036854775807) : IntKind.wrap .i64 (a : Int) = (a : Int) := wr_i64 (by omega) (by omega)
/-! ### The first bits of an address -/
theorem notBits (n a : Nat) (ha : a < 2 ^ n) (k : Nat) (hk : k ≤ n) : a &&& (2 ^ n - 1 - (2 ^ k - 1)) = a - a % 2 ^ k := by
  have hpk : 2 ^ k ≤ 2 ^ n := Nat.pow_le_pow_right (by decide) hk
  have h0 : 0 < 2 ^ k := Nat.two_pow_pos k
  apply Nat.eq_of_testBit_eq
  intro i
  rw [Nat.testBit_and, show 2 ^ n - 1 - (2 ^ k - 1) = 2 ^ n - ((2 ^ k - 1) + 1) by omega, Nat.testBit_two_pow_sub_succ (by omega), Nat.testBit_two_pow_sub_one]
  have e : a - a % 2 ^ k = 2 ^ k * (a / 2 ^ k) := by have := Nat.div_add_mod a (2 ^ k); omega
  rw [e, Nat.testBit_two_pow_mul]
  by_cases hi : i < k
  · simp [hi]; intro _; omega
  · rw [Nat.testBit_div_two_pow, show i - k + k = i by omega]
    by_cases hn : i < n
    · simp [hi, hn]; omega
    · have : a.testBit i = false := Nat.testBit_lt_two_pow (Nat.lt_of_lt_of_le ha (Nat.pow_le_pow_right (by decide) (by omega)))
      simp [this]
theorem andNot_low (a : Nat) (ha : a < 4294967296) (k : Nat) (hk : k ≤ 32) : bitsAndNot .u32 (a : Int) ((2 ^ k - 1 : Nat) : Int) = ((a - a % 2 ^ k : Nat) : Int) := by
  have hp : 2 ^ k ≤ 2 ^ 32 := Nat.pow_le_pow_right (by decide) hk
  have h0 : 0 < 2 ^ k := Nat.two_pow_pos k
  have e32 : (2 : Nat) ^ 32 = 4294967296 := rfl
  unfold bitsAndNot
  have hb : IntKind.bits .u32 = 32 := rfl
  rw [hb, bv_nat 32 a (by omega), bv_nat 32 (2 ^ k - 1) (by omega), BitVec.toNat_and, BitVec.toNat_not, BitVec.toNat_ofNat, BitVec.toNat_ofNat, Nat.mod_eq_of_lt (by omega), Nat.mod_eq_of_lt (by omega)]
  rw [notBits 32 a (by omega) k hk, wu32 (by omega)]
def hostBits (n : Nat) : Nat := 2 ^ (32 - n)
theorem wu64n (a : Nat) (h : a < 18446744073709551616) : IntKind.wrap .u64 (a : Int) = (a : Int) := by rw [wr_u64]; omega

end Go.Proofs.YtcnbolonnlmlgaaDoor
