/-
  For the human's part: bits of natural numbers.
-/
import Derived.Test.YtgdkenndkhnkdaaHm1
set_option linter.unusedSectionVars false
set_option linter.unusedSimpArgs false
set_option linter.unusedVariables false
namespace Go.Sh
theorem bv_nat (w a : Nat) (h : a < 2 ^ w) : BitVec.ofInt w (a : Int) = BitVec.ofNat w a := by
  apply BitVec.eq_of_toNat_eq
  rw [BitVec.toNat_ofInt, BitVec.toNat_ofNat]
  rw [← Int.natCast_emod, Int.toNat_natCast]
end Go.Sh
