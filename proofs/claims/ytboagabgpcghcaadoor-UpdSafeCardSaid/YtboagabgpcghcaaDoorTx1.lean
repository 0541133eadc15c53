/-
  Texts: parts between a byte; decimal numbers. In plain Lean.
-/
import Derived.Test.YtboagabgpcghcaaDoorHm2
import Derived.Lib.ItoaNum
import Derived.Lib.AtoiAll
import Derived.Lib.SplitLaws
import Derived.Lib.Join
set_option linter.all false
namespace Go.Sh
theorem itoa_nat (n : Nat) : Lib.itoa (n : Int) = Lib.decDigits n := by unfold Lib.itoa; rw [if_neg (by omega), Int.toNat_natCast]
theorem dec_lt {u : Nat} (h : u < 10) : Lib.decDigits u = [UInt8.ofNat (48 + u)] := by rw [Lib.decDigits, dif_pos h]
theorem dec_ge {u : Nat} (h : ¬ u < 10) : Lib.decDigits u = Lib.decDigits (u / 10) ++ [UInt8.ofNat (48 + u % 10)] := by rw [Lib.decDigits, dif_neg h]
def valF (n : Nat) (x : UInt8) : Nat := 10 * n + (x.toNat - 48)
def val (s : List UInt8) : Nat := s.foldl valF 0
theorem dec_len {u k : Nat} (h : u < 10 ^ (k + 1)) : (Lib.decDigits u).length <= k + 1 := by
  induction k generalizing u with
  | zero => rw [dec_lt (by omega)]; simp
  | succ k ih =>
    by_cases h2 : u < 10; rw [dec_lt h2]; simp
    . rw [dec_ge h2]; have := ih (u := u / 10) (by rw [Nat.pow_succ] at h; omega)
      simp; omega
end Go.Sh
