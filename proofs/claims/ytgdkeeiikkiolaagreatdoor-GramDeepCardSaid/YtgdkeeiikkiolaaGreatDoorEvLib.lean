/-
  Numbers' texts, for the machine: what strconv.Itoa and strconv.Atoi answer, reckoned in a way the kernel can follow.
-/
import Derived.Lib.ItoaNum
import Derived.Lib.AtoiAll
import Derived.Lib.Bytealg
import Derived.Lib.SlTrimSet
set_option linter.all false
namespace Go.Ev

def decF : Nat → Nat → List UInt8 → List UInt8
  | 0, _, acc => acc
  | n + 1, u, acc => match Nat.blt u 10 with
    | true => UInt8.ofNat (48 + u) :: acc
    | false => decF n (u / 10) (UInt8.ofNat (48 + u % 10) :: acc)
theorem decF_eq : ∀ (n u : Nat) (acc : List UInt8), u < 10 ^ n → 0 < n → decF n u acc = Lib.decDigits u ++ acc
  | 0, _, _, _, h => by omega
  | n + 1, u, acc, h, _ => by
    unfold decF Lib.decDigits
    by_cases hu : u < 10
    · have : Nat.blt u 10 = true := by simpa using hu
      rw [this, dif_pos hu]; rfl
    · have : Nat.blt u 10 = false := by
        cases hb : Nat.blt u 10 with
        | false => rfl
        | true => exact absurd (by simpa using hb) hu
      rw [this, dif_neg hu]
      have hn : 0 < n := by
        rcases Nat.eq_zero_or_pos n with h0 | h0
        · subst h0; simp at h; omega
        · exact h0
      have h2 : u / 10 < 10 ^ n := by
        rw [Nat.pow_succ] at h
        omega
      show decF n (u / 10) _ = _
      rw [decF_eq n (u / 10) _ h2 hn, List.append_assoc]; rfl
theorem itoa_decF {u : Nat} (h : u < 10 ^ 18) : Lib.itoa (Int.ofNat u) = decF 18 u [] := by
  rw [decF_eq 18 u [] h (by omega), List.append_nil]
  unfold Lib.itoa
  rw [if_neg (by show ¬ ((u : Int) < 0); omega)]
  rfl

/-- A number of digits alone, of at most fifteen. -/
def numF : Nat → Nat → List UInt8 → Option Nat
  | _, acc, [] => some acc
  | 0, _, _ :: _ => none
  | n + 1, acc, c :: r => match Nat.ble 48 c.toNat, Nat.ble c.toNat 57 with
    | true, true => numF n (acc * 10 + (c.toNat - 48)) r
    | _, _ => none
theorem numF_eq : ∀ (n acc : Nat) (l : List UInt8) (u : Nat), acc + 1 ≤ 10 ^ (15 - n) → n ≤ 15 → numF n acc l = some u → Lib.parseUint10 acc l = .ok u ∧ u < 10 ^ 15 ∧ l.length ≤ n
  | n, acc, [], u, ha, hn, h => by
    have hp : 10 ^ (15 - n) ≤ 10 ^ 15 := Nat.pow_le_pow_right (by omega) (by omega)
    have : acc = u := by cases n <;> simpa [numF] using h
    subst this
    exact ⟨rfl, by omega, by simp⟩
  | 0, _, _ :: _, _, _, _, h => by simp [numF] at h
  | n + 1, acc, c :: r, u, ha, hn, h => by
    simp only [numF] at h
    split at h
    · rename_i h1 h2
      have h1 := Nat.le_of_ble_eq_true h1
      have h2 := Nat.le_of_ble_eq_true h2
      have hp : 10 ^ (15 - n) = 10 ^ (15 - (n + 1)) * 10 := by rw [← Nat.pow_succ]; congr 1; omega
      have hq : 10 ^ (15 - (n + 1)) ≤ 10 ^ 15 := Nat.pow_le_pow_right (by omega) (by omega)
      obtain ⟨e1, e2, e3⟩ := numF_eq n _ r u (by omega) (by omega) h
      refine ⟨?_, e2, by simp only [List.length_cons]; omega⟩
      unfold Lib.parseUint10
      have e15 : (10 : Nat) ^ 15 = 1000000000000000 := by decide
      rw [if_pos ⟨h1, h2⟩, if_neg (by omega), if_neg (by omega)]
      exact e1
    · cases h
def atoiF (l : List UInt8) : Option Nat := match l with
  | [] => none
  | c :: r => numF 15 0 (c :: r)
theorem atoiF_eq {l : List UInt8} {u : Nat} (h : atoiF l = some u) : Lib.atoiAll l = .ok (Int.ofNat u) ∧ l.length ≤ 15 := by
  unfold atoiF at h
  cases l with
  | nil => cases h
  | cons c r =>
    simp only at h
    obtain ⟨h1, h2, h3⟩ := numF_eq 15 0 (c :: r) u (by decide) (by omega) h
    refine ⟨?_, h3⟩
    have e15 : (10 : Nat) ^ 15 = 1000000000000000 := by decide
    have hc : 48 ≤ c.toNat ∧ c.toNat ≤ 57 := by
      unfold Lib.parseUint10 at h1
      split at h1
      · assumption
      · cases h1
    unfold Lib.atoiAll
    simp only
    rw [if_neg (by omega)]
    unfold Lib.parseMag
    rw [if_neg (by simp), h1]
    simp only
    rw [if_neg (by omega), if_neg (by omega), if_neg (by omega)]
    rfl

/-- Where a byte first stands. -/
def idxF : List UInt8 → Nat → Nat → Int
  | [], _, _ => -1
  | b :: l, c, k => match Nat.beq b.toNat c with
    | true => .ofNat k
    | false => idxF l c (k + 1)
theorem u8_beq {b : UInt8} {c : Nat} (hc : c < 256) : (b == c.toUInt8) = Nat.beq b.toNat c := by
  rw [Bool.eq_iff_iff, beq_iff_eq]
  constructor
  · intro h
    subst h
    have : (c.toUInt8).toNat = c := by simp [Nat.toUInt8]; omega
    rw [this]; exact Nat.beq_refl c
  · intro h
    have h := Nat.eq_of_beq_eq_true h
    apply UInt8.toNat_inj.1
    rw [h]; simp [Nat.toUInt8]; omega
theorem idxF_eq {c : Nat} (hc : c < 256) : ∀ (l : List UInt8) (k : Nat), idxF l c k = if Lib.indexByte l c.toUInt8 = -1 then -1 else Lib.indexByte l c.toUInt8 + k
  | [], _ => rfl
  | b :: l, k => by
    unfold idxF Lib.indexByte
    rw [u8_beq hc]
    cases hb : Nat.beq b.toNat c with
    | true => simp
    | false =>
      have h := Lib.indexByte_ge l c.toUInt8
      simp only [Bool.false_eq_true, if_false, idxF_eq hc l (k + 1)]
      by_cases h1 : Lib.indexByte l c.toUInt8 = -1
      · simp [h1]
      · rw [if_neg h1]
        have h2 : (Lib.indexByte l c.toUInt8 == -1) = false := by simpa using h1
        rw [h2]
        simp only [Bool.false_eq_true, if_false]
        rw [if_neg (by omega)]
        omega
/-- How often a byte stands there. -/
def cntF : List UInt8 → Nat → Nat → Nat
  | [], _, k => k
  | b :: l, c, k => match Nat.beq b.toNat c with
    | true => cntF l c (k + 1)
    | false => cntF l c k
theorem cntF_eq {c : Nat} (hc : c < 256) : ∀ (l : List UInt8) (k : Nat), cntF l c k = k + Lib.countByte l c.toUInt8
  | [], _ => rfl
  | b :: l, k => by
    unfold cntF Lib.countByte
    rw [List.count_cons, u8_beq hc]
    cases hb : Nat.beq b.toNat c with
    | true => simp only [cntF_eq hc l (k + 1), Lib.countByte]; simp; omega
    | false => simp only [cntF_eq hc l k, Lib.countByte]; simp

/-! ### Trim -/
def memF : List UInt8 → Nat → Bool
  | [], _ => false
  | b :: l, n => match Nat.beq b.toNat n with
    | true => true
    | false => memF l n
theorem memF_eq (x : UInt8) : ∀ cs : List UInt8, memF cs x.toNat = cs.contains x
  | [] => rfl
  | b :: l => by
    unfold memF
    rw [List.contains_cons]
    by_cases h : x = b
    · subst h
      rw [Nat.beq_refl]; simp
    · have h1 : Nat.beq b.toNat x.toNat = false := by
        cases hb : Nat.beq b.toNat x.toNat with
        | false => rfl
        | true => exact absurd (UInt8.toNat_inj.1 (Nat.eq_of_beq_eq_true hb)).symm h
      rw [h1]
      have h2 : (x == b) = false := by simpa using h
      rw [h2, Bool.false_or]
      exact memF_eq x l
def dropF : List UInt8 → List UInt8 → List UInt8
  | [], _ => []
  | b :: l, cs => match memF cs b.toNat with
    | true => dropF l cs
    | false => b :: l
theorem dropF_eq (cs : List UInt8) : ∀ l : List UInt8, dropF l cs = l.dropWhile (cs.contains ·)
  | [] => rfl
  | b :: l => by
    unfold dropF
    rw [memF_eq, List.dropWhile_cons]
    cases h : cs.contains b with
    | true => simp only [if_true]; exact dropF_eq cs l
    | false => simp
def trimF (l cs : List UInt8) : List UInt8 := dropF (dropF l.reverse cs).reverse cs
theorem trimF_eq (l cs : List UInt8) : trimF l cs = Lib.trimS l cs := by
  unfold trimF Lib.trimS Lib.trimLeftS Lib.trimRightS
  rw [dropF_eq, dropF_eq]
def asciiF : List UInt8 → Bool
  | [] => true
  | b :: l => match Nat.blt b.toNat 128 with
    | true => asciiF l
    | false => false
theorem asciiF_eq : ∀ {l : List UInt8}, asciiF l = true → l.all (fun b => decide (b.toNat < 128)) = true
  | [], _ => rfl
  | b :: l, h => by
    unfold asciiF at h
    split at h
    · rename_i hb
      rw [List.all_cons, asciiF_eq h, Bool.and_true]
      exact decide_eq_true (by simpa using hb)
    · cases h
end Go.Ev
