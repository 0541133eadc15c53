/-
  For the human's part: conditions over plain data, step by step.
-/
import Derived.Test.YtcnbolonnlmlgaaDoorPw13
set_option linter.unusedSectionVars false
set_option linter.unusedSimpArgs false
set_option linter.unusedVariables false
namespace Go.Sh

theorem ifT {b : Bool} {X Y : Prop} (h : b = true) (x : X) : IfB b X Y := by subst h; exact x
theorem ifF {b : Bool} {X Y : Prop} (h : b = false) (y : Y) : IfB b X Y := by subst h; exact y
theorem ifB_iff {b : Bool} {X Y : Prop} : IfB b X Y ↔ (b = true → X) ∧ (b = false → Y) := by cases b <;> simp [IfB]
theorem AtN.of {A : Type} {xs : List A} {i : Nat} {k : A → Prop} {x : A} (h : xs[i]? = some x) (hk : k x) : AtN xs i k :=
  ⟨(List.getElem?_eq_some_iff.1 h).1, fun y hy => by rw [h] at hy; cases hy; exact hk⟩
theorem of_eq {T : Type} {next : T → Prop} {x y : T} (h : next x) (e : x = y) : next y := e ▸ h

theorem of_eq2 {A B : Type} {K : A → B → Prop} {x y : A} {b : B} (h : K x b) (e : x = y) : K y b := e ▸ h

theorem wr_i64 {n : Int} (h1 : -9223372036854775808 ≤ n) (h2 : n ≤ 9223372036854775807) : IntKind.wrap .i64 n = n := by
  unfold IntKind.wrap
  simp [IntKind.bits, IntKind.signed]
  split <;> omega
theorem wr_u8 (n : Int) : IntKind.wrap .u8 n = n % 256 := by
  simp [IntKind.wrap, IntKind.bits, IntKind.signed]
theorem wr_u16 (n : Int) : IntKind.wrap .u16 n = n % 65536 := by
  simp [IntKind.wrap, IntKind.bits, IntKind.signed]
theorem wr_u32 (n : Int) : IntKind.wrap .u32 n = n % 4294967296 := by
  simp [IntKind.wrap, IntKind.bits, IntKind.signed]
theorem wr_u64 (n : Int) : IntKind.wrap .u64 n = n % 18446744073709551616 := by
  simp [IntKind.wrap, IntKind.bits, IntKind.signed]

/-- A loop whose i-th round finds what is told beforehand; it may leave before its end. -/
theorem LoopJ.up {T : Type} {x0 : T} {body : T → (T → Prop) → Prop} (n : Nat) (S : Nat → T) (P : Nat → Prop) (h0 : x0 = S 0) (hP : P 0)
    (hr : ∀ i, i < n → P i → ∀ next : T → Prop, (P (i + 1) → next (S (i + 1))) → body (S i) next) (he : P n → ∀ next, body (S n) next) : LoopJ T x0 body :=
  ⟨fun k x => ∃ i, i ≤ n ∧ k = n - i ∧ x = S i ∧ P i, n, ⟨0, by omega, by omega, h0, hP⟩, by
    rintro k x ⟨i, hi, rfl, rfl, hp⟩
    by_cases h : i < n
    · exact hr i h hp _ (fun hp' => ⟨n - (i + 1), by omega, i + 1, by omega, rfl, rfl, hp'⟩)
    · obtain rfl : i = n := by omega
      exact he hp _⟩
/-- The same, over a list. -/
theorem LoopJ.list {T A : Type} {x0 : T} {body : T → (T → Prop) → Prop} (xs : List A) (S : List A → T) (P : List A → Prop) (h0 : x0 = S []) (hP : P [])
    (hr : ∀ pre x post, xs = pre ++ x :: post → P pre → ∀ next : T → Prop, (P (pre ++ [x]) → next (S (pre ++ [x]))) → body (S pre) next) (he : P xs → ∀ next, body (S xs) next) : LoopJ T x0 body := by
  refine LoopJ.up xs.length (fun i => S (xs.take i)) (fun i => P (xs.take i)) (by simpa using h0) (by simpa using hP) (fun i hi hp next hn => ?_) (by simpa using he)
  have e : xs.take (i + 1) = xs.take i ++ [xs[i]] := by rw [List.take_add_one, List.getElem?_eq_getElem hi]; rfl
  refine hr (xs.take i) xs[i] (xs.drop (i + 1)) ?_ hp next ?_
  · rw [← List.drop_eq_getElem_cons hi, List.take_append_drop]
  · rw [← e]; exact hn

theorem at_pre {A : Type} {xs pre post : List A} {x : A} (h : xs = pre ++ x :: post) : xs[((pre.length : Nat) : Int).toNat]? = some x := by
  subst h; simp

theorem wfL {ks : List Kd} {xs : List (Tp ks)} (h : WfE (.lst ks) xs) : xs.length ≤ 9223372036854775807 := by
  simp only [WfE] at h; exact h.1
theorem wfM {ks : List Kd} {xs : List (Tp ks)} (h : WfE (.lst ks) xs) {x : Tp ks} (hx : x ∈ xs) : WfT ks x := by
  simp only [WfE] at h; exact h.2 x hx

theorem ofI_u8 (x : UInt8) : ofI .u8 (x.toNat : Int) = x := by simp [ofI]
theorem ofI_u16 (x : UInt16) : ofI .u16 (x.toNat : Int) = x := by simp [ofI]
theorem ofI_u32 (x : UInt32) : ofI .u32 (x.toNat : Int) = x := by simp [ofI]
theorem ofI_u64 (x : UInt64) : ofI .u64 (x.toNat : Int) = x := by simp [ofI]

theorem LoopJ.over {T A : Type} {x0 : T} {body : T → (T → Prop) → Prop} (xs : List A) (S : List A → T) (P : List A → Prop) (h0 : x0 = S []) (hP : P [])
    (hr : ∀ pre x post, xs = pre ++ x :: post → xs.length = pre.length + (post.length + 1) → P pre → ∀ next : T → Prop, (P (pre ++ [x]) → next (S (pre ++ [x]))) → body (S pre) next) (he : P xs → ∀ next, body (S xs) next) : LoopJ T x0 body :=
  LoopJ.list xs S P h0 hP (fun pre x post h => hr pre x post h (by rw [h]; simp)) he

/-! ### Numbers that are natural ones -/
theorem fdiv_1 (a : Nat) : Int.fdiv (a : Int) 256 = ((a / 256 : Nat) : Int) := by rw [Int.fdiv_eq_ediv_of_nonneg _ (by decide)]; rfl
theorem fdiv_2 (a : Nat) : Int.fdiv (a : Int) 65536 = ((a / 65536 : Nat) : Int) := by rw [Int.fdiv_eq_ediv_of_nonneg _ (by decide)]; rfl
theorem fdiv_3 (a : Nat) : Int.fdiv (a : Int) 16777216 = ((a / 16777216 : Nat) : Int) := by rw [Int.fdiv_eq_ediv_of_nonneg _ (by decide)]; rfl
theorem tdiv_1 (a : Nat) : Int.tdiv (a : Int) 256 = ((a / 256 : Nat) : Int) := rfl
theorem tdiv_2 (a : Nat) : Int.tdiv (a : Int) 65536 = ((a / 65536 : Nat) : Int) := rfl
theorem tdiv_3 (a : Nat) : Int.tdiv (a : Int) 16777216 = ((a / 16777216 : Nat) : Int) := rfl
theorem tmod_1 (a : Nat) : Int.tmod (a : Int) 256 = ((a % 256 : Nat) : Int) := rfl
theorem tmod_2 (a : Nat) : Int.tmod (a : Int) 65536 = ((a % 65536 : Nat) : Int) := rfl
theorem u8_mod (a : Nat) : UInt8.ofNat (a % 256) = UInt8.ofNat a := by
  apply UInt8.toNat_inj.1; simp
theorem of8w (a : Nat) : ofI .u8 (IntKind.wrap .u8 (a : Int)) = UInt8.ofNat a := by
  rw [wr_u8]
  show UInt8.ofNat ((a : Int) % 256).toNat = _
  rw [← u8_mod a]
  congr 1
theorem of8 (a : Nat) : ofI .u8 (a : Int) = UInt8.ofNat a := rfl
theorem wu32 {a : Nat} (h : a < 4294967296) : IntKind.wrap .u32 (a : Int) = (a : Int) := by rw [wr_u32]; omega
theorem wu32m (a : Nat) : IntKind.wrap .u32 (a : Int) = ((a % 4294967296 : Nat) : Int) := by rw [wr_u32]; rfl
theorem wu8m (a : Nat) : IntKind.wrap .u8 (a : Int) = ((a % 256 : Nat) : Int) := by rw [wr_u8]; rfl
theorem u32_lt (x : UInt32) : x.toNat < 4294967296 := UInt32.toNat_lt x
theorem u8_lt (x : UInt8) : x.toNat < 256 := UInt8.toNat_lt x

/-- A number's bytes, the greatest first. -/
def be4 (n : Nat) : List UInt8 := [UInt8.ofNat (n / 16777216), UInt8.ofNat (n / 65536), UInt8.ofNat (n / 256), UInt8.ofNat n]
def be2 (n : Nat) : List UInt8 := [UInt8.ofNat (n / 256), UInt8.ofNat n]
theorem be4_length (n : Nat) : (be4 n).length = 4 := rfl
theorem be2_length (n : Nat) : (be2 n).length = 2 := rfl

end Go.Sh
