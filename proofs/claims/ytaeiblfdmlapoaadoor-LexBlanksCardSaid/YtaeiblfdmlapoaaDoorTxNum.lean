/-
  Numbers' texts, prefixes' texts.
-/
import Derived.Test.YtaeiblfdmlapoaaDoorTxIp
set_option linter.unusedSectionVars false
set_option linter.unusedSimpArgs false
set_option linter.unusedVariables false
namespace Go.Proofs.YtaeiblfdmlapoaaDoor
open Go.Sh

/-- Is a text a number from 0 to m? -/
def isNum (m : Nat) (w : List UInt8) : Bool := decide (val w ≤ m) && (Lib.decDigits (val w) == w)
theorem isNum_iff {m : Nat} {w : List UInt8} : isNum m w = true ↔ val w ≤ m ∧ Lib.decDigits (val w) = w := by simp [isNum]
theorem isNum_canon {m : Nat} {w : List UInt8} : isNum m w = true ↔ val w ≤ m ∧ canon w := by rw [isNum_iff, canon_iff]
theorem isNum_oct (w : List UInt8) : isNum 255 w = isOct w := rfl
theorem isNum_no {m : Nat} {w : List UInt8} {c : UInt8} (h : isNum m w = true) (hc : c.toNat < 48 ∨ 57 < c.toNat) : c ∉ w := fun hm => by
  have := (isNum_canon.1 h).2.2.1 c hm
  omega
theorem itoa_num {v : Int} {s : List UInt8} (h0 : 0 ≤ v) (h : Lib.itoa v = s) : v = (val s : Nat) ∧ Lib.decDigits (val s) = s := by
  obtain ⟨n, rfl⟩ := Int.eq_ofNat_of_zero_le h0
  rw [itoa_nat] at h
  have hv : val s = n := by rw [← h, val_dec]
  exact ⟨by omega, by rw [hv]; exact h⟩
theorem atoi_num {m : Nat} {s : List UInt8} (hm : m < 9223372036854775808) (h : isNum m s = true) : Lib.atoiAll s = .ok (val s : Int) := by
  obtain ⟨h3, h4⟩ := isNum_iff.1 h
  have := atoi_dec (u := val s) (by omega)
  rwa [h4] at this

theorem number_c (s : List UInt8) (m : Nat) (K : Int → Prop) (hm : m < 9223372036854775808) (hl : s.length ≤ 281474976710656) (h1 : isNum m s = true → K (val s)) (h2 : isNum m s = false → ∀ v : Int, (v < 0 ∨ v > m) → K v) : upd_number_q s K := by
  have hN : ∀ v : Int, Lib.atoiAll s = .ok v → v ≠ (val s : Int) → isNum m s = false := fun v hv hne => by
    cases ho : isNum m s with
    | false => rfl
    | true => rw [atoi_num hm ho] at hv; injection hv with hv; exact absurd hv.symm hne
  have hno : (∀ v, Lib.atoiAll s ≠ .ok v) → upd_number_j0 0 true K := fun h => ifT rfl (h2 (by
    cases ho : isNum m s with
    | false => rfl
    | true => exact absurd (atoi_num hm ho) (h _)) _ (.inl (by decide)))
  unfold upd_number_q
  intro _
  unfold strconv_Atoi_q
  refine ⟨hl, fun _ => ?_⟩
  cases ha : Lib.atoiAll s with
  | ok v =>
    simp only [atoiR, ha]
    refine ifF rfl fun _ => ?_
    unfold strconv_Itoa_q
    intro _
    unfold upd_number_j0
    refine IfB.intro (fun h => ?_) (fun h => ?_)
    · refine h2 ?_ _ (.inl (by decide))
      cases ho : isNum m s with
      | false => rfl
      | true =>
        rw [atoi_num hm ho] at ha
        injection ha with ha
        subst ha
        rw [itoa_nat, (isNum_iff.1 ho).2] at h
        simp at h
    · have hs : Lib.itoa v = s := by simpa using h
      by_cases h0 : 0 ≤ v
      · obtain ⟨h3, h4⟩ := itoa_num h0 hs
        by_cases h5 : val s ≤ m
        · have := h1 (isNum_iff.2 ⟨h5, h4⟩)
          rwa [← h3] at this
        · refine h2 ?_ v (.inr (by omega))
          cases ho : isNum m s with
          | false => rfl
          | true => exact absurd (isNum_iff.1 ho).1 h5
      · exact h2 (hN v ha (by omega)) v (.inl (by omega))
  | range =>
    simp only [atoiR, ha]
    exact ifT rfl (hno fun v e => by rw [ha] at e; cases e)
  | _ =>
    simp only [atoiR, ha]
    exact ifT rfl (hno fun v e => by rw [ha] at e; cases e)

theorem mem_cut {c : UInt8} {s : List UInt8} (h : c ∈ s) : ∃ pre rest, s = pre ++ c :: rest ∧ c ∉ pre := by
  induction s with
  | nil => simp at h
  | cons x s ih =>
    by_cases e : x = c
    · subst e; exact ⟨[], s, rfl, by simp⟩
    · have hm : c ∈ s := by
        rcases List.mem_cons.1 h with h | h
        · exact absurd h.symm e
        · exact h
      obtain ⟨pre, rest, rfl, hp⟩ := ih hm
      exact ⟨x :: pre, rest, rfl, by simp only [List.mem_cons, not_or]; exact ⟨fun h => e h.symm, hp⟩⟩
theorem index_none {c : UInt8} : ∀ {s : List UInt8}, c ∉ s → Lib.index s [c] = -1
  | [], _ => rfl
  | x :: s, h => by
    simp only [List.mem_cons, not_or] at h
    have hp : ([c] : List UInt8).isPrefixOf (x :: s) = false := by simp [List.isPrefixOf, h.1]
    rw [Lib.index, hp, if_neg (by decide), index_none h.2]; rfl
theorem cut_free {c : UInt8} {s : List UInt8} (h : c ∉ s) : Lib.cut s [c] = (s, [], false) := by
  unfold Lib.cut; rw [index_none h, if_neg (by decide)]
theorem cut_at {c : UInt8} {pre rest : List UInt8} (h : c ∉ pre) : Lib.cut (pre ++ c :: rest) [c] = (pre, rest, true) := by
  unfold Lib.cut
  rw [index_at h, if_pos (by omega)]
  simp
theorem contains_mem {c : UInt8} (s : List UInt8) : Lib.contains s [c] = decide (c ∈ s) := by
  unfold Lib.contains
  by_cases h : c ∈ s
  · obtain ⟨pre, rest, rfl, hp⟩ := mem_cut h
    rw [index_at hp, decide_eq_true h]; simp
  · rw [index_none h, decide_eq_false h]; rfl

/-! ### The first bits of an address -/
theorem notBits (n a : Nat) (ha : a < 2 ^ n) (k : Nat) (hk : k ≤ n) : a &&& (2 ^ n - 1 - (2 ^ k - 1)) = a - a % 2 ^ k := by
  have hpk : 2 ^ k ≤ 2 ^ n := Nat.pow_le_pow_right (by decide) hk
  have h0 : 0 < 2 ^ k := Nat.two_pow_pos k
  apply Nat.eq_of_testBit_eq
  intro i
  rw [Nat.testBit_and, show 2 ^ n - 1 - (2 ^ k - 1) = 2 ^ n - ((2 ^ k - 1) + 1) by omega, Nat.testBit_two_pow_sub_succ (by omega), Nat.testBit_two_pow_sub_one]
  have e : a - a % 2 ^ k = 2 ^ k * (a / 2 ^ k) := by have := Nat.div_add_mod a (2 ^ k); omega
  rw [e, Nat.testBit_two_pow_mul]
  by_cases hi : i < k
  · simp [hi]; intro _; omega
  · rw [Nat.testBit_div_two_pow, show i - k + k = i by omega]
    by_cases hn : i < n
    · simp [hi, hn]; omega
    · have : a.testBit i = false := Nat.testBit_lt_two_pow (Nat.lt_of_lt_of_le ha (Nat.pow_le_pow_right (by decide) (by omega)))
      simp [this]
theorem andNot_low (a : Nat) (ha : a < 4294967296) (k : Nat) (hk : k ≤ 32) : bitsAndNot .u32 (a : Int) ((2 ^ k - 1 : Nat) : Int) = ((a - a % 2 ^ k : Nat) : Int) := by
  have hp : 2 ^ k ≤ 2 ^ 32 := Nat.pow_le_pow_right (by decide) hk
  have h0 : 0 < 2 ^ k := Nat.two_pow_pos k
  have e32 : (2 : Nat) ^ 32 = 4294967296 := rfl
  unfold bitsAndNot
  have hb : IntKind.bits .u32 = 32 := rfl
  rw [hb, bv_nat 32 a (by omega), bv_nat 32 (2 ^ k - 1) (by omega), BitVec.toNat_and, BitVec.toNat_not, BitVec.toNat_ofNat, BitVec.toNat_ofNat, Nat.mod_eq_of_lt (by omega), Nat.mod_eq_of_lt (by omega)]
  rw [notBits 32 a (by omega) k hk, wu32 (by omega)]
def hostBits (n : Nat) : Nat := 2 ^ (32 - n)
theorem wu64n (a : Nat) (h : a < 18446744073709551616) : IntKind.wrap .u64 (a : Int) = (a : Int) := by rw [wr_u64]; omega
theorem mask_c (a n : Nat) (K : Int → Prop) (ha : a < 4294967296) (hn : n ≤ 32) (hk : K ((a - a % hostBits n : Nat) : Int)) : upd_mask_q a n K := by
  unfold upd_mask_q
  have e1 : IntKind.wrap .i64 (32 - (n : Int)) = ((32 - n : Nat) : Int) := by rw [wr_i64 (by omega) (by omega)]; omega
  rw [e1]
  refine ⟨by omega, ?_⟩
  have hp : 2 ^ (32 - n) ≤ 2 ^ 32 := Nat.pow_le_pow_right (by decide) (by omega)
  have h0 : 0 < 2 ^ (32 - n) := Nat.two_pow_pos _
  have e32 : (2 : Nat) ^ 32 = 4294967296 := rfl
  have e2 : (min ((32 - n : Nat) : Int).toNat (IntKind.bits .u64)) = 32 - n := by
    rw [Int.toNat_natCast]
    have : IntKind.bits .u64 = 64 := rfl
    rw [this]; omega
  have e3 : (1 * (2 ^ (32 - n)) : Int) = ((2 ^ (32 - n) : Nat) : Int) := by rw [Int.one_mul]; norm_cast
  rw [e2, e3, wu64n _ (by omega), show (((2 ^ (32 - n) : Nat) : Int) - 1) = ((2 ^ (32 - n) - 1 : Nat) : Int) by omega, wu64n _ (by omega), wu32 (by omega), andNot_low a ha _ (by omega)]
  exact hk
def right (a : Nat) (n : Int) : Bool := decide (0 ≤ n) && (decide (n ≤ 32) && (a % hostBits n.toNat == 0))
theorem right_iff {a : Nat} {n : Int} : right a n = true ↔ 0 ≤ n ∧ n ≤ 32 ∧ a % hostBits n.toNat = 0 := by simp [right]
theorem right_c (a : UInt32) (n : Int) (K : Bool → Prop) (hk : K (right a.toNat n)) : upd_Right_q (a, n) K := by
  unfold upd_Right_q
  have ha := u32_lt a
  refine IfB.intro (fun h => IfB.intro (fun h2 => ?_) (fun h2 => of_eq hk ?_)) (fun h => of_eq hk ?_)
  · have h0 : 0 ≤ n := by simpa using h
    have h1 : n ≤ 32 := by simpa using h2
    obtain ⟨m, rfl⟩ := Int.eq_ofNat_of_zero_le h0
    intro _
    refine mask_c a.toNat m _ ha (by omega) fun _ => of_eq hk ?_
    have hle : a.toNat % hostBits m ≤ a.toNat := Nat.mod_le _ _
    unfold right
    rw [decide_eq_true h0, decide_eq_true h1, Bool.true_and, Bool.true_and, Int.toNat_natCast]
    by_cases e : a.toNat % hostBits m = 0
    · rw [e]; simp
    · have e1 : (a.toNat % hostBits m == 0) = false := beq_eq_false_iff_ne.2 e
      have e2 : (((a.toNat - a.toNat % hostBits m : Nat) : Int) == (a.toNat : Int)) = false := beq_eq_false_iff_ne.2 (by omega)
      rw [e1, e2]
  · unfold right; simp at h2; rw [decide_eq_false (show ¬ n ≤ 32 by omega)]; simp
  · unfold right; simp at h; rw [decide_eq_false (show ¬ 0 ≤ n by omega)]; simp
theorem size_c (n : Int) (K : Int → Prop) (hn : n ≤ 32) (hk : K (hostBits n.toNat : Nat)) : ref21_size_q n K := by
  unfold ref21_size_q
  refine LoopJ.up (32 - n.toNat) (fun i => (((2 ^ i : Nat) : Int), ((n.toNat + i : Nat) : Int), ())) (fun _ => True) (by simp) trivial (fun i hi _ next hx => ?_) (fun _ next => ?_)
  · intro _
    dsimp only [ref21_size_l3]
    have hp : 2 ^ (i + 1) ≤ 2 ^ 32 := Nat.pow_le_pow_right (by decide) (by omega)
    have e32 : (2 : Nat) ^ 32 = 4294967296 := rfl
    refine ifT (decide_eq_true (by omega)) (of_eq (hx trivial) ?_)
    rw [show (2 * ((2 ^ i : Nat) : Int)) = ((2 ^ (i + 1) : Nat) : Int) by rw [Nat.pow_succ]; omega, wu64n _ (by omega), show (((n.toNat + i : Nat) : Int) + 1) = ((n.toNat + (i + 1) : Nat) : Int) by omega, wi64n _ (by omega)]
  · intro _
    dsimp only [ref21_size_l3]
    exact ifF (decide_eq_false (by omega)) hk
theorem ref_right_c (a : UInt32) (n : Int) (K : Bool → Prop) (hk : K (right a.toNat n)) : ref21_Right_q (a, n) K := by
  unfold ref21_Right_q
  have ha := u32_lt a
  refine IfB.intro (fun h => IfB.intro (fun h2 => ?_) (fun h2 => of_eq hk ?_)) (fun h => of_eq hk ?_)
  · have h0 : 0 ≤ n := by simpa using h
    have h1 : n ≤ 32 := by simpa using h2
    intro _
    refine size_c n _ h1 fun _ => ?_
    have hp : 0 < hostBits n.toNat := Nat.two_pow_pos _
    refine ⟨by omega, of_eq hk ?_⟩
    unfold right
    rw [decide_eq_true h0, decide_eq_true h1, Bool.true_and, Bool.true_and]
    show _ = ((Int.tmod (IntKind.wrap .u64 (a.toNat : Int)) ((hostBits n.toNat : Nat) : Int)) == 0)
    rw [wu64n _ (by omega), show Int.tmod (a.toNat : Int) ((hostBits n.toNat : Nat) : Int) = ((a.toNat % hostBits n.toNat : Nat) : Int) from rfl]
    by_cases e : a.toNat % hostBits n.toNat = 0
    · rw [e]; rfl
    · have e1 : (a.toNat % hostBits n.toNat == 0) = false := beq_eq_false_iff_ne.2 e
      have e2 : (((a.toNat % hostBits n.toNat : Nat) : Int) == 0) = false := beq_eq_false_iff_ne.2 (by omega)
      rw [e1, e2]
  · unfold right; simp at h2; rw [decide_eq_false (show ¬ n ≤ 32 by omega)]; simp
  · unfold right; simp at h; rw [decide_eq_false (show ¬ 0 ≤ n by omega)]; simp

/-! ### Prefixes' texts -/
def pfx (s : List UInt8) : Option (Nat × Nat) := match spl 47 s with
  | [a, b] => if (prs a).2 = 0 ∧ isNum 32 b = true ∧ right (prs a).1 (val b) = true then some ((prs a).1, val b) else none
  | _ => none
theorem prs_two {s : List UInt8} (h : (prs s).2 = 0) : (spl 46 s).length = 4 ∧ (spl 46 s).all isOct = true ∧ (prs s).1 = pv (spl 46 s) := by
  unfold prs at h ⊢
  split at h
  · rename_i h2
    rw [if_pos h2]
    exact ⟨h2.1, h2.2, rfl⟩
  · cases h
theorem pv_lt : ∀ (l : List (List UInt8)) (a : Nat), l.all isOct = true → l.foldl (fun a w => a * 256 + val w) a < (a + 1) * 256 ^ l.length
  | [], a, _ => by simp
  | w :: l, a, h => by
    simp only [List.all_cons, Bool.and_eq_true] at h
    have ih := pv_lt l (a * 256 + val w) h.2
    have hw := (isOct_iff.1 h.1).1
    simp only [List.foldl_cons, List.length_cons, Nat.pow_succ]
    have h3 : (a * 256 + val w + 1) * 256 ^ l.length ≤ ((a + 1) * 256) * 256 ^ l.length := Nat.mul_le_mul_right _ (by omega)
    have h4 : (a + 1) * 256 * 256 ^ l.length = (a + 1) * (256 ^ l.length * 256) := by rw [Nat.mul_assoc, Nat.mul_comm 256]
    omega
theorem prs_lt (s : List UInt8) : (prs s).1 < 4294967296 := by
  unfold prs
  split
  · rename_i h
    have := pv_lt (spl 46 s) 0 h.2
    rw [h.1] at this
    exact this
  · decide
theorem prs_len {s : List UInt8} (h : (prs s).2 = 0) : s.length ≤ 15 := by
  rcases Nat.lt_or_ge 15 s.length with h1 | h1
  · rw [prs_long h1] at h; cases h
  · exact h1
theorem isNum_len {m k : Nat} {w : List UInt8} (h : isNum m w = true) (hm : m < 10 ^ (k + 1)) : w.length ≤ k + 1 := by
  obtain ⟨h1, h2⟩ := isNum_iff.1 h
  have := dec_len (u := val w) (k := k) (by omega)
  rw [h2] at this; exact this
theorem pfx_some {s : List UInt8} {a n : Nat} (h : pfx s = some (a, n)) : ∃ p q, spl 47 s = [p, q] ∧ (prs p).2 = 0 ∧ isNum 32 q = true ∧ right (prs p).1 (val q) = true ∧ a = (prs p).1 ∧ n = val q := by
  unfold pfx at h
  split at h
  · rename_i p q hs
    split at h
    · rename_i hc
      simp only [Option.some.injEq, Prod.mk.injEq] at h
      exact ⟨p, q, hs, hc.1, hc.2.1, hc.2.2, h.1.symm, h.2.symm⟩
    · cases h
  · cases h
theorem pfx_len {s : List UInt8} {r : Nat × Nat} (h : pfx s = some r) : s.length ≤ 18 := by
  obtain ⟨a, n⟩ := r
  obtain ⟨p, q, hs, h1, h2, _⟩ := pfx_some h
  have hj := join_spl 47 s
  rw [hs] at hj
  have h3 := prs_len h1
  have h4 := isNum_len (k := 1) h2 (by decide)
  have := congrArg List.length hj
  simp only [Lib.join, List.intercalate, List.intersperse, List.flatten_cons, List.flatten_nil, List.length_append, List.length_cons, List.length_nil] at this
  omega
theorem ref_pfx_c (s : List UInt8) (K : UInt32 × Int → Int → Prop) (hl : s.length ≤ 1000000) (h1 : ∀ a n, pfx s = some (a, n) → K (UInt32.ofNat a, (n : Int)) 0) (h2 : pfx s = none → K (0, 0) 5) : ref21_Parse_q s K := by
  unfold ref21_Parse_q
  refine IfB.intro (fun h => h2 ?_) (fun h => ?_)
  · cases hp : pfx s with
    | none => rfl
    | some r => have := pfx_len hp; simp at h; omega
  have hl18 : s.length ≤ 18 := by simp at h; omega
  intro _
  refine split_c s 47 _ (by omega) fun _ => ?_
  have hpl := fun w (h : w ∈ spl 47 s) => spl_part h
  unfold pfx at h1 h2
  generalize spl 47 s = l at *
  refine IfB.intro (fun h => h2 ?_) (fun h => ?_)
  · split
    · simp at h
    · rfl
  have h2l : l.length = 2 := by simp at h; omega
  match l, h2l with
  | [p, q], _ =>
    have hp := hpl p (by simp)
    have hq := hpl q (by simp)
    dsimp only at h1 h2
    refine ⟨by decide, by simp, AtN.of rfl fun _ _ => ref_parse_c p _ (by omega) fun _ => ⟨by decide, by simp, AtN.of rfl fun _ _ => ?_⟩⟩
    have hno : ¬ ((prs p).2 = 0 ∧ isNum 32 q = true ∧ right (prs p).1 (val q) = true) → ∀ x y, ref21_Parse_j0 x y true K := fun hn x y => ifT rfl (h2 (if_neg hn))
    refine whole_c q 2 _ (by decide) (fun hc hq2 _ => ?_) (fun hc _ => ?_)
    · refine IfB.intro (fun h => hno (fun hn => ?_) _ _) (fun h => ifF rfl fun _ => ?_)
      · rw [hn.1] at h; simp at h
      have h0 : (prs p).2 = 0 := by simpa using h
      have hlt := prs_lt p
      have eU : ofI .u32 ((prs p).1 : Int) = UInt32.ofNat (prs p).1 := rfl
      have eN : (UInt32.ofNat (prs p).1).toNat = (prs p).1 := by simp; omega
      refine ref_right_c _ _ _ fun _ => ?_
      rw [eU, eN]
      unfold ref21_Parse_j0
      refine IfB.intro (fun h4 => h2 (if_neg fun hn => ?_)) (fun h4 => ?_)
      · rw [hn.2.2] at h4; cases h4
      · have hr : right (prs p).1 (val q) = true := by simpa using h4
        have h5 := (right_iff.1 hr).2.1
        exact h1 _ _ (if_pos ⟨h0, isNum_canon.2 ⟨by omega, hc⟩, hr⟩)
    · refine IfB.intro (fun h => hno (fun hn => ?_) _ _) (fun h => ifT rfl (hno (fun hn => ?_) _ _))
      · rw [hn.1] at h; simp at h
      · have h3 := isNum_canon.1 hn.2.1
        exact hc ⟨h3.2, isNum_len (k := 1) hn.2.1 (by decide)⟩

theorem pfx_c (s : List UInt8) (K : UInt32 × Int → Int → Prop) (hl : s.length ≤ 1000000) (h1 : ∀ a n, pfx s = some (a, n) → K (UInt32.ofNat a, (n : Int)) 0) (h2 : pfx s = none → K (0, 0) 5) : upd_Parse_q s K := by
  unfold upd_Parse_q
  intro _
  unfold strings_Cut_q
  refine ⟨by omega, ?_⟩
  have step : ∀ (p q : List UInt8) (b : Bool), p.length ≤ 1000000 → q.length ≤ 1000000 → (b = true → 47 ∉ q → pfx s = if (prs p).2 = 0 ∧ isNum 32 q = true ∧ right (prs p).1 (val q) = true then some ((prs p).1, val q) else none) → (b = false ∨ 47 ∈ q → pfx s = none) →
      (WfPs strings_Split_ps (p, ([46] : List UInt8), ()) → strings_Split_q p ([46] : List UInt8) (fun x19 => WfPs strings_Split_rs (x19, ()) → (WfPs upd_number_ps (q, ()) → upd_number_q q (fun x21 => WfPs upd_number_rs (x21, ()) → IfB (!b) (upd_Parse_j0 x21 x19 true K) (upd_Parse_j0 x21 x19 (((x19.length : Int) : Int) != 4) K))))) := by
    intro p q b hp hq hb hn _
    unfold strings_Split_q
    refine ⟨by omega, by decide, ?_⟩
    rw [libSplit_spl]
    intro _ _
    have hpr : prs p = if (spl 46 p).length = 4 ∧ (spl 46 p).all isOct = true then (pv (spl 46 p), 0) else (0, 2) := rfl
    have hpl := fun w (h : w ∈ spl 46 p) => spl_part h
    generalize spl 46 p = l at *
    have key : ∀ v : Int, (isNum 32 q = true ∧ v = (val q : Int)) ∨ (isNum 32 q = false ∧ (v < 0 ∨ v > 32)) → IfB (!b) (upd_Parse_j0 v l true K) (upd_Parse_j0 v l (((l.length : Int) : Int) != 4) K) := by
      intro v hv
      have bad : (b = true → 47 ∉ q → ¬ ((prs p).2 = 0 ∧ isNum 32 q = true ∧ right (prs p).1 (val q) = true)) → K (0, 0) 5 := fun h => h2 (by
        by_cases hbq : b = true ∧ 47 ∉ q
        · rw [hb hbq.1 hbq.2, if_neg (h hbq.1 hbq.2)]
        · refine hn ?_
          rcases Bool.eq_false_or_eq_true b with e | e
          · exact .inr (Classical.byContradiction fun hh => hbq ⟨e, hh⟩)
          · exact .inl e)
      refine IfB.intro (fun h => ifT rfl (bad fun hbt => by rw [hbt] at h; cases h)) (fun h => ?_)
      have hbt : b = true := by simpa using h
      unfold upd_Parse_j0
      refine IfB.intro (fun h4 => bad fun _ _ hc => ?_) (fun h4 => ?_)
      · rw [hpr, if_neg (by intro hx; rw [hx.1] at h4; simp at h4)] at hc
        exact absurd hc.1 (by decide)
      have h4l : l.length = 4 := by simp at h4; omega
      refine LoopJ.over l (fun pre => ((pre.length : Int), (pv pre : Int), v, ())) (fun pre => pre.all isOct = true ∧ pv pre < 256 ^ pre.length) rfl ⟨rfl, by decide⟩ (fun pre w post hpp hnn hP next hx => ?_) (fun hP next => ?_)
      · intro _
        dsimp only [upd_Parse_l7]
        have hno : isOct w = false → K (0, 0) 5 := fun ho => bad fun _ _ hc => by
          rw [hpr, if_neg (fun h5 => by have := List.all_eq_true.1 h5.2 w (by rw [hpp]; simp); rw [ho] at this; cases this)] at hc
          exact absurd hc.1 (by decide)
        refine ifT (decide_eq_true (by omega)) ⟨by omega, by omega, AtN.of (at_pre hpp) fun _ _ => ?_⟩
        refine number_c w 255 _ (by decide) (by have := hpl w (by rw [hpp]; simp); omega) (fun ho _ => ?_) (fun ho x hx0 _ => ?_)
        · obtain ⟨h5, h6⟩ := isOct_iff.1 ho
          have hb2 : pv pre < 16777216 := by
            have h7 : pre.length ≤ 3 := by omega
            have : 256 ^ pre.length ≤ 256 ^ 3 := Nat.pow_le_pow_right (by decide) h7
            omega
          refine ifF (decide_eq_false (by omega)) (ifF (decide_eq_false (by omega)) ⟨by decide, of_eq (hx ⟨by rw [List.all_append, hP.1]; simp [show isOct w = true from ho], ?_⟩) ?_⟩)
          · rw [pv_snoc, List.length_append, List.length_singleton, Nat.pow_succ]
            have := hP.2
            omega
          · rw [pv_snoc, show ((pv pre : Nat) : Int) * 256 = ((pv pre * 256 : Nat) : Int) by omega, wu32 (by omega), wu32 (by omega), or_nat .u32 _ _ (lt_u32 (by omega)) (lt_u32 (by omega)), or_256 _ _ (by omega), wu32 (by omega), wr_i64 (by omega) (by omega)]
            simp
        · have ho' : isOct w = false := ho
          unfold upd_Parse_j1 upd_Parse_j2
          refine IfB.intro (fun _ => ifT rfl (hno ho')) (fun h5 => ifT ?_ (hno ho'))
          simp at h5; simp; omega
      · intro _
        dsimp only [upd_Parse_l7]
        have hlt : pv l < 4294967296 := by have := hP.2; rw [h4l] at this; exact this
        have eU : ofI .u32 ((pv l : Nat) : Int) = UInt32.ofNat (pv l) := rfl
        have eN : (UInt32.ofNat (pv l)).toNat = pv l := by simp; omega
        have hpr2 : prs p = (pv l, 0) := by rw [hpr, if_pos ⟨h4l, hP.1⟩]
        refine ifF (decide_eq_false (by omega)) fun _ => right_c _ _ _ fun _ => ?_
        rw [eU, eN]
        unfold upd_Parse_j2
        refine IfB.intro (fun hr => ?_) (fun hr => bad fun _ _ hc => ?_)
        · rcases hv with ⟨h6, rfl⟩ | ⟨_, h6⟩
          · have hq47 : 47 ∉ q := isNum_no h6 (.inl (by decide))
            refine h1 _ _ ?_
            rw [hb hbt hq47, hpr2, if_pos ⟨rfl, h6, hr⟩]
          · have := right_iff.1 hr
            omega
        · rw [hpr2] at hc
          rcases hv with ⟨h6, rfl⟩ | ⟨h6, _⟩
          · rw [hc.2.2] at hr; cases hr
          · rw [h6] at hc; exact absurd hc.2.1 (by decide)
    refine number_c q 32 _ (by decide) (by omega) (fun h _ => key _ (.inl ⟨h, rfl⟩)) (fun h v hv _ => key v (.inr ⟨h, hv⟩))
  by_cases hm : 47 ∈ s
  · obtain ⟨p, q, rfl, hp⟩ := mem_cut hm
    rw [cut_at hp]
    intro _
    simp only [List.length_append, List.length_cons] at hl
    refine step p q true (by omega) (by omega) (fun _ hq => ?_) (fun h => ?_)
    · unfold pfx; rw [spl_cut hp, spl_free hq]
    · rcases h with h | h
      · cases h
      · obtain ⟨u, v, rfl, hu⟩ := mem_cut h
        unfold pfx
        rw [spl_cut hp, spl_cut hu]
        have : spl 47 v ≠ [] := by unfold spl; simp
        cases hv : spl 47 v with
        | nil => exact absurd hv this
        | cons => rfl
  · rw [cut_free hm]
    intro _
    refine step s [] false hl (by simp) (fun h => by cases h) (fun _ => ?_)
    unfold pfx; rw [spl_free hm]

end Go.Proofs.YtaeiblfdmlapoaaDoor
