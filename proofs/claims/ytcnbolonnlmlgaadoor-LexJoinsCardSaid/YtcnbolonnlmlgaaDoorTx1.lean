/-
  Texts: parts between a byte; decimal numbers. In plain Lean.
-/
import Derived.Test.YtcnbolonnlmlgaaDoorHm2
import Derived.Lib.ItoaNum
import Derived.Lib.AtoiAll
import Derived.Lib.SplitLaws
import Derived.Lib.Join
set_option linter.unusedSectionVars false
set_option linter.unusedSimpArgs false
set_option linter.unusedVariables false
namespace Go.Sh

/-! ### Parts between a byte -/
def splF (c : UInt8) (st : List (List UInt8) × List UInt8) (x : UInt8) : List (List UInt8) × List UInt8 := if x = c then (st.1 ++ [st.2], []) else (st.1, st.2 ++ [x])
def splG (c : UInt8) (st : List (List UInt8) × List UInt8) (s : List UInt8) : List (List UInt8) × List UInt8 := s.foldl (splF c) st
/-- The parts. -/
def spl (c : UInt8) (s : List UInt8) : List (List UInt8) := (splG c ([], []) s).1 ++ [(splG c ([], []) s).2]
theorem splG_snoc (c : UInt8) (st : List (List UInt8) × List UInt8) (s : List UInt8) (x : UInt8) : splG c st (s ++ [x]) = splF c (splG c st s) x := by simp [splG]
theorem splG_app (c : UInt8) (st : List (List UInt8) × List UInt8) (s t : List UInt8) : splG c st (s ++ t) = splG c (splG c st s) t := by simp [splG]
theorem splG_free (c : UInt8) : ∀ (s : List UInt8) (st : List (List UInt8) × List UInt8), c ∉ s → splG c st s = (st.1, st.2 ++ s) := by
  intro s
  induction s with
  | nil => intro st _; simp [splG]
  | cons x s ih =>
    intro st h
    simp only [List.mem_cons, not_or] at h
    have : splG c st (x :: s) = splG c (splF c st x) s := rfl
    rw [this, ih _ h.2, splF, if_neg (fun e => h.1 e.symm)]
    simp
theorem splG_out (c : UInt8) : ∀ (s : List UInt8) (out : List (List UInt8)) (cur : List UInt8), splG c (out, cur) s = (out ++ (splG c ([], cur) s).1, (splG c ([], cur) s).2) := by
  intro s
  induction s with
  | nil => intro out cur; simp [splG]
  | cons x s ih =>
    intro out cur
    have e1 : splG c (out, cur) (x :: s) = splG c (splF c (out, cur) x) s := rfl
    have e2 : splG c ([], cur) (x :: s) = splG c (splF c ([], cur) x) s := rfl
    rw [e1, e2]
    unfold splF
    split
    · rw [ih (out ++ [cur]) [], ih ([] ++ [cur]) []]; simp
    · rw [ih out (cur ++ [x])]
theorem spl_free {c : UInt8} {s : List UInt8} (h : c ∉ s) : spl c s = [s] := by
  unfold spl; rw [splG_free c s _ h]; simp
theorem spl_cut {c : UInt8} {pre rest : List UInt8} (h : c ∉ pre) : spl c (pre ++ c :: rest) = pre :: spl c rest := by
  unfold spl
  rw [splG_app, splG_free c pre _ h]
  have : splG c (([] : List (List UInt8)), [] ++ pre) (c :: rest) = splG c (splF c ([], [] ++ pre) c) rest := rfl
  rw [this, splF, if_pos rfl, splG_out]
  simp
theorem index_at {c : UInt8} : ∀ {pre rest : List UInt8}, c ∉ pre → Lib.index (pre ++ c :: rest) [c] = pre.length := by
  intro pre
  induction pre with
  | nil => intro rest _; simp [Lib.index, List.isPrefixOf]
  | cons x pre ih =>
    intro rest h
    simp only [List.mem_cons, not_or] at h
    rw [List.cons_append, Lib.index, ih h.2]
    have hp : ([c] : List UInt8).isPrefixOf (x :: (pre ++ c :: rest)) = false := by simp [List.isPrefixOf, h.1]
    rw [hp, if_neg (by decide), if_neg (by simp <;> omega)]
    simp
/-- The library's parts. -/
theorem split_spl (c : UInt8) : ∀ (k : Nat) (s : List UInt8), s.count c = k → Lib.splitK [c] 0 k s = spl c s := by
  intro k
  induction k with
  | zero =>
    intro s h
    rw [spl_free (List.count_eq_zero.1 h)]; rfl
  | succ k ih =>
    intro s h
    have hm : c ∈ s := List.count_pos_iff.1 (by omega)
    obtain ⟨pre, rest, rfl, hp⟩ := List.eq_append_cons_of_mem hm
    have hc0 : pre.count c = 0 := List.count_eq_zero.2 hp
    rw [List.count_append, List.count_cons_self, hc0] at h
    rw [spl_cut hp, Lib.splitK, index_at hp, if_neg (by simp <;> omega)]
    rw [show (((pre.length : Nat) : Int)).toNat = pre.length by simp]
    have e1 : (pre ++ c :: rest).take (pre.length + 0) = pre := by simp
    have e2 : (pre ++ c :: rest).drop (pre.length + ([c] : List UInt8).length) = rest := by
      rw [List.drop_append]; simp
    rw [e1, e2, ih rest (by omega)]
theorem libSplit_spl (c : UInt8) (s : List UInt8) : Lib.split s [c] = spl c s := by
  unfold Lib.split
  rw [Lib.count_one]
  exact split_spl c _ s rfl
theorem join_snoc (c : UInt8) (x : UInt8) (cur : List UInt8) : ∀ out : List (List UInt8), Lib.join (out ++ [cur ++ [x]]) [c] = Lib.join (out ++ [cur]) [c] ++ [x] := by
  intro out
  induction out with
  | nil => simp [Lib.join, List.intercalate]
  | cons a out ih =>
    cases out with
    | nil => simp [Lib.join, List.intercalate, List.intersperse]
    | cons b out => simpa [Lib.join, List.intercalate, List.intersperse] using ih
theorem join_open (c : UInt8) (cur : List UInt8) : ∀ out : List (List UInt8), Lib.join ((out ++ [cur]) ++ [[]]) [c] = Lib.join (out ++ [cur]) [c] ++ [c] := by
  intro out
  induction out with
  | nil => simp [Lib.join, List.intercalate, List.intersperse]
  | cons a out ih =>
    cases out with
    | nil => simp [Lib.join, List.intercalate, List.intersperse]
    | cons b out => simpa [Lib.join, List.intercalate, List.intersperse] using ih
/-- The parts, joined. -/
theorem join_splG (c : UInt8) : ∀ (s : List UInt8) (st : List (List UInt8) × List UInt8), Lib.join ((splG c st s).1 ++ [(splG c st s).2]) [c] = Lib.join (st.1 ++ [st.2]) [c] ++ s := by
  intro s
  induction s with
  | nil => intro st; simp [splG]
  | cons x s ih =>
    intro st
    have e1 : splG c st (x :: s) = splG c (splF c st x) s := rfl
    rw [e1, ih]
    unfold splF
    split
    · rename_i h; subst h
      rw [join_open]; simp
    · rw [join_snoc]; simp
theorem join_spl (c : UInt8) (s : List UInt8) : Lib.join (spl c s) [c] = s := by
  have := join_splG c s ([], [])
  simpa [spl, Lib.join, List.intercalate] using this

/-! ### Decimal numbers -/
theorem itoa_nat (n : Nat) : Lib.itoa (n : Int) = Lib.decDigits n := by
  unfold Lib.itoa; rw [if_neg (by omega), Int.toNat_natCast]
theorem dec_lt {u : Nat} (h : u < 10) : Lib.decDigits u = [UInt8.ofNat (48 + u)] := by rw [Lib.decDigits, dif_pos h]
theorem dec_ge {u : Nat} (h : ¬ u < 10) : Lib.decDigits u = Lib.decDigits (u / 10) ++ [UInt8.ofNat (48 + u % 10)] := by rw [Lib.decDigits, dif_neg h]
/-- Digits have no other sign. -/
theorem dec_digit : ∀ (u : Nat), ∀ x ∈ Lib.decDigits u, 48 ≤ x.toNat ∧ x.toNat ≤ 57 := by
  intro u
  induction u using Nat.strongRecOn with
  | _ u ih =>
    intro x hx
    have h8 : ∀ n, n < 10 → (UInt8.ofNat (48 + n)).toNat = 48 + n := fun n hn => by rw [UInt8.toNat_ofNat']; omega
    by_cases h : u < 10
    · rw [dec_lt h, List.mem_singleton] at hx
      subst hx; rw [h8 u h]; omega
    · rw [dec_ge h, List.mem_append, List.mem_singleton] at hx
      rcases hx with hx | hx
      · exact ih (u / 10) (by omega) x hx
      · subst hx; rw [h8 _ (by omega)]; omega
theorem dec_ne (u : Nat) : Lib.decDigits u ≠ [] := by
  by_cases h : u < 10
  · rw [dec_lt h]; simp
  · rw [dec_ge h]; simp
theorem dec_no {u : Nat} {c : UInt8} (h : c.toNat < 48 ∨ 57 < c.toNat) : c ∉ Lib.decDigits u := fun hc => by
  have := dec_digit u c hc; omega

/-- Digits' value behind another one. -/
def valF (n : Nat) (x : UInt8) : Nat := 10 * n + (x.toNat - 48)
def val (s : List UInt8) : Nat := s.foldl valF 0
theorem val_snoc (s : List UInt8) (x : UInt8) : val (s ++ [x]) = 10 * val s + (x.toNat - 48) := by simp [val, valF]
theorem val_dec : ∀ u : Nat, val (Lib.decDigits u) = u := by
  intro u
  induction u using Nat.strongRecOn with
  | _ u ih =>
    have h8 : ∀ n, n < 10 → (UInt8.ofNat (48 + n)).toNat = 48 + n := fun n hn => by rw [UInt8.toNat_ofNat']; omega
    by_cases h : u < 10
    · rw [dec_lt h]; simp only [val, List.foldl_cons, List.foldl_nil, valF]; rw [h8 u h]; omega
    · rw [dec_ge h, val_snoc, ih _ (by omega), h8 _ (by omega)]; omega
/-- Is it a number's text? -/
def canon (s : List UInt8) : Prop := s ≠ [] ∧ (∀ x ∈ s, 48 ≤ x.toNat ∧ x.toNat ≤ 57) ∧ (1 < s.length → s[0]? ≠ some 48)
theorem dec_canon : ∀ u : Nat, canon (Lib.decDigits u) := by
  intro u
  refine ⟨dec_ne u, dec_digit u, ?_⟩
  induction u using Nat.strongRecOn with
  | _ u ih =>
    have h8 : ∀ n, n < 10 → (UInt8.ofNat (48 + n)).toNat = 48 + n := fun n hn => by rw [UInt8.toNat_ofNat']; omega
    intro hl
    by_cases h : u < 10
    · rw [dec_lt h] at hl; simp at hl
    · rw [dec_ge h]
      have hpos : 0 < (Lib.decDigits (u / 10)).length := List.length_pos_iff.2 (dec_ne _)
      rw [List.getElem?_append_left hpos]
      by_cases h2 : u / 10 < 10
      · rw [dec_lt h2]
        simp only [List.getElem?_cons_zero, ne_eq, Option.some.injEq]
        intro e
        have := congrArg UInt8.toNat e
        rw [h8 _ h2] at this
        have : (48 : UInt8).toNat = 48 := rfl
        omega
      · refine ih (u / 10) (by omega) ?_
        rw [dec_ge h2]
        have := List.length_pos_iff.2 (dec_ne (u / 10 / 10))
        simp; omega
theorem canon_dec : ∀ (k : Nat) (s : List UInt8), s.length ≤ k → canon s → Lib.decDigits (val s) = s := by
  intro k
  induction k with
  | zero => intro s h hc; exact absurd (List.eq_nil_of_length_eq_zero (by omega)) hc.1
  | succ k ih =>
    intro s h hc
    rcases List.eq_nil_or_concat s with rfl | ⟨t, x, rfl⟩
    · exact absurd rfl hc.1
    · rw [List.concat_eq_append] at *
      have hx := hc.2.1 x (by simp)
      have hx8 : UInt8.ofNat (48 + (x.toNat - 48)) = x := by
        rw [show 48 + (x.toNat - 48) = x.toNat by omega]; exact UInt8.ofNat_toNat
      rw [val_snoc]
      cases t with
      | nil =>
        simp only [val, List.foldl_nil, Nat.mul_zero, Nat.zero_add, List.nil_append]
        rw [dec_lt (by omega), hx8]
      | cons y t =>
        have hy := hc.2.1 y (by simp)
        have hy0 : y.toNat ≠ 48 := fun e => by
          have := hc.2.2 (by simp)
          simp only [List.cons_append, List.getElem?_cons_zero, ne_eq, Option.some.injEq] at this
          exact this (UInt8.toNat_inj.1 e)
        have hct : canon (y :: t) := ⟨by simp, fun z hz => hc.2.1 z (List.mem_append_left _ hz), fun _ => by
          simp only [List.getElem?_cons_zero, ne_eq, Option.some.injEq]
          exact fun e => hy0 (by rw [e]; rfl)⟩
        have hv : 0 < val (y :: t) := by
          have := ih (y :: t) (by simp at h ⊢; omega) hct
          rcases Nat.eq_zero_or_pos (val (y :: t)) with e | e
          · rw [e, dec_lt (by omega)] at this
            have h0 : y = UInt8.ofNat (48 + 0) := by injection this with a b; exact a.symm
            exact absurd (by rw [h0]; rfl) hy0
          · exact e
        rw [dec_ge (by omega), show (10 * val (y :: t) + (x.toNat - 48)) / 10 = val (y :: t) by omega, show (10 * val (y :: t) + (x.toNat - 48)) % 10 = x.toNat - 48 by omega, ih (y :: t) (by simp at h ⊢; omega) hct, hx8]
theorem canon_iff {s : List UInt8} : canon s ↔ Lib.decDigits (val s) = s := ⟨canon_dec s.length s (Nat.le_refl _), fun h => h ▸ dec_canon _⟩
theorem dec_len {u k : Nat} (h : u < 10 ^ (k + 1)) : (Lib.decDigits u).length ≤ k + 1 := by
  induction k generalizing u with
  | zero => rw [dec_lt (by omega)]; simp
  | succ k ih =>
    by_cases h2 : u < 10
    · rw [dec_lt h2]; simp
    · rw [dec_ge h2]
      have := ih (u := u / 10) (by rw [Nat.pow_succ] at h; omega)
      simp; omega
theorem len_dec {s : List UInt8} (h : canon s) : 10 ^ (s.length - 1) ≤ val s ∨ s.length = 1 := by
  have hl := fun (k : Nat) (hk : val s < 10 ^ (k + 1)) => dec_len hk
  simp only [canon_iff.1 h] at hl
  by_cases h1 : s.length = 1
  · exact .inr h1
  · left
    have hp : 0 < s.length := List.length_pos_iff.2 h.1
    rcases Nat.lt_or_ge (val s) (10 ^ (s.length - 1)) with hlt | hge
    · have := hl (s.length - 2) (by rw [show s.length - 2 + 1 = s.length - 1 by omega]; exact hlt)
      omega
    · exact hge

/-- Atoi of a number's text. -/
theorem parse_dec : ∀ (s : List UInt8) (acc : Nat), (∀ x ∈ s, 48 ≤ x.toNat ∧ x.toNat ≤ 57) → s.foldl valF acc < 18446744073709551616 → Lib.parseUint10 acc s = .ok (s.foldl valF acc) := by
  intro s
  induction s with
  | nil => intro acc _ _; rfl
  | cons x s ih =>
    intro acc hd hlt
    have hx := hd x (by simp)
    have hmono : ∀ (s : List UInt8) (a : Nat), a ≤ s.foldl valF a := by
      intro s
      induction s with
      | nil => intro a; exact Nat.le_refl _
      | cons y s ih => intro a; exact Nat.le_trans (by unfold valF; omega) (ih (valF a y))
    have hm := hmono s (valF acc x)
    have hlt' : s.foldl valF (valF acc x) < 18446744073709551616 := hlt
    have hv : valF acc x = 10 * acc + (x.toNat - 48) := rfl
    rw [Lib.parseUint10, if_pos hx, if_neg (by omega), if_neg (by omega)]
    have := ih (valF acc x) (fun y hy => hd y (by simp [hy])) hlt'
    rw [hv, Nat.mul_comm 10 acc] at this
    rw [this, List.foldl_cons, hv, Nat.mul_comm 10 acc]
theorem atoi_dec {u : Nat} (h : u < 9223372036854775808) : Lib.atoiAll (Lib.decDigits u) = .ok (u : Int) := by
  have hd := dec_digit u
  have hv := val_dec u
  have hn := dec_ne u
  generalize Lib.decDigits u = s at *
  cases s with
  | nil => exact absurd rfl hn
  | cons c r =>
    have hc := hd c (by simp)
    have hp := parse_dec (c :: r) 0 hd (by have : (c :: r).foldl valF 0 = u := hv; omega)
    have hu : (c :: r).foldl valF 0 = u := hv
    unfold Lib.atoiAll
    dsimp only
    rw [if_neg (by omega), Lib.parseMag, if_neg (by simp), hp, hu]
    dsimp only
    rw [if_neg (by omega), if_neg (by omega), if_neg (by omega)]

end Go.Sh
