/-
  Words: what a text is split into, in plain words; a word is read.
-/
import Derived.Test.YtaeiblfdmlapoaaDoorTxNum
set_option linter.unusedSectionVars false
set_option linter.unusedSimpArgs false
set_option linter.unusedVariables false
namespace Go.Proofs.YtaeiblfdmlapoaaDoor
open Go.Sh

abbrev Tok := Int × List UInt8 × Int × UInt32 × Int × Int
def isDig (x : UInt8) : Bool := decide (48 ≤ x.toNat) && decide (x.toNat ≤ 57)
def isLet (x : UInt8) : Bool := (decide (97 ≤ x.toNat) && decide (x.toNat ≤ 122)) || (decide (65 ≤ x.toNat) && decide (x.toNat ≤ 90))
def isPart (x : UInt8) : Bool := isDig x || isLet x || x == 95 || x == 45 || x == 46 || x == 58 || x == 47
def isSign (x : UInt8) : Bool := x == 123 || x == 125 || x == 40 || x == 41 || x == 59
def isMay (x : UInt8) : Bool := (decide (32 ≤ x.toNat) && decide (x.toNat ≤ 126)) || x == 9
def comm (s : List UInt8) : Option Nat := match spl 58 s with
  | [a, b] => if isNum 65535 a = true ∧ isNum 65535 b = true then some (65536 * val a + val b) else none
  | _ => none
def word (s : List UInt8) : Option Tok :=
  if s.all isDig = true then (if isNum 4294967295 s = true then some (2, s, (val s : Int), 0, 0, 0) else none)
  else if 47 ∈ s then (match pfx s with
    | some r => some (4, s, 0, UInt32.ofNat r.1, (r.2 : Int), 0)
    | none => none)
  else if 58 ∈ s then (match comm s with
    | some n => some (5, s, (n : Int), 0, 0, 0)
    | none => none)
  else if s.all (fun x => isDig x || x == 46) = true then (if (prs s).2 = 0 then some (3, s, ((prs s).1 : Int), 0, 0, 0) else none)
  else if s.head?.any isLet = true ∧ 46 ∉ s ∧ s.length ≤ 32 then some (1, s, 0, 0, 0, 0) else none

theorem all256 {P : UInt8 → Prop} (h : ∀ n : Fin 256, P (UInt8.ofNat n.val)) (x : UInt8) : P x := by
  have := h ⟨x.toNat, u8_lt x⟩
  rwa [show UInt8.ofNat x.toNat = x by simp] at this

theorem letter_c (x : UInt8) (K : Bool → Prop) (hk : K (isLet x)) : lex_letter_q (x.toNat : Int) K := by
  have h : ∀ x : UInt8, isLet x = (if decide ((bitsOr .u8 (x.toNat : Int) 32) ≥ 97) = true then decide ((bitsOr .u8 (x.toNat : Int) 32) ≤ 122) else false) := all256 (by decide +kernel)
  unfold lex_letter_q
  rw [h] at hk
  refine IfB.intro (fun h1 => ?_) (fun h1 => ?_)
  · rw [if_pos h1] at hk; exact hk
  · rw [if_neg (by rw [h1]; decide)] at hk; exact hk
theorem ref_letter_c (x : UInt8) (K : Bool → Prop) (hk : K (isLet x)) : ref24_letter_q (x.toNat : Int) K := by
  have h65 : IfB (decide ((x.toNat : Int) ≥ 65)) (K (decide (97 ≤ x.toNat) && decide (x.toNat ≤ 122) || decide ((x.toNat : Int) ≤ 90))) (K (decide (97 ≤ x.toNat) && decide (x.toNat ≤ 122) || false)) := by
    unfold isLet at hk
    refine IfB.intro (fun h => of_eq hk ?_) (fun h => of_eq hk ?_)
    · simp at h
      rw [decide_eq_true (show 65 ≤ x.toNat by omega), Bool.true_and]
      congr 1
      exact decide_eq_decide.2 (by omega)
    · simp at h
      rw [decide_eq_false (show ¬ 65 ≤ x.toNat by omega), Bool.false_and]
  unfold ref24_letter_q
  refine IfB.intro (fun h => IfB.intro (fun h2 => ?_) (fun h2 => ?_)) (fun h => ?_)
  · simp at h h2
    unfold isLet at hk
    rw [decide_eq_true (show 97 ≤ x.toNat by omega), decide_eq_true (show x.toNat ≤ 122 by omega)] at hk
    exact hk
  · simp at h h2
    rw [decide_eq_false (show ¬ x.toNat ≤ 122 by omega), Bool.and_false, Bool.false_or, Bool.false_or] at h65
    exact h65
  · simp at h
    rw [decide_eq_false (show ¬ 97 ≤ x.toNat by omega), Bool.false_and, Bool.false_or, Bool.false_or] at h65
    exact h65
theorem ref_digit_c (x : UInt8) (K : Bool → Prop) (hk : K (isDig x)) : ref24_digit_q (x.toNat : Int) K := by
  unfold ref24_digit_q
  unfold isDig at hk
  refine IfB.intro (fun h => of_eq hk ?_) (fun h => of_eq hk ?_)
  · simp at h
    rw [decide_eq_true (show 48 ≤ x.toNat by omega), Bool.true_and]
    exact decide_eq_decide.2 (by omega)
  · simp at h
    rw [decide_eq_false (show ¬ 48 ≤ x.toNat by omega), Bool.false_and]
theorem part_c (x : UInt8) (K : Bool → Prop) (hk : K (isPart x)) : lex_part_q (x.toNat : Int) K := by
  have h : ∀ x : UInt8, isPart x = (isLet x || (decide ((x.toNat : Int) ≥ 48) && decide ((x.toNat : Int) ≤ 57)) || decide (Lib.indexByte [95, 45, 46, 58, 47] (x.toNat : Int).toNat.toUInt8 ≥ 0)) := all256 (by decide +kernel)
  rw [h] at hk
  have hi : (WfPs strings_IndexByte_ps (([95, 45, 46, 58, 47] : List UInt8), (x.toNat : Int), ()) → strings_IndexByte_q ([95, 45, 46, 58, 47] : List UInt8) (x.toNat : Int) (fun x15 => WfPs strings_IndexByte_rs (x15, ()) → isLet x = false → (decide ((x.toNat : Int) ≥ 48) && decide ((x.toNat : Int) ≤ 57)) = false → K (decide ((x15 : Int) ≥ 0)))) := by
    intro _
    unfold strings_IndexByte_q
    intro _ h1 h2
    rw [h1, h2] at hk
    exact hk
  unfold lex_part_q
  refine fun _ => letter_c x _ fun _ => IfB.intro (fun h1 => ?_) (fun h1 => IfB.intro (fun h2 => IfB.intro (fun h3 => ?_) (fun h3 => ?_)) (fun h2 => ?_))
  · rw [h1] at hk; exact hk
  · rw [h1, h2, h3] at hk; exact hk
  · intro h4
    have h5 := hi h4
    unfold strings_IndexByte_q at h5 ⊢
    exact fun w => h5 w h1 (by rw [h2, h3]; rfl)
  · intro h4
    have h5 := hi h4
    unfold strings_IndexByte_q at h5 ⊢
    exact fun w => h5 w h1 (by rw [h2]; rfl)
theorem ref_part_c (x : UInt8) (K : Bool → Prop) (hk : K (isPart x)) : ref24_part_q (x.toNat : Int) K := by
  have hb : ∀ n : UInt8, ((x.toNat : Int) == (n.toNat : Int)) = (x == n) := fun n => by
    by_cases e : x = n
    · subst e; simp
    · rw [beq_eq_false_iff_ne.2 e]
      exact beq_eq_false_iff_ne.2 fun h => e (UInt8.toNat_inj.1 (by omega))
  unfold isPart at hk
  unfold ref24_part_q
  refine fun _ => ref_digit_c x _ fun _ => IfB.intro (fun h1 => ?_) (fun h1 => fun _ => ref_letter_c x _ fun _ => IfB.intro (fun h2 => ?_) (fun h2 => ?_))
  · rw [h1] at hk; exact hk
  · rw [h1, h2] at hk; exact hk
  rw [h1, h2, Bool.false_or, Bool.false_or] at hk
  refine IfB.intro (fun h3 => ?_) (fun h3 => IfB.intro (fun h4 => ?_) (fun h4 => IfB.intro (fun h5 => ?_) (fun h5 => IfB.intro (fun h6 => ?_) (fun h6 => ?_))))
  · rw [show (x == 95) = true by rw [← h3]; exact (hb 95).symm] at hk; exact hk
  all_goals rw [show (x == 95) = false by rw [← h3]; exact (hb 95).symm, Bool.false_or] at hk
  · rw [show (x == 45) = true by rw [← h4]; exact (hb 45).symm] at hk; exact hk
  all_goals rw [show (x == 45) = false by rw [← h4]; exact (hb 45).symm, Bool.false_or] at hk
  · rw [show (x == 46) = true by rw [← h5]; exact (hb 46).symm] at hk; exact hk
  all_goals rw [show (x == 46) = false by rw [← h5]; exact (hb 46).symm, Bool.false_or] at hk
  · rw [show (x == 58) = true by rw [← h6]; exact (hb 58).symm] at hk; exact hk
  · rw [show (x == 58) = false by rw [← h6]; exact (hb 58).symm, Bool.false_or] at hk
    exact of_eq hk (hb 47).symm
theorem sign_i (x : UInt8) : decide (Lib.indexByte [123, 125, 40, 41, 59] (x.toNat : Int).toNat.toUInt8 ≥ 0) = isSign x := by
  revert x; exact all256 (by decide +kernel)
theorem ref_sign_c (x : UInt8) (K : Bool → Prop) (hk : K (isSign x)) : ref24_sign_q (x.toNat : Int) K := by
  have hb : ∀ n : UInt8, ((x.toNat : Int) == (n.toNat : Int)) = (x == n) := fun n => by
    by_cases e : x = n
    · subst e; simp
    · rw [beq_eq_false_iff_ne.2 e]
      exact beq_eq_false_iff_ne.2 fun h => e (UInt8.toNat_inj.1 (by omega))
  unfold isSign at hk
  unfold ref24_sign_q
  refine IfB.intro (fun h3 => ?_) (fun h3 => IfB.intro (fun h4 => ?_) (fun h4 => IfB.intro (fun h5 => ?_) (fun h5 => IfB.intro (fun h6 => ?_) (fun h6 => ?_))))
  · rw [show (x == 123) = true by rw [← h3]; exact (hb 123).symm] at hk; exact hk
  all_goals rw [show (x == 123) = false by rw [← h3]; exact (hb 123).symm, Bool.false_or] at hk
  · rw [show (x == 125) = true by rw [← h4]; exact (hb 125).symm] at hk; exact hk
  all_goals rw [show (x == 125) = false by rw [← h4]; exact (hb 125).symm, Bool.false_or] at hk
  · rw [show (x == 40) = true by rw [← h5]; exact (hb 40).symm] at hk; exact hk
  all_goals rw [show (x == 40) = false by rw [← h5]; exact (hb 40).symm, Bool.false_or] at hk
  · rw [show (x == 41) = true by rw [← h6]; exact (hb 41).symm] at hk; exact hk
  · rw [show (x == 41) = false by rw [← h6]; exact (hb 41).symm, Bool.false_or] at hk
    exact of_eq hk (hb 59).symm
theorem may_c (x : UInt8) (K : Bool → Prop) (hk : K (isMay x)) : lex_may_q (x.toNat : Int) K := by
  have hb : ∀ x : UInt8, ((x.toNat : Int) == 9) = (x == 9) := all256 (by decide +kernel)
  unfold isMay at hk
  unfold lex_may_q
  refine IfB.intro (fun h1 => IfB.intro (fun h2 => ?_) (fun h2 => of_eq hk ?_)) (fun h1 => of_eq hk ?_)
  · simp at h1 h2
    rw [decide_eq_true (show 32 ≤ x.toNat by omega), decide_eq_true (show x.toNat ≤ 126 by omega)] at hk; exact hk
  · simp at h2
    rw [decide_eq_false (show ¬ x.toNat ≤ 126 by omega), Bool.and_false, Bool.false_or, hb]
  · simp at h1
    rw [decide_eq_false (show ¬ 32 ≤ x.toNat by omega), Bool.false_and, Bool.false_or, hb]

theorem lwhole_c (s : List UInt8) (m : Nat) (K : Int → Bool → Prop) (hm : m < 9223372036854775808) (hl : s.length ≤ 281474976710656) (h1 : isNum m s = true → K (val s) true) (h2 : isNum m s = false → ∀ v : Int, K v false) : lex_whole_q s m K := by
  have hN : (∀ v, Lib.atoiAll s ≠ .ok v) → isNum m s = false := fun h => by
    cases ho : isNum m s with
    | false => rfl
    | true => exact absurd (atoi_num hm ho) (h _)
  unfold lex_whole_q
  intro _
  unfold strconv_Atoi_q
  refine ⟨hl, fun _ => ?_⟩
  cases ha : Lib.atoiAll s with
  | ok v =>
    simp only [atoiR, ha]
    have hV : v ≠ (val s : Int) → isNum m s = false := fun hne => by
      cases ho : isNum m s with
      | false => rfl
      | true => rw [atoi_num hm ho] at ha; injection ha with ha; exact absurd ha.symm hne
    refine ifT rfl (IfB.intro (fun h => IfB.intro (fun h3 => ?_) (fun h3 => ?_)) (fun h => ?_))
    · have h0 : 0 ≤ v := by simpa using h
      have h3' : v ≤ m := by simpa using h3
      intro _
      unfold strconv_Itoa_q
      intro _
      by_cases e : Lib.itoa v = s
      · obtain ⟨h5, h6⟩ := itoa_num h0 e
        have := h1 (isNum_iff.2 ⟨by omega, h6⟩)
        rw [e, ← h5] at *
        simpa using this
      · have e2 : (Lib.itoa v == s) = false := beq_eq_false_iff_ne.2 e
        rw [e2]
        refine h2 ?_ v
        cases ho : isNum m s with
        | false => rfl
        | true =>
          rw [atoi_num hm ho] at ha
          injection ha with ha
          subst ha
          rw [itoa_nat, (isNum_iff.1 ho).2] at e
          exact absurd rfl e
    · refine h2 ?_ v
      cases ho : isNum m s with
      | false => rfl
      | true =>
        have := isNum_iff.1 ho
        rw [atoi_num hm ho] at ha; injection ha with ha
        simp at h3; omega
    · exact h2 (hV (by simp at h; omega)) v
  | range =>
    simp only [atoiR, ha]
    exact ifF rfl (h2 (hN fun v e => by rw [ha] at e; cases e) _)
  | _ =>
    simp only [atoiR, ha]
    exact ifF rfl (h2 (hN fun v e => by rw [ha] at e; cases e) _)

theorem or16 (a b : Nat) (hb : b < 65536) (ha : a < 65536) : bitsOr .i64 ((a : Int) * 65536) (b : Int) = ((65536 * a + b : Nat) : Int) := by
  rw [show ((a : Int) * 65536) = ((a * 65536 : Nat) : Int) by omega, or_nat .i64 _ _ (lt_i64 (by omega)) (lt_i64 (by omega)), or_65536 _ _ hb, wi64n _ (by omega)]
  omega
theorem comm_cut {p q : List UInt8} (hp : 58 ∉ p) : comm (p ++ 58 :: q) = if isNum 65535 p = true ∧ isNum 65535 q = true then some (65536 * val p + val q) else none := by
  unfold comm
  rw [spl_cut hp]
  by_cases hq : 58 ∈ q
  · have hn : ¬ (isNum 65535 p = true ∧ isNum 65535 q = true) := fun h => isNum_no h.2 (.inr (by decide)) hq
    rw [if_neg hn]
    obtain ⟨u, v, rfl, hu⟩ := mem_cut hq
    rw [spl_cut hu]
    have : spl 58 v ≠ [] := by unfold spl; simp
    cases hv : spl 58 v with
    | nil => exact absurd hv this
    | cons => rfl
  · rw [spl_free hq]
theorem halves_c (s : List UInt8) (K : Int → Bool → Prop) (hl : s.length ≤ 1000000) (hm : 58 ∈ s) (h1 : ∀ n, comm s = some n → K (n : Int) true) (h2 : comm s = none → ∀ v : Int, K v false) : lex_halves_q s K := by
  obtain ⟨p, q, rfl, hp⟩ := mem_cut hm
  rw [comm_cut hp] at h1 h2
  simp only [List.length_append, List.length_cons] at hl
  unfold lex_halves_q
  intro _
  unfold strings_Cut_q
  refine ⟨by simp only [List.length_append, List.length_cons]; omega, ?_⟩
  rw [cut_at hp]
  refine fun _ _ => lwhole_c p 65535 _ (by decide) (by omega) (fun hA _ _ => lwhole_c q 65535 _ (by decide) (by omega) (fun hB _ => ⟨by decide, ifT rfl ?_⟩) (fun hB v _ => ⟨by decide, ifT rfl (h2 (if_neg fun h => ?_) _)⟩)) (fun hA v _ _ => ?_)
  · have ha := (isNum_iff.1 hA).1
    have hb := (isNum_iff.1 hB).1
    rw [show ((val p : Nat) : Int) * 65536 = ((val p * 65536 : Nat) : Int) by omega, wi64n _ (by omega), show ((val p * 65536 : Nat) : Int) = ((val p : Nat) : Int) * 65536 by omega, or16 _ _ (by omega) (by omega)]
    exact h1 _ (if_pos ⟨hA, hB⟩)
  · rw [hB] at h; exact absurd h.2 (by decide)
  · have hn := h2 (if_neg fun h => by rw [hA] at h; exact absurd h.1 (by decide))
    exact lwhole_c q 65535 _ (by decide) (by omega) (fun _ _ => ⟨by decide, ifF rfl (hn _)⟩) (fun _ _ _ => ⟨by decide, ifF rfl (hn _)⟩)

theorem dropWhile_nil {p : UInt8 → Bool} {l : List UInt8} : l.dropWhile p = [] ↔ ∀ x ∈ l, p x = true := by
  induction l with
  | nil => simp
  | cons y l ih =>
    rw [List.dropWhile_cons]
    split
    · rename_i h; simp [ih, h]
    · rename_i h; simp [h]
theorem trim_nil (s t : List UInt8) : (Lib.trimS s t == []) = s.all (fun x => t.contains x) := by
  have h : Lib.trimS s t = [] ↔ s.all (fun x => t.contains x) = true := by
    unfold Lib.trimS Lib.trimLeftS Lib.trimRightS
    rw [dropWhile_nil]
    constructor
    · intro h
      rw [List.all_eq_true]
      intro x hx
      have hdw : ∀ (l : List UInt8), (∀ x ∈ (l.dropWhile (t.contains ·)), t.contains x = true) → ∀ x ∈ l, t.contains x = true := by
        intro l
        induction l with
        | nil => intro _ x hx; simp at hx
        | cons y l ih =>
          intro h2 x hx
          rw [List.dropWhile_cons] at h2
          split at h2
          · rename_i hy
            rcases List.mem_cons.1 hx with rfl | hx
            · exact hy
            · exact ih h2 x hx
          · exact h2 x hx
      exact hdw s.reverse (fun x hx => h x (List.mem_reverse.2 hx)) x (List.mem_reverse.2 hx)
    · intro h x hx
      rw [List.all_eq_true] at h
      have hsub : ∀ (l : List UInt8), ∀ x ∈ l.dropWhile (t.contains ·), x ∈ l := fun l x hx => (List.dropWhile_sublist (l := l) _).mem hx
      exact h x (List.mem_reverse.1 (hsub _ _ (List.mem_reverse.1 hx)))
  cases hb : s.all (fun x => t.contains x) with
  | true => rw [h.2 hb]; rfl
  | false =>
    refine beq_eq_false_iff_ne.2 fun e => ?_
    rw [h.1 e] at hb; cases hb
theorem digs (x : UInt8) : ([48, 49, 50, 51, 52, 53, 54, 55, 56, 57] : List UInt8).contains x = isDig x := by
  revert x; exact all256 (by decide +kernel)
theorem digs46 (x : UInt8) : ([48, 49, 50, 51, 52, 53, 54, 55, 56, 57, 46] : List UInt8).contains x = (isDig x || x == 46) := by
  revert x; exact all256 (by decide +kernel)

theorem read_c (s : List UInt8) (K : Tok → Bool → Prop) (hl : s.length ≤ 100000) (h1 : ∀ t, word s = some t → K t true) (h2 : word s = none → ∀ t, K t false) : lex_read_q s K := by
  unfold lex_read_q
  have e1 := trim_nil s [48, 49, 50, 51, 52, 53, 54, 55, 56, 57]
  have e2 := trim_nil s [48, 49, 50, 51, 52, 53, 54, 55, 56, 57, 46]
  simp only [digs] at e1
  simp only [digs46] at e2
  unfold word at h1 h2
  intro _
  unfold strings_Trim_q
  refine ⟨by decide, by decide, fun _ => ?_⟩
  rw [e1]
  refine IfB.intro (fun ha => ?_) (fun ha => ?_)
  · simp only [ha, if_true] at h1 h2
    unfold lex_read_j0
    refine fun _ => lwhole_c s 4294967295 _ (by decide) (by omega) (fun hA _ => ?_) (fun hA v _ => ?_)
    · exact h1 _ (if_pos hA)
    · exact h2 (if_neg (by rw [hA]; decide)) _
  simp only [ha, Bool.false_eq_true, if_false] at h1 h2
  intro _
  unfold strings_Contains_q
  refine ⟨by omega, fun _ => ?_⟩
  rw [contains_mem]
  refine IfB.intro (fun hb => ?_) (fun hb => ?_)
  · have hb := of_decide_eq_true hb
    rw [if_pos hb] at h1 h2
    unfold lex_read_j0
    refine fun _ => pfx_c s _ (by omega) (fun a n hp _ => ?_) (fun hp _ => ?_)
    · rw [hp] at h1
      refine of_eq2 (h1 _ rfl) ?_
      simp only [ofI_u32]
    · rw [hp] at h2
      exact h2 rfl _
  have hb := of_decide_eq_false hb
  rw [if_neg hb] at h1 h2
  intro _
  refine ⟨by omega, fun _ => ?_⟩
  rw [contains_mem]
  refine IfB.intro (fun hc => ?_) (fun hc => ?_)
  · have hc := of_decide_eq_true hc
    rw [if_pos hc] at h1 h2
    unfold lex_read_j0
    refine fun _ => halves_c s _ (by omega) hc (fun n hn _ => ?_) (fun hn v _ => ?_)
    · rw [hn] at h1
      exact h1 _ rfl
    · rw [hn] at h2
      exact h2 rfl _
  have hc := of_decide_eq_false hc
  rw [if_neg hc] at h1 h2
  intro _
  refine ⟨by decide, by decide, fun _ => ?_⟩
  rw [e2]
  refine IfB.intro (fun hd => ?_) (fun hd => ?_)
  · simp only [hd, if_true] at h1 h2
    unfold lex_read_j0
    refine fun _ => parse_c s _ (by omega) fun _ => ?_
    have hlt := prs_lt s
    rw [wi64n _ (by omega)]
    by_cases h0 : (prs s).2 = 0
    · rw [h0]; exact h1 _ (if_pos h0)
    · rw [show ((prs s).2 == 0) = false from beq_eq_false_iff_ne.2 h0]
      exact h2 (if_neg h0) _
  simp only [hd, Bool.false_eq_true, if_false] at h1 h2
  cases s with
  | nil => simp at ha
  | cons x r =>
    simp only [List.head?_cons, Option.any_some] at h1 h2
    have hno : ¬ (isLet x = true ∧ 46 ∉ (x :: r) ∧ (x :: r).length ≤ 32) → lex_read_j0 (x :: r) 1 0 0 0 false K := fun hn => h2 (if_neg hn) _
    refine ⟨by decide, AtN.of rfl fun _ => letter_c x _ fun _ => IfB.intro (fun hx => IfB.intro (fun h32 => ?_) (fun h32 => hno fun hn => ?_)) (fun hx => hno fun hn => ?_)⟩
    · intro _
      refine ⟨by omega, fun _ => ?_⟩
      rw [contains_mem]
      by_cases h46 : 46 ∈ (x :: r)
      · rw [decide_eq_true h46]
        exact hno fun hn => hn.2.1 h46
      · rw [decide_eq_false h46]
        exact h1 _ (if_pos ⟨hx, h46, by simp at h32 ⊢; omega⟩)
    · simp at h32 hn; omega
    · rw [hn.1] at hx; cases hx

end Go.Proofs.YtaeiblfdmlapoaaDoor
