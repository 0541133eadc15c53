/-
  Prefixes that are right: what the program finds, and the document.
  Addresses' texts: what is read as one.
  Addresses' texts: what is read as one.
  Numbers' texts, prefixes' texts.
  Words: what a text is split into, in plain words; a word is read.
  The document's words; texts, split.
  The program's and the document's splitting: one and the same.
  The document's splitting.
  The laws of splitting, as plain laws.
  Blanks and remarks between words change nothing but lines.
  Words, joined: plainly; and split again.
  The law: words are joined as the document says, and split again the same.
-/
import Derived.Test.YtcnbolonnlmlgaaDoorQ
import Derived.Test.YtcnbolonnlmlgaaDoorBts
import Derived.Test.YtcnbolonnlmlgaaDoorHm2
import Derived.Test.YtcnbolonnlmlgaaDoorTx1
section
set_option linter.unusedVariables false
set_option linter.unusedSimpArgs false
namespace Go.Proofs.YtcnbolonnlmlgaaDoor
open Go.Sh

theorem mask_c (a n : Nat) (K : Int → Prop) (ha : a < 4294967296) (hn : n ≤ 32) (hk : K ((a - a % hostBits n : Nat) : Int)) : upd_mask_q a n K := by
  unfold upd_mask_q
  have e1 : IntKind.wrap .i64 (32 - (n : Int)) = ((32 - n : Nat) : Int) := by rw [wr_i64 (by omega) (by omega)]; omega
  rw [e1]
  refine ⟨by omega, ?_⟩
  have hp : 2 ^ (32 - n) ≤ 2 ^ 32 := Nat.pow_le_pow_right (by decide) (by omega)
  have h0 : 0 < 2 ^ (32 - n) := Nat.two_pow_pos _
  have e32 : (2 : Nat) ^ 32 = 4294967296 := rfl
  have e2 : (min ((32 - n : Nat) : Int).toNat (IntKind.bits .u64)) = 32 - n := by
    rw [Int.toNat_natCast]
    have : IntKind.bits .u64 = 64 := rfl
    rw [this]; omega
  have e3 : (1 * (2 ^ (32 - n)) : Int) = ((2 ^ (32 - n) : Nat) : Int) := by rw [Int.one_mul]; norm_cast
  rw [e2, e3, wu64n _ (by omega), show (((2 ^ (32 - n) : Nat) : Int) - 1) = ((2 ^ (32 - n) - 1 : Nat) : Int) by omega, wu64n _ (by omega), wu32 (by omega), andNot_low a ha _ (by omega)]
  exact hk
def right (a : Nat) (n : Int) : Bool := decide (0 ≤ n) && (decide (n ≤ 32) && (a % hostBits n.toNat == 0))
theorem right_iff {a : Nat} {n : Int} : right a n = true ↔ 0 ≤ n ∧ n ≤ 32 ∧ a % hostBits n.toNat = 0 := by simp [right]
theorem right_c (a : UInt32) (n : Int) (K : Bool → Prop) (hk : K (right a.toNat n)) : upd_Right_q (a, n) K := by
  unfold upd_Right_q
  have ha := u32_lt a
  refine IfB.intro (fun h => IfB.intro (fun h2 => ?_) (fun h2 => of_eq hk ?_)) (fun h => of_eq hk ?_)
  · have h0 : 0 ≤ n := by simpa using h
    have h1 : n ≤ 32 := by simpa using h2
    obtain ⟨m, rfl⟩ := Int.eq_ofNat_of_zero_le h0
    intro _
    refine mask_c a.toNat m _ ha (by omega) fun _ => of_eq hk ?_
    have hle : a.toNat % hostBits m ≤ a.toNat := Nat.mod_le _ _
    unfold right
    rw [decide_eq_true h0, decide_eq_true h1, Bool.true_and, Bool.true_and, Int.toNat_natCast]
    by_cases e : a.toNat % hostBits m = 0
    · rw [e]; simp
    · have e1 : (a.toNat % hostBits m == 0) = false := beq_eq_false_iff_ne.2 e
      have e2 : (((a.toNat - a.toNat % hostBits m : Nat) : Int) == (a.toNat : Int)) = false := beq_eq_false_iff_ne.2 (by omega)
      rw [e1, e2]
  · unfold right; simp at h2; rw [decide_eq_false (show ¬ n ≤ 32 by omega)]; simp
  · unfold right; simp at h; rw [decide_eq_false (show ¬ 0 ≤ n by omega)]; simp
end Go.Proofs.YtcnbolonnlmlgaaDoor

set_option linter.unusedSectionVars false
set_option linter.unusedSimpArgs false
set_option linter.unusedVariables false
namespace Go.Proofs.YtcnbolonnlmlgaaDoor
open Go.Sh

/-- Is a text a number from 0 to 255? -/
def isOct (w : List UInt8) : Bool := decide (val w ≤ 255) && (Lib.decDigits (val w) == w)
theorem isOct_iff {w : List UInt8} : isOct w = true ↔ val w ≤ 255 ∧ Lib.decDigits (val w) = w := by simp [isOct]
theorem oct_len {w : List UInt8} (h : isOct w = true) : w.length ≤ 3 := by
  obtain ⟨h1, h2⟩ := isOct_iff.1 h
  have := dec_len (u := val w) (k := 2) (by omega)
  rw [h2] at this; exact this
/-- Numbers from 0 to 255, as one. -/
def pv (l : List (List UInt8)) : Nat := l.foldl (fun a w => a * 256 + val w) 0
theorem pv_snoc (l : List (List UInt8)) (w : List UInt8) : pv (l ++ [w]) = pv l * 256 + val w := by simp [pv]
/-- What an address's text is read as. -/
def prs (s : List UInt8) : Nat × Int := if (spl 46 s).length = 4 ∧ (spl 46 s).all isOct = true then (pv (spl 46 s), 0) else (0, 2)
theorem spl_len (c : UInt8) (s : List UInt8) : (spl c s).length ≤ s.length + 1 := by
  have h := Lib.splitB_length_le ⟨#[c]⟩ 0 (s.count c) ⟨s.toArray⟩
  have h2 := congrArg List.length (Lib.splitB_data ⟨#[c]⟩ 0 (s.count c) ⟨s.toArray⟩)
  have h3 := split_spl c (s.count c) s rfl
  have h4 : s.count c ≤ s.length := List.count_le_length
  rw [List.length_map] at h2
  have h5 : (Lib.splitK [c] 0 (s.count c) s).length = (spl c s).length := by rw [h3]
  have h6 : (Lib.splitK (ByteArray.mk #[c]).data.toList 0 (s.count c) (ByteArray.mk s.toArray).data.toList) = Lib.splitK [c] 0 (s.count c) s := by simp
  rw [h6, h5] at h2
  omega
theorem spl_part {c : UInt8} {s w : List UInt8} (h : w ∈ spl c s) : w.length ≤ s.length := by
  rw [← libSplit_spl] at h
  exact splitK_len _ _ _ _ h

theorem canon_oct {w : List UInt8} : isOct w = true ↔ canon w ∧ w.length ≤ 3 ∧ val w ≤ 255 := by
  constructor
  · intro h
    have := isOct_iff.1 h
    exact ⟨canon_iff.2 this.2, oct_len h, this.1⟩
  · intro ⟨h1, h2, h3⟩
    exact isOct_iff.2 ⟨h3, canon_iff.1 h1⟩
/-- The part that is begun stands at the end of what was read. -/
theorem splG_end (c : UInt8) (s : List UInt8) : ∃ t, s = t ++ (splG c ([], []) s).2 := by
  have : ∀ k (s : List UInt8), s.length = k → ∃ t, s = t ++ (splG c ([], []) s).2 := by
    intro k
    induction k with
    | zero => intro s h; exact ⟨[], by rw [List.eq_nil_of_length_eq_zero h]; rfl⟩
    | succ k ih =>
      intro s h
      rcases List.eq_nil_or_concat s with rfl | ⟨u, x, rfl⟩
      · simp at h
      · rw [List.concat_eq_append] at *
        obtain ⟨t, ht⟩ := ih u (by simp at h; omega)
        rw [splG_snoc]
        unfold splF
        split
        · exact ⟨u ++ [x], by simp⟩
        · refine ⟨t, ?_⟩
          dsimp only
          rw [← List.append_assoc, ← ht]
  exact this _ s rfl
theorem splG_len (c : UInt8) (s : List UInt8) : (splG c ([], []) s).1.length ≤ s.length := by
  have := spl_len c s
  simp only [spl, List.length_append, List.length_singleton] at this
  omega
theorem prs_long {s : List UInt8} (h : 15 < s.length) : prs s = (0, 2) := by
  unfold prs
  rw [if_neg]
  intro ⟨h4, ho⟩
  have hj := join_spl 46 s
  generalize spl 46 s = l at *
  match l, h4 with
  | [a, b, c, d], _ =>
    simp only [List.all_cons, List.all_nil, Bool.and_true, Bool.and_eq_true] at ho
    have h1 := oct_len ho.1; have h2 := oct_len ho.2.1; have h3 := oct_len ho.2.2.1; have h4 := oct_len ho.2.2.2
    have := congrArg List.length hj
    simp only [Lib.join, List.intercalate, List.intersperse, List.flatten_cons, List.flatten_nil, List.length_append, List.length_cons, List.length_nil] at this
    omega
end Go.Proofs.YtcnbolonnlmlgaaDoor

set_option linter.unusedSectionVars false
set_option linter.unusedSimpArgs false
set_option linter.unusedVariables false
namespace Go.Proofs.YtcnbolonnlmlgaaDoor
open Go.Sh

theorem octet_c (s : List UInt8) (K : Int → Prop) (hl : s.length ≤ 281474976710656) (h1 : isOct s = true → K (val s)) (h2 : isOct s = false → ∀ v : Int, v < 0 → K v) : ip_octet_q s K := by
  have hA : isOct s = true → Lib.atoiAll s = .ok (val s : Int) := fun h => by
    obtain ⟨h3, h4⟩ := isOct_iff.1 h
    have := atoi_dec (u := val s) (by omega)
    rwa [h4] at this
  have hno : isOct s = false → ip_octet_j0 0 true K := fun h => ifT rfl (h2 h _ (by decide))
  have hN : Lib.atoiAll s ≠ .ok (val s : Int) → isOct s = false := fun h => by
    cases ho : isOct s with
    | false => rfl
    | true => exact absurd (hA ho) h
  unfold ip_octet_q
  intro _
  unfold strconv_Atoi_q
  refine ⟨hl, fun _ => ?_⟩
  cases ha : Lib.atoiAll s with
  | ok v =>
    simp only [atoiR, ha]
    refine ifF rfl (IfB.intro (fun h => ?_) (fun h => ?_))
    · refine ifT rfl (h2 ?_ _ (by decide))
      cases ho : isOct s with
      | false => rfl
      | true =>
        have := hA ho
        rw [ha] at this
        injection this with this
        have h3 := (isOct_iff.1 ho).1
        simp at h; omega
    · have hv : v ≤ 255 := by simp at h; omega
      intro _
      unfold strconv_Itoa_q
      intro _
      unfold ip_octet_j0
      refine IfB.intro (fun h => ?_) (fun h => ?_)
      · refine h2 ?_ _ (by decide)
        cases ho : isOct s with
        | false => rfl
        | true =>
          have := hA ho
          rw [ha] at this
          injection this with this
          subst this
          rw [itoa_nat, (isOct_iff.1 ho).2] at h
          simp at h
      · have hs : Lib.itoa v = s := by simpa using h
        by_cases h0 : 0 ≤ v
        · obtain ⟨n, rfl⟩ := Int.eq_ofNat_of_zero_le h0
          rw [itoa_nat] at hs
          have hvn : val s = n := by rw [← hs, val_dec]
          have ho : isOct s = true := isOct_iff.2 ⟨by omega, by rw [hvn]; exact hs⟩
          have := h1 ho
          rwa [hvn] at this
        · refine h2 (hN fun e => ?_) v (by omega)
          rw [ha] at e; injection e with e; omega
  | range =>
    simp only [atoiR, ha]
    exact ifT rfl (ifT rfl (h2 (hN (by rw [ha]; exact fun e => by cases e)) _ (by decide)))
  | _ =>
    simp only [atoiR, ha]
    exact ifT rfl (ifT rfl (h2 (hN (by rw [ha]; exact fun e => by cases e)) _ (by decide)))

theorem parse_c (s : List UInt8) (K : Int → Int → Prop) (hl : s.length ≤ 1000000) (hk : K (prs s).1 (prs s).2) : ip_Parse_q s K := by
  unfold ip_Parse_q
  intro _
  unfold strings_Split_q
  refine ⟨by omega, by decide, ?_⟩
  rw [libSplit_spl]
  intro _
  have hpl := fun w (h : w ∈ spl 46 s) => spl_part h
  have hbad : ¬ ((spl 46 s).length = 4 ∧ (spl 46 s).all isOct = true) → K 0 2 := fun h => by rw [prs, if_neg h] at hk; exact hk
  have hok : (spl 46 s).length = 4 → (spl 46 s).all isOct = true → K (pv (spl 46 s)) 0 := fun h1 h2 => by rw [prs, if_pos ⟨h1, h2⟩] at hk; exact hk
  generalize spl 46 s = l at *
  refine IfB.intro (fun h => hbad fun h4 => by simp at h; omega) (fun h => ?_)
  have h4 : l.length = 4 := by simp at h; omega
  refine LoopJ.over l (fun pre => ((pv pre : Int), (pre.length : Int), ())) (fun pre => pre.all isOct = true ∧ pv pre < 256 ^ pre.length) rfl ⟨rfl, by decide⟩ (fun pre w post hp hn hP next hx => ?_) (fun hP next => ?_)
  · intro _
    dsimp only [ip_Parse_l6]
    refine ifT (decide_eq_true (by omega)) ⟨by omega, by omega, AtN.of (at_pre hp) fun _ _ => ?_⟩
    refine octet_c w _ (by have := hpl w (by rw [hp]; simp); omega) (fun ho _ => ?_) (fun ho v hv _ => ?_)
    · obtain ⟨h5, h6⟩ := isOct_iff.1 ho
      have hb : pv pre < 16777216 := by
        have h7 : pre.length ≤ 3 := by omega
        have : 256 ^ pre.length ≤ 256 ^ 3 := Nat.pow_le_pow_right (by decide) h7
        omega
      refine ifF (decide_eq_false (by omega)) ⟨by decide, of_eq (hx ⟨by rw [List.all_append, hP.1]; simp [ho], ?_⟩) ?_⟩
      · rw [pv_snoc, List.length_append, List.length_singleton, Nat.pow_succ]
        have := hP.2
        omega
      · rw [pv_snoc, show ((pv pre : Nat) : Int) * 256 = ((pv pre * 256 : Nat) : Int) by omega, wu32 (by omega), wu32 (by omega), or_nat .u32 _ _ (lt_u32 (by omega)) (lt_u32 (by omega)), or_256 _ _ (by omega), wu32 (by omega), wr_i64 (by omega) (by omega)]
        simp
    · refine ifT (decide_eq_true hv) (hbad fun h5 => ?_)
      have := List.all_eq_true.1 h5.2 w (by rw [hp]; simp)
      rw [ho] at this; cases this
  · intro _
    dsimp only [ip_Parse_l6]
    exact ifF (decide_eq_false (by omega)) (hok h4 hP.1)


end Go.Proofs.YtcnbolonnlmlgaaDoor

set_option linter.unusedSectionVars false
set_option linter.unusedSimpArgs false
set_option linter.unusedVariables false
namespace Go.Proofs.YtcnbolonnlmlgaaDoor
open Go.Sh

/-- Is a text a number from 0 to m? -/
def isNum (m : Nat) (w : List UInt8) : Bool := decide (val w ≤ m) && (Lib.decDigits (val w) == w)
theorem isNum_iff {m : Nat} {w : List UInt8} : isNum m w = true ↔ val w ≤ m ∧ Lib.decDigits (val w) = w := by simp [isNum]
theorem isNum_canon {m : Nat} {w : List UInt8} : isNum m w = true ↔ val w ≤ m ∧ canon w := by rw [isNum_iff, canon_iff]
theorem isNum_oct (w : List UInt8) : isNum 255 w = isOct w := rfl
theorem isNum_no {m : Nat} {w : List UInt8} {c : UInt8} (h : isNum m w = true) (hc : c.toNat < 48 ∨ 57 < c.toNat) : c ∉ w := fun hm => by
  have := (isNum_canon.1 h).2.2.1 c hm
  omega
theorem itoa_num {v : Int} {s : List UInt8} (h0 : 0 ≤ v) (h : Lib.itoa v = s) : v = (val s : Nat) ∧ Lib.decDigits (val s) = s := by
  obtain ⟨n, rfl⟩ := Int.eq_ofNat_of_zero_le h0
  rw [itoa_nat] at h
  have hv : val s = n := by rw [← h, val_dec]
  exact ⟨by omega, by rw [hv]; exact h⟩
theorem atoi_num {m : Nat} {s : List UInt8} (hm : m < 9223372036854775808) (h : isNum m s = true) : Lib.atoiAll s = .ok (val s : Int) := by
  obtain ⟨h3, h4⟩ := isNum_iff.1 h
  have := atoi_dec (u := val s) (by omega)
  rwa [h4] at this

theorem number_c (s : List UInt8) (m : Nat) (K : Int → Prop) (hm : m < 9223372036854775808) (hl : s.length ≤ 281474976710656) (h1 : isNum m s = true → K (val s)) (h2 : isNum m s = false → ∀ v : Int, (v < 0 ∨ v > m) → K v) : upd_number_q s K := by
  have hN : ∀ v : Int, Lib.atoiAll s = .ok v → v ≠ (val s : Int) → isNum m s = false := fun v hv hne => by
    cases ho : isNum m s with
    | false => rfl
    | true => rw [atoi_num hm ho] at hv; injection hv with hv; exact absurd hv.symm hne
  have hno : (∀ v, Lib.atoiAll s ≠ .ok v) → upd_number_j0 0 true K := fun h => ifT rfl (h2 (by
    cases ho : isNum m s with
    | false => rfl
    | true => exact absurd (atoi_num hm ho) (h _)) _ (.inl (by decide)))
  unfold upd_number_q
  intro _
  unfold strconv_Atoi_q
  refine ⟨hl, fun _ => ?_⟩
  cases ha : Lib.atoiAll s with
  | ok v =>
    simp only [atoiR, ha]
    refine ifF rfl fun _ => ?_
    unfold strconv_Itoa_q
    intro _
    unfold upd_number_j0
    refine IfB.intro (fun h => ?_) (fun h => ?_)
    · refine h2 ?_ _ (.inl (by decide))
      cases ho : isNum m s with
      | false => rfl
      | true =>
        rw [atoi_num hm ho] at ha
        injection ha with ha
        subst ha
        rw [itoa_nat, (isNum_iff.1 ho).2] at h
        simp at h
    · have hs : Lib.itoa v = s := by simpa using h
      by_cases h0 : 0 ≤ v
      · obtain ⟨h3, h4⟩ := itoa_num h0 hs
        by_cases h5 : val s ≤ m
        · have := h1 (isNum_iff.2 ⟨h5, h4⟩)
          rwa [← h3] at this
        · refine h2 ?_ v (.inr (by omega))
          cases ho : isNum m s with
          | false => rfl
          | true => exact absurd (isNum_iff.1 ho).1 h5
      · exact h2 (hN v ha (by omega)) v (.inl (by omega))
  | range =>
    simp only [atoiR, ha]
    exact ifT rfl (hno fun v e => by rw [ha] at e; cases e)
  | _ =>
    simp only [atoiR, ha]
    exact ifT rfl (hno fun v e => by rw [ha] at e; cases e)

theorem mem_cut {c : UInt8} {s : List UInt8} (h : c ∈ s) : ∃ pre rest, s = pre ++ c :: rest ∧ c ∉ pre := by
  induction s with
  | nil => simp at h
  | cons x s ih =>
    by_cases e : x = c
    · subst e; exact ⟨[], s, rfl, by simp⟩
    · have hm : c ∈ s := by
        rcases List.mem_cons.1 h with h | h
        · exact absurd h.symm e
        · exact h
      obtain ⟨pre, rest, rfl, hp⟩ := ih hm
      exact ⟨x :: pre, rest, rfl, by simp only [List.mem_cons, not_or]; exact ⟨fun h => e h.symm, hp⟩⟩
theorem index_none {c : UInt8} : ∀ {s : List UInt8}, c ∉ s → Lib.index s [c] = -1
  | [], _ => rfl
  | x :: s, h => by
    simp only [List.mem_cons, not_or] at h
    have hp : ([c] : List UInt8).isPrefixOf (x :: s) = false := by simp [List.isPrefixOf, h.1]
    rw [Lib.index, hp, if_neg (by decide), index_none h.2]; rfl
theorem cut_free {c : UInt8} {s : List UInt8} (h : c ∉ s) : Lib.cut s [c] = (s, [], false) := by
  unfold Lib.cut; rw [index_none h, if_neg (by decide)]
theorem cut_at {c : UInt8} {pre rest : List UInt8} (h : c ∉ pre) : Lib.cut (pre ++ c :: rest) [c] = (pre, rest, true) := by
  unfold Lib.cut
  rw [index_at h, if_pos (by omega)]
  simp
theorem contains_mem {c : UInt8} (s : List UInt8) : Lib.contains s [c] = decide (c ∈ s) := by
  unfold Lib.contains
  by_cases h : c ∈ s
  · obtain ⟨pre, rest, rfl, hp⟩ := mem_cut h
    rw [index_at hp, decide_eq_true h]; simp
  · rw [index_none h, decide_eq_false h]; rfl

/-! ### Prefixes' texts -/
def pfx (s : List UInt8) : Option (Nat × Nat) := match spl 47 s with
  | [a, b] => if (prs a).2 = 0 ∧ isNum 32 b = true ∧ right (prs a).1 (val b) = true then some ((prs a).1, val b) else none
  | _ => none
theorem prs_two {s : List UInt8} (h : (prs s).2 = 0) : (spl 46 s).length = 4 ∧ (spl 46 s).all isOct = true ∧ (prs s).1 = pv (spl 46 s) := by
  unfold prs at h ⊢
  split at h
  · rename_i h2
    rw [if_pos h2]
    exact ⟨h2.1, h2.2, rfl⟩
  · cases h
theorem pv_lt : ∀ (l : List (List UInt8)) (a : Nat), l.all isOct = true → l.foldl (fun a w => a * 256 + val w) a < (a + 1) * 256 ^ l.length
  | [], a, _ => by simp
  | w :: l, a, h => by
    simp only [List.all_cons, Bool.and_eq_true] at h
    have ih := pv_lt l (a * 256 + val w) h.2
    have hw := (isOct_iff.1 h.1).1
    simp only [List.foldl_cons, List.length_cons, Nat.pow_succ]
    have h3 : (a * 256 + val w + 1) * 256 ^ l.length ≤ ((a + 1) * 256) * 256 ^ l.length := Nat.mul_le_mul_right _ (by omega)
    have h4 : (a + 1) * 256 * 256 ^ l.length = (a + 1) * (256 ^ l.length * 256) := by rw [Nat.mul_assoc, Nat.mul_comm 256]
    omega
theorem prs_lt (s : List UInt8) : (prs s).1 < 4294967296 := by
  unfold prs
  split
  · rename_i h
    have := pv_lt (spl 46 s) 0 h.2
    rw [h.1] at this
    exact this
  · decide
theorem prs_len {s : List UInt8} (h : (prs s).2 = 0) : s.length ≤ 15 := by
  rcases Nat.lt_or_ge 15 s.length with h1 | h1
  · rw [prs_long h1] at h; cases h
  · exact h1
theorem isNum_len {m k : Nat} {w : List UInt8} (h : isNum m w = true) (hm : m < 10 ^ (k + 1)) : w.length ≤ k + 1 := by
  obtain ⟨h1, h2⟩ := isNum_iff.1 h
  have := dec_len (u := val w) (k := k) (by omega)
  rw [h2] at this; exact this
theorem pfx_some {s : List UInt8} {a n : Nat} (h : pfx s = some (a, n)) : ∃ p q, spl 47 s = [p, q] ∧ (prs p).2 = 0 ∧ isNum 32 q = true ∧ right (prs p).1 (val q) = true ∧ a = (prs p).1 ∧ n = val q := by
  unfold pfx at h
  split at h
  · rename_i p q hs
    split at h
    · rename_i hc
      simp only [Option.some.injEq, Prod.mk.injEq] at h
      exact ⟨p, q, hs, hc.1, hc.2.1, hc.2.2, h.1.symm, h.2.symm⟩
    · cases h
  · cases h
theorem pfx_len {s : List UInt8} {r : Nat × Nat} (h : pfx s = some r) : s.length ≤ 18 := by
  obtain ⟨a, n⟩ := r
  obtain ⟨p, q, hs, h1, h2, _⟩ := pfx_some h
  have hj := join_spl 47 s
  rw [hs] at hj
  have h3 := prs_len h1
  have h4 := isNum_len (k := 1) h2 (by decide)
  have := congrArg List.length hj
  simp only [Lib.join, List.intercalate, List.intersperse, List.flatten_cons, List.flatten_nil, List.length_append, List.length_cons, List.length_nil] at this
  omega
theorem pfx_c (s : List UInt8) (K : UInt32 × Int → Int → Prop) (hl : s.length ≤ 1000000) (h1 : ∀ a n, pfx s = some (a, n) → K (UInt32.ofNat a, (n : Int)) 0) (h2 : pfx s = none → K (0, 0) 5) : upd_Parse_q s K := by
  unfold upd_Parse_q
  intro _
  unfold strings_Cut_q
  refine ⟨by omega, ?_⟩
  have step : ∀ (p q : List UInt8) (b : Bool), p.length ≤ 1000000 → q.length ≤ 1000000 → (b = true → 47 ∉ q → pfx s = if (prs p).2 = 0 ∧ isNum 32 q = true ∧ right (prs p).1 (val q) = true then some ((prs p).1, val q) else none) → (b = false ∨ 47 ∈ q → pfx s = none) →
      (WfPs strings_Split_ps (p, ([46] : List UInt8), ()) → strings_Split_q p ([46] : List UInt8) (fun x19 => WfPs strings_Split_rs (x19, ()) → (WfPs upd_number_ps (q, ()) → upd_number_q q (fun x21 => WfPs upd_number_rs (x21, ()) → IfB (!b) (upd_Parse_j0 x21 x19 true K) (upd_Parse_j0 x21 x19 (((x19.length : Int) : Int) != 4) K))))) := by
    intro p q b hp hq hb hn _
    unfold strings_Split_q
    refine ⟨by omega, by decide, ?_⟩
    rw [libSplit_spl]
    intro _ _
    have hpr : prs p = if (spl 46 p).length = 4 ∧ (spl 46 p).all isOct = true then (pv (spl 46 p), 0) else (0, 2) := rfl
    have hpl := fun w (h : w ∈ spl 46 p) => spl_part h
    generalize spl 46 p = l at *
    have key : ∀ v : Int, (isNum 32 q = true ∧ v = (val q : Int)) ∨ (isNum 32 q = false ∧ (v < 0 ∨ v > 32)) → IfB (!b) (upd_Parse_j0 v l true K) (upd_Parse_j0 v l (((l.length : Int) : Int) != 4) K) := by
      intro v hv
      have bad : (b = true → 47 ∉ q → ¬ ((prs p).2 = 0 ∧ isNum 32 q = true ∧ right (prs p).1 (val q) = true)) → K (0, 0) 5 := fun h => h2 (by
        by_cases hbq : b = true ∧ 47 ∉ q
        · rw [hb hbq.1 hbq.2, if_neg (h hbq.1 hbq.2)]
        · refine hn ?_
          rcases Bool.eq_false_or_eq_true b with e | e
          · exact .inr (Classical.byContradiction fun hh => hbq ⟨e, hh⟩)
          · exact .inl e)
      refine IfB.intro (fun h => ifT rfl (bad fun hbt => by rw [hbt] at h; cases h)) (fun h => ?_)
      have hbt : b = true := by simpa using h
      unfold upd_Parse_j0
      refine IfB.intro (fun h4 => bad fun _ _ hc => ?_) (fun h4 => ?_)
      · rw [hpr, if_neg (by intro hx; rw [hx.1] at h4; simp at h4)] at hc
        exact absurd hc.1 (by decide)
      have h4l : l.length = 4 := by simp at h4; omega
      refine LoopJ.over l (fun pre => ((pre.length : Int), (pv pre : Int), v, ())) (fun pre => pre.all isOct = true ∧ pv pre < 256 ^ pre.length) rfl ⟨rfl, by decide⟩ (fun pre w post hpp hnn hP next hx => ?_) (fun hP next => ?_)
      · intro _
        dsimp only [upd_Parse_l7]
        have hno : isOct w = false → K (0, 0) 5 := fun ho => bad fun _ _ hc => by
          rw [hpr, if_neg (fun h5 => by have := List.all_eq_true.1 h5.2 w (by rw [hpp]; simp); rw [ho] at this; cases this)] at hc
          exact absurd hc.1 (by decide)
        refine ifT (decide_eq_true (by omega)) ⟨by omega, by omega, AtN.of (at_pre hpp) fun _ _ => ?_⟩
        refine number_c w 255 _ (by decide) (by have := hpl w (by rw [hpp]; simp); omega) (fun ho _ => ?_) (fun ho x hx0 _ => ?_)
        · obtain ⟨h5, h6⟩ := isOct_iff.1 ho
          have hb2 : pv pre < 16777216 := by
            have h7 : pre.length ≤ 3 := by omega
            have : 256 ^ pre.length ≤ 256 ^ 3 := Nat.pow_le_pow_right (by decide) h7
            omega
          refine ifF (decide_eq_false (by omega)) (ifF (decide_eq_false (by omega)) ⟨by decide, of_eq (hx ⟨by rw [List.all_append, hP.1]; simp [show isOct w = true from ho], ?_⟩) ?_⟩)
          · rw [pv_snoc, List.length_append, List.length_singleton, Nat.pow_succ]
            have := hP.2
            omega
          · rw [pv_snoc, show ((pv pre : Nat) : Int) * 256 = ((pv pre * 256 : Nat) : Int) by omega, wu32 (by omega), wu32 (by omega), or_nat .u32 _ _ (lt_u32 (by omega)) (lt_u32 (by omega)), or_256 _ _ (by omega), wu32 (by omega), wr_i64 (by omega) (by omega)]
            simp
        · have ho' : isOct w = false := ho
          first | unfold upd_Parse_j3 | unfold upd_Parse_j1
          refine IfB.intro (fun _ => ifT rfl (hno ho')) (fun h5 => ifT ?_ (hno ho'))
          simp at h5; simp; omega
      · intro _
        dsimp only [upd_Parse_l7]
        have hlt : pv l < 4294967296 := by have := hP.2; rw [h4l] at this; exact this
        have eU : ofI .u32 ((pv l : Nat) : Int) = UInt32.ofNat (pv l) := rfl
        have eN : (UInt32.ofNat (pv l)).toNat = pv l := by simp; omega
        have hpr2 : prs p = (pv l, 0) := by rw [hpr, if_pos ⟨h4l, hP.1⟩]
        refine ifF (decide_eq_false (by omega)) fun _ => right_c _ _ _ fun _ => ?_
        rw [eU, eN]
        unfold upd_Parse_j2
        refine IfB.intro (fun hr => ?_) (fun hr => bad fun _ _ hc => ?_)
        · rcases hv with ⟨h6, rfl⟩ | ⟨_, h6⟩
          · have hq47 : 47 ∉ q := isNum_no h6 (.inl (by decide))
            refine h1 _ _ ?_
            rw [hb hbt hq47, hpr2, if_pos ⟨rfl, h6, hr⟩]
          · have := right_iff.1 hr
            omega
        · rw [hpr2] at hc
          rcases hv with ⟨h6, rfl⟩ | ⟨h6, _⟩
          · rw [hc.2.2] at hr; cases hr
          · rw [h6] at hc; exact absurd hc.2.1 (by decide)
    refine number_c q 32 _ (by decide) (by omega) (fun h _ => key _ (.inl ⟨h, rfl⟩)) (fun h v hv _ => key v (.inr ⟨h, hv⟩))
  by_cases hm : 47 ∈ s
  · obtain ⟨p, q, rfl, hp⟩ := mem_cut hm
    rw [cut_at hp]
    intro _
    simp only [List.length_append, List.length_cons] at hl
    refine step p q true (by omega) (by omega) (fun _ hq => ?_) (fun h => ?_)
    · unfold pfx; rw [spl_cut hp, spl_free hq]
    · rcases h with h | h
      · cases h
      · obtain ⟨u, v, rfl, hu⟩ := mem_cut h
        unfold pfx
        rw [spl_cut hp, spl_cut hu]
        have : spl 47 v ≠ [] := by unfold spl; simp
        cases hv : spl 47 v with
        | nil => exact absurd hv this
        | cons => rfl
  · rw [cut_free hm]
    intro _
    refine step s [] false hl (by simp) (fun h => by cases h) (fun _ => ?_)
    unfold pfx; rw [spl_free hm]

end Go.Proofs.YtcnbolonnlmlgaaDoor

set_option linter.unusedSectionVars false
set_option linter.unusedSimpArgs false
set_option linter.unusedVariables false
namespace Go.Proofs.YtcnbolonnlmlgaaDoor
open Go.Sh

abbrev Tok := Int × List UInt8 × Int × UInt32 × Int × Int
def isDig (x : UInt8) : Bool := decide (48 ≤ x.toNat) && decide (x.toNat ≤ 57)
def isLet (x : UInt8) : Bool := (decide (97 ≤ x.toNat) && decide (x.toNat ≤ 122)) || (decide (65 ≤ x.toNat) && decide (x.toNat ≤ 90))
def isPart (x : UInt8) : Bool := isDig x || isLet x || x == 95 || x == 45 || x == 46 || x == 58 || x == 47
def isSign (x : UInt8) : Bool := x == 123 || x == 125 || x == 40 || x == 41 || x == 59
def isMay (x : UInt8) : Bool := (decide (32 ≤ x.toNat) && decide (x.toNat ≤ 126)) || x == 9
def comm (s : List UInt8) : Option Nat := match spl 58 s with
  | [a, b] => if isNum 65535 a = true ∧ isNum 65535 b = true then some (65536 * val a + val b) else none
  | _ => none
def word (s : List UInt8) : Option Tok :=
  if s.all isDig = true then (if isNum 4294967295 s = true then some (2, s, (val s : Int), 0, 0, 0) else none)
  else if 47 ∈ s then (match pfx s with
    | some r => some (4, s, 0, UInt32.ofNat r.1, (r.2 : Int), 0)
    | none => none)
  else if 58 ∈ s then (match comm s with
    | some n => some (5, s, (n : Int), 0, 0, 0)
    | none => none)
  else if s.all (fun x => isDig x || x == 46) = true then (if (prs s).2 = 0 then some (3, s, ((prs s).1 : Int), 0, 0, 0) else none)
  else if s.head?.any isLet = true ∧ 46 ∉ s ∧ s.length ≤ 32 then some (1, s, 0, 0, 0, 0) else none

theorem all256 {P : UInt8 → Prop} (h : ∀ n : Fin 256, P (UInt8.ofNat n.val)) (x : UInt8) : P x := by
  have := h ⟨x.toNat, u8_lt x⟩
  rwa [show UInt8.ofNat x.toNat = x by simp] at this

theorem letter_c (x : UInt8) (K : Bool → Prop) (hk : K (isLet x)) : lex_letter_q (x.toNat : Int) K := by
  have h : ∀ x : UInt8, isLet x = (if decide ((bitsOr .u8 (x.toNat : Int) 32) ≥ 97) = true then decide ((bitsOr .u8 (x.toNat : Int) 32) ≤ 122) else false) := all256 (by decide +kernel)
  unfold lex_letter_q
  rw [h] at hk
  refine IfB.intro (fun h1 => ?_) (fun h1 => ?_)
  · rw [if_pos h1] at hk; exact hk
  · rw [if_neg (by rw [h1]; decide)] at hk; exact hk
theorem part_c (x : UInt8) (K : Bool → Prop) (hk : K (isPart x)) : lex_part_q (x.toNat : Int) K := by
  have h : ∀ x : UInt8, isPart x = (isLet x || (decide ((x.toNat : Int) ≥ 48) && decide ((x.toNat : Int) ≤ 57)) || decide (Lib.indexByte [95, 45, 46, 58, 47] (x.toNat : Int).toNat.toUInt8 ≥ 0)) := all256 (by decide +kernel)
  rw [h] at hk
  have hi : (WfPs strings_IndexByte_ps (([95, 45, 46, 58, 47] : List UInt8), (x.toNat : Int), ()) → strings_IndexByte_q ([95, 45, 46, 58, 47] : List UInt8) (x.toNat : Int) (fun x15 => WfPs strings_IndexByte_rs (x15, ()) → isLet x = false → (decide ((x.toNat : Int) ≥ 48) && decide ((x.toNat : Int) ≤ 57)) = false → K (decide ((x15 : Int) ≥ 0)))) := by
    intro _
    unfold strings_IndexByte_q
    intro _ h1 h2
    rw [h1, h2] at hk
    exact hk
  unfold lex_part_q
  refine fun _ => letter_c x _ fun _ => IfB.intro (fun h1 => ?_) (fun h1 => IfB.intro (fun h2 => IfB.intro (fun h3 => ?_) (fun h3 => ?_)) (fun h2 => ?_))
  · rw [h1] at hk; exact hk
  · rw [h1, h2, h3] at hk; exact hk
  · intro h4
    have h5 := hi h4
    unfold strings_IndexByte_q at h5 ⊢
    exact fun w => h5 w h1 (by rw [h2, h3]; rfl)
  · intro h4
    have h5 := hi h4
    unfold strings_IndexByte_q at h5 ⊢
    exact fun w => h5 w h1 (by rw [h2]; rfl)
theorem sign_i (x : UInt8) : decide (Lib.indexByte [123, 125, 40, 41, 59] (x.toNat : Int).toNat.toUInt8 ≥ 0) = isSign x := by
  revert x; exact all256 (by decide +kernel)
theorem may_c (x : UInt8) (K : Bool → Prop) (hk : K (isMay x)) : lex_may_q (x.toNat : Int) K := by
  have hb : ∀ x : UInt8, ((x.toNat : Int) == 9) = (x == 9) := all256 (by decide +kernel)
  unfold isMay at hk
  unfold lex_may_q
  refine IfB.intro (fun h1 => IfB.intro (fun h2 => ?_) (fun h2 => of_eq hk ?_)) (fun h1 => of_eq hk ?_)
  · simp at h1 h2
    rw [decide_eq_true (show 32 ≤ x.toNat by omega), decide_eq_true (show x.toNat ≤ 126 by omega)] at hk; exact hk
  · simp at h2
    rw [decide_eq_false (show ¬ x.toNat ≤ 126 by omega), Bool.and_false, Bool.false_or, hb]
  · simp at h1
    rw [decide_eq_false (show ¬ 32 ≤ x.toNat by omega), Bool.false_and, Bool.false_or, hb]

theorem lwhole_c (s : List UInt8) (m : Nat) (K : Int → Bool → Prop) (hm : m < 9223372036854775808) (hl : s.length ≤ 281474976710656) (h1 : isNum m s = true → K (val s) true) (h2 : isNum m s = false → ∀ v : Int, K v false) : lex_whole_q s m K := by
  have hN : (∀ v, Lib.atoiAll s ≠ .ok v) → isNum m s = false := fun h => by
    cases ho : isNum m s with
    | false => rfl
    | true => exact absurd (atoi_num hm ho) (h _)
  unfold lex_whole_q
  intro _
  unfold strconv_Atoi_q
  refine ⟨hl, fun _ => ?_⟩
  cases ha : Lib.atoiAll s with
  | ok v =>
    simp only [atoiR, ha]
    have hV : v ≠ (val s : Int) → isNum m s = false := fun hne => by
      cases ho : isNum m s with
      | false => rfl
      | true => rw [atoi_num hm ho] at ha; injection ha with ha; exact absurd ha.symm hne
    refine ifT rfl (IfB.intro (fun h => IfB.intro (fun h3 => ?_) (fun h3 => ?_)) (fun h => ?_))
    · have h0 : 0 ≤ v := by simpa using h
      have h3' : v ≤ m := by simpa using h3
      intro _
      unfold strconv_Itoa_q
      intro _
      by_cases e : Lib.itoa v = s
      · obtain ⟨h5, h6⟩ := itoa_num h0 e
        have := h1 (isNum_iff.2 ⟨by omega, h6⟩)
        rw [e, ← h5] at *
        simpa using this
      · have e2 : (Lib.itoa v == s) = false := beq_eq_false_iff_ne.2 e
        rw [e2]
        refine h2 ?_ v
        cases ho : isNum m s with
        | false => rfl
        | true =>
          rw [atoi_num hm ho] at ha
          injection ha with ha
          subst ha
          rw [itoa_nat, (isNum_iff.1 ho).2] at e
          exact absurd rfl e
    · refine h2 ?_ v
      cases ho : isNum m s with
      | false => rfl
      | true =>
        have := isNum_iff.1 ho
        rw [atoi_num hm ho] at ha; injection ha with ha
        simp at h3; omega
    · exact h2 (hV (by simp at h; omega)) v
  | range =>
    simp only [atoiR, ha]
    exact ifF rfl (h2 (hN fun v e => by rw [ha] at e; cases e) _)
  | _ =>
    simp only [atoiR, ha]
    exact ifF rfl (h2 (hN fun v e => by rw [ha] at e; cases e) _)

theorem or16 (a b : Nat) (hb : b < 65536) (ha : a < 65536) : bitsOr .i64 ((a : Int) * 65536) (b : Int) = ((65536 * a + b : Nat) : Int) := by
  rw [show ((a : Int) * 65536) = ((a * 65536 : Nat) : Int) by omega, or_nat .i64 _ _ (lt_i64 (by omega)) (lt_i64 (by omega)), or_65536 _ _ hb, wi64n _ (by omega)]
  omega
theorem comm_cut {p q : List UInt8} (hp : 58 ∉ p) : comm (p ++ 58 :: q) = if isNum 65535 p = true ∧ isNum 65535 q = true then some (65536 * val p + val q) else none := by
  unfold comm
  rw [spl_cut hp]
  by_cases hq : 58 ∈ q
  · have hn : ¬ (isNum 65535 p = true ∧ isNum 65535 q = true) := fun h => isNum_no h.2 (.inr (by decide)) hq
    rw [if_neg hn]
    obtain ⟨u, v, rfl, hu⟩ := mem_cut hq
    rw [spl_cut hu]
    have : spl 58 v ≠ [] := by unfold spl; simp
    cases hv : spl 58 v with
    | nil => exact absurd hv this
    | cons => rfl
  · rw [spl_free hq]
theorem halves_c (s : List UInt8) (K : Int → Bool → Prop) (hl : s.length ≤ 1000000) (hm : 58 ∈ s) (h1 : ∀ n, comm s = some n → K (n : Int) true) (h2 : comm s = none → ∀ v : Int, K v false) : lex_halves_q s K := by
  obtain ⟨p, q, rfl, hp⟩ := mem_cut hm
  rw [comm_cut hp] at h1 h2
  simp only [List.length_append, List.length_cons] at hl
  unfold lex_halves_q
  intro _
  unfold strings_Cut_q
  refine ⟨by simp only [List.length_append, List.length_cons]; omega, ?_⟩
  rw [cut_at hp]
  refine fun _ _ => lwhole_c p 65535 _ (by decide) (by omega) (fun hA _ _ => lwhole_c q 65535 _ (by decide) (by omega) (fun hB _ => ⟨by decide, ifT rfl ?_⟩) (fun hB v _ => ⟨by decide, ifT rfl (h2 (if_neg fun h => ?_) _)⟩)) (fun hA v _ _ => ?_)
  · have ha := (isNum_iff.1 hA).1
    have hb := (isNum_iff.1 hB).1
    rw [show ((val p : Nat) : Int) * 65536 = ((val p * 65536 : Nat) : Int) by omega, wi64n _ (by omega), show ((val p * 65536 : Nat) : Int) = ((val p : Nat) : Int) * 65536 by omega, or16 _ _ (by omega) (by omega)]
    exact h1 _ (if_pos ⟨hA, hB⟩)
  · rw [hB] at h; exact absurd h.2 (by decide)
  · have hn := h2 (if_neg fun h => by rw [hA] at h; exact absurd h.1 (by decide))
    exact lwhole_c q 65535 _ (by decide) (by omega) (fun _ _ => ⟨by decide, ifF rfl (hn _)⟩) (fun _ _ _ => ⟨by decide, ifF rfl (hn _)⟩)

theorem dropWhile_nil {p : UInt8 → Bool} {l : List UInt8} : l.dropWhile p = [] ↔ ∀ x ∈ l, p x = true := by
  induction l with
  | nil => simp
  | cons y l ih =>
    rw [List.dropWhile_cons]
    split
    · rename_i h; simp [ih, h]
    · rename_i h; simp [h]
theorem trim_nil (s t : List UInt8) : (Lib.trimS s t == []) = s.all (fun x => t.contains x) := by
  have h : Lib.trimS s t = [] ↔ s.all (fun x => t.contains x) = true := by
    unfold Lib.trimS Lib.trimLeftS Lib.trimRightS
    rw [dropWhile_nil]
    constructor
    · intro h
      rw [List.all_eq_true]
      intro x hx
      have hdw : ∀ (l : List UInt8), (∀ x ∈ (l.dropWhile (t.contains ·)), t.contains x = true) → ∀ x ∈ l, t.contains x = true := by
        intro l
        induction l with
        | nil => intro _ x hx; simp at hx
        | cons y l ih =>
          intro h2 x hx
          rw [List.dropWhile_cons] at h2
          split at h2
          · rename_i hy
            rcases List.mem_cons.1 hx with rfl | hx
            · exact hy
            · exact ih h2 x hx
          · exact h2 x hx
      exact hdw s.reverse (fun x hx => h x (List.mem_reverse.2 hx)) x (List.mem_reverse.2 hx)
    · intro h x hx
      rw [List.all_eq_true] at h
      have hsub : ∀ (l : List UInt8), ∀ x ∈ l.dropWhile (t.contains ·), x ∈ l := fun l x hx => (List.dropWhile_sublist (l := l) _).mem hx
      exact h x (List.mem_reverse.1 (hsub _ _ (List.mem_reverse.1 hx)))
  cases hb : s.all (fun x => t.contains x) with
  | true => rw [h.2 hb]; rfl
  | false =>
    refine beq_eq_false_iff_ne.2 fun e => ?_
    rw [h.1 e] at hb; cases hb
theorem digs (x : UInt8) : ([48, 49, 50, 51, 52, 53, 54, 55, 56, 57] : List UInt8).contains x = isDig x := by
  revert x; exact all256 (by decide +kernel)
theorem digs46 (x : UInt8) : ([48, 49, 50, 51, 52, 53, 54, 55, 56, 57, 46] : List UInt8).contains x = (isDig x || x == 46) := by
  revert x; exact all256 (by decide +kernel)

theorem read_c (s : List UInt8) (K : Tok → Bool → Prop) (hl : s.length ≤ 100000) (h1 : ∀ t, word s = some t → K t true) (h2 : word s = none → ∀ t, K t false) : lex_read_q s K := by
  unfold lex_read_q
  have e1 := trim_nil s [48, 49, 50, 51, 52, 53, 54, 55, 56, 57]
  have e2 := trim_nil s [48, 49, 50, 51, 52, 53, 54, 55, 56, 57, 46]
  simp only [digs] at e1
  simp only [digs46] at e2
  unfold word at h1 h2
  intro _
  unfold strings_Trim_q
  refine ⟨by decide, by decide, fun _ => ?_⟩
  rw [e1]
  refine IfB.intro (fun ha => ?_) (fun ha => ?_)
  · simp only [ha, if_true] at h1 h2
    unfold lex_read_j0
    refine fun _ => lwhole_c s 4294967295 _ (by decide) (by omega) (fun hA _ => ?_) (fun hA v _ => ?_)
    · exact h1 _ (if_pos hA)
    · exact h2 (if_neg (by rw [hA]; decide)) _
  simp only [ha, Bool.false_eq_true, if_false] at h1 h2
  intro _
  unfold strings_Contains_q
  refine ⟨by omega, fun _ => ?_⟩
  rw [contains_mem]
  refine IfB.intro (fun hb => ?_) (fun hb => ?_)
  · have hb := of_decide_eq_true hb
    rw [if_pos hb] at h1 h2
    unfold lex_read_j0
    refine fun _ => pfx_c s _ (by omega) (fun a n hp _ => ?_) (fun hp _ => ?_)
    · rw [hp] at h1
      refine of_eq2 (h1 _ rfl) ?_
      simp only [ofI_u32]
    · rw [hp] at h2
      exact h2 rfl _
  have hb := of_decide_eq_false hb
  rw [if_neg hb] at h1 h2
  intro _
  refine ⟨by omega, fun _ => ?_⟩
  rw [contains_mem]
  refine IfB.intro (fun hc => ?_) (fun hc => ?_)
  · have hc := of_decide_eq_true hc
    rw [if_pos hc] at h1 h2
    unfold lex_read_j0
    refine fun _ => halves_c s _ (by omega) hc (fun n hn _ => ?_) (fun hn v _ => ?_)
    · rw [hn] at h1
      exact h1 _ rfl
    · rw [hn] at h2
      exact h2 rfl _
  have hc := of_decide_eq_false hc
  rw [if_neg hc] at h1 h2
  intro _
  refine ⟨by decide, by decide, fun _ => ?_⟩
  rw [e2]
  refine IfB.intro (fun hd => ?_) (fun hd => ?_)
  · simp only [hd, if_true] at h1 h2
    unfold lex_read_j0
    refine fun _ => parse_c s _ (by omega) fun _ => ?_
    have hlt := prs_lt s
    rw [wi64n _ (by omega)]
    by_cases h0 : (prs s).2 = 0
    · rw [h0]; exact h1 _ (if_pos h0)
    · rw [show ((prs s).2 == 0) = false from beq_eq_false_iff_ne.2 h0]
      exact h2 (if_neg h0) _
  simp only [hd, Bool.false_eq_true, if_false] at h1 h2
  cases s with
  | nil => simp at ha
  | cons x r =>
    simp only [List.head?_cons, Option.any_some] at h1 h2
    have hno : ¬ (isLet x = true ∧ 46 ∉ (x :: r) ∧ (x :: r).length ≤ 32) → lex_read_j0 (x :: r) 1 0 0 0 false K := fun hn => h2 (if_neg hn) _
    refine ⟨by decide, AtN.of rfl fun _ => letter_c x _ fun _ => IfB.intro (fun hx => IfB.intro (fun h32 => ?_) (fun h32 => hno fun hn => ?_)) (fun hx => hno fun hn => ?_)⟩
    · intro _
      refine ⟨by omega, fun _ => ?_⟩
      rw [contains_mem]
      by_cases h46 : 46 ∈ (x :: r)
      · rw [decide_eq_true h46]
        exact hno fun hn => hn.2.1 h46
      · rw [decide_eq_false h46]
        exact h1 _ (if_pos ⟨hx, h46, by simp at h32 ⊢; omega⟩)
    · simp at h32 hn; omega
    · rw [hn.1] at hx; cases hx

end Go.Proofs.YtcnbolonnlmlgaaDoor

set_option linter.unusedSectionVars false
set_option linter.unusedSimpArgs false
set_option linter.unusedVariables false
namespace Go.Proofs.YtcnbolonnlmlgaaDoor
open Go.Sh

theorem num_canon {n : Nat} {s : List UInt8} {k : Nat} (hk : n < 10 ^ (k + 1)) : isNum n s = true ↔ canon s ∧ s.length ≤ k + 1 ∧ val s ≤ n :=
  ⟨fun h => ⟨(isNum_canon.1 h).2, isNum_len h hk, (isNum_canon.1 h).1⟩, fun h => isNum_canon.2 ⟨h.2.2, h.1⟩⟩
theorem val_lt {s : List UInt8} (h : canon s) : val s < 10 ^ s.length := by
  have : ∀ (s : List UInt8), (∀ x ∈ s, 48 ≤ x.toNat ∧ x.toNat ≤ 57) → ∀ a, s.foldl valF a < (a + 1) * 10 ^ s.length := by
    intro s
    induction s with
    | nil => intro _ a; simp
    | cons x s ih =>
      intro hd a
      have hx := hd x (by simp)
      have h1 := ih (fun y hy => hd y (by simp [hy])) (valF a x)
      simp only [List.foldl_cons, List.length_cons, Nat.pow_succ]
      have h2 : (valF a x + 1) * 10 ^ s.length ≤ ((a + 1) * 10) * 10 ^ s.length := Nat.mul_le_mul_right _ (by unfold valF; omega)
      have h3 : (a + 1) * 10 * 10 ^ s.length = (a + 1) * (10 ^ s.length * 10) := by rw [Nat.mul_assoc, Nat.mul_comm 10]
      omega
  have := this s h.2.1 0
  simpa [val] using this

/-! ### A text, split -/
def notLf (x : UInt8) : Bool := !(x == 10)
def setLine (t : Tok) (line : Int) : Tok := (t.1, t.2.1, t.2.2.1, t.2.2.2.1, t.2.2.2.2.1, line)
abbrev LexR := List Tok × Int × Int
def pushT (l : List Tok) (line : Int) (k : List Tok → LexR) (t : Tok) : LexR := if l.length = 4096 then ([], line, 3) else k (l ++ [setLine t line])
def lexF : Nat → List UInt8 → Int → List Tok → LexR
  | 0, _, line, _ => ([], line, 240)
  | _ + 1, [], _, l => (l, 0, 0)
  | f + 1, c :: r, line, l =>
    if c = 10 then lexF f r (line + 1) l
    else if c = 32 ∨ c = 9 then lexF f r line l
    else if c = 35 then (if ((c :: r).takeWhile notLf).all isMay = true then lexF f (r.dropWhile notLf) line l else ([], line, 240))
    else if isSign c = true then pushT l line (lexF f r line) (6, [c], 0, 0, 0, 0)
    else if isPart c = true then (match word ((c :: r).takeWhile isPart) with
      | some t => pushT l line (lexF f (r.dropWhile isPart) line) t
      | none => ([], line, 240))
    else ([], line, 240)
theorem dw_len {p : UInt8 → Bool} : ∀ l : List UInt8, (l.dropWhile p).length ≤ l.length
  | [] => by simp
  | x :: l => by
    rw [List.dropWhile_cons]
    split
    · have := dw_len (p := p) l
      simp; omega
    · exact Nat.le_refl _
theorem lexF_more : ∀ (f : Nat) (s : List UInt8) (line : Int) (l : List Tok) (g : Nat), s.length < f → s.length < g → lexF f s line l = lexF g s line l := by
  intro f
  induction f with
  | zero => intro s line l g h; omega
  | succ f ih =>
    intro s line l g hf hg
    cases g with
    | zero => omega
    | succ g =>
      cases s with
      | nil => rfl
      | cons c r =>
        simp only [List.length_cons] at hf hg
        have hr := fun line l => ih r line l g (by omega) (by omega)
        have hd := fun (p : UInt8 → Bool) line l => ih (r.dropWhile p) line l g (by have := dw_len (p := p) r; omega) (by have := dw_len (p := p) r; omega)
        simp only [lexF, pushT, hr, hd]
def lex (s : List UInt8) (line : Int) (l : List Tok) : LexR := lexF (s.length + 1) s line l
theorem lex_nil (line : Int) (l : List Tok) : lex [] line l = (l, 0, 0) := rfl
theorem lex_cons (c : UInt8) (r : List UInt8) (line : Int) (l : List Tok) : lex (c :: r) line l =
    if c = 10 then lex r (line + 1) l
    else if c = 32 ∨ c = 9 then lex r line l
    else if c = 35 then (if ((c :: r).takeWhile notLf).all isMay = true then lex (r.dropWhile notLf) line l else ([], line, 240))
    else if isSign c = true then pushT l line (lex r line) (6, [c], 0, 0, 0, 0)
    else if isPart c = true then (match word ((c :: r).takeWhile isPart) with
      | some t => pushT l line (lex (r.dropWhile isPart) line) t
      | none => ([], line, 240))
    else ([], line, 240) := by
  have hr := fun line l => lexF_more (r.length + 1) r line l (r.length + 1) (by omega) (by omega)
  have hd := fun (p : UInt8 → Bool) line l => lexF_more (r.length + 1) (r.dropWhile p) line l ((r.dropWhile p).length + 1) (by have := dw_len (p := p) r; omega) (by omega)
  simp only [lex, List.length_cons, lexF, pushT, hd]

end Go.Proofs.YtcnbolonnlmlgaaDoor

set_option linter.unusedSectionVars false
set_option linter.unusedSimpArgs false
set_option linter.unusedVariables false
namespace Go.Proofs.YtcnbolonnlmlgaaDoor
open Go.Sh

theorem LoopJ_inv {T : Type} {x0 : T} {body : T → (T → Prop) → Prop} (I : Nat → T → Prop) (k0 : Nat) (h0 : I k0 x0) (hr : ∀ k y, I k y → ∀ next : T → Prop, (∀ k' y', k' < k → I k' y' → next y') → body y next) : LoopJ T x0 body :=
  ⟨I, k0, h0, fun k y h => hr k y h _ fun k' y' hlt h' => ⟨k', hlt, h'⟩⟩
theorem drop_at {text : List UInt8} {j : Nat} {x : UInt8} {r : List UInt8} (h : text.drop j = x :: r) : text[j]? = some x ∧ text.drop (j + 1) = r ∧ j < text.length := by
  have h1 : text[j]? = some x := by
    have : (text.drop j)[0]? = some x := by rw [h]; rfl
    rwa [List.getElem?_drop] at this
  refine ⟨h1, ?_, ?_⟩
  · have := congrArg (List.drop 1) h
    rw [List.drop_drop] at this
    exact this
  · rcases Nat.lt_or_ge j text.length with h2 | h2
    · exact h2
    · rw [List.getElem?_eq_none h2] at h1; cases h1
theorem drop_or (text : List UInt8) (j : Nat) (hj : j ≤ text.length) : (j = text.length ∧ text.drop j = []) ∨ ∃ x r, text.drop j = x :: r ∧ text[((j : Nat) : Int).toNat]? = some x ∧ text.drop (j + 1) = r ∧ j < text.length := by
  cases h : text.drop j with
  | nil =>
    have := congrArg List.length h
    simp at this
    exact .inl ⟨by omega, rfl⟩
  | cons x r =>
    obtain ⟨h1, h2, h3⟩ := drop_at h
    exact .inr ⟨x, r, rfl, h1, h2, h3⟩
theorem eqI {x n : UInt8} {m : Int} (hm : (n.toNat : Int) = m) : ((x.toNat : Int) == m) = (x == n) := by
  subst hm
  by_cases e : x = n
  · subst e; simp
  · rw [beq_eq_false_iff_ne.2 e]
    exact beq_eq_false_iff_ne.2 fun h => e (UInt8.toNat_inj.1 (by omega))
theorem u8_of {x n : UInt8} {m : Int} (h : ((x.toNat : Int) == m) = true) (hm : (n.toNat : Int) = m) : x = n := by
  rw [eqI hm] at h; exact eq_of_beq h
theorem u8_ofn {x n : UInt8} {m : Int} (h : ((x.toNat : Int) != m) = false) (hm : (n.toNat : Int) = m) : x = n := by
  refine u8_of (m := m) ?_ hm
  simpa using h
theorem take_drop_succ {text : List UInt8} {a e : Nat} {x : UInt8} (h : text[e]? = some x) (ha : a ≤ e) : (text.take (e + 1)).drop a = (text.take e).drop a ++ [x] := by
  have hl : e < text.length := (List.getElem?_eq_some_iff.1 h).1
  rw [List.take_add_one, h]
  rw [List.drop_append_of_le_length (by rw [List.length_take]; omega)]
  rfl

theorem Split_c (text : List UInt8) (K : List Tok → Int → Int → Prop) (hk : text.length ≤ 65536 → K (lex text 1 []).1 (lex text 1 []).2.1 (lex text 1 []).2.2) (hlong : 65536 < text.length → K [] 0 3) : lex_Split_q text K := by
  unfold lex_Split_q
  refine IfB.intro (fun h => hlong (by simp at h; omega)) (fun h => ?_)
  have hlen : text.length ≤ 65536 := by simp at h; omega
  replace hk := hk hlen
  generalize hR0 : lex text 1 [] = R at hk
  refine LoopJ_inv (fun k y => ∃ (l : List Tok) (line e c0 : Int) (c1 : List UInt8) (c2 c3 c4 c5 : Int) (j : Nat), y = (l, (j : Int), line, e, c0, c1, c2, c3, c4, c5, ()) ∧ j ≤ text.length ∧ k = text.length - j ∧ l.length ≤ 4096 ∧ 1 ≤ line ∧ line ≤ j + 1 ∧ lex (text.drop j) line l = R) text.length ⟨[], 1, 0, 0, [], 0, 0, 0, 0, 0, rfl, by omega, by omega, by simp, by decide, by decide, hR0⟩ ?_
  rintro k y ⟨l, line, e, c0, c1, c2, c3, c4, c5, j, rfl, hj, rfl, hl, hl1, hl2, hR⟩ next hnx
  intro _
  dsimp only [lex_Split_l2000000]
  have go : ∀ (l' : List Tok) (line' e' d0 : Int) (d1 : List UInt8) (d2 d3 d4 d5 : Int) (i : Nat), j < i → i ≤ text.length → l'.length ≤ 4096 → 1 ≤ line' → line' ≤ i + 1 → lex (text.drop i) line' l' = R → next (l', (i : Int), line', e', d0, d1, d2, d3, d4, d5, ()) := by
    intro l' line' e' d0 d1 d2 d3 d4 d5 i h1 h2 h3 h4 h5 h6
    exact hnx (text.length - i) _ (by omega) ⟨l', line', e', d0, d1, d2, d3, d4, d5, i, rfl, h2, rfl, h3, h4, h5, h6⟩
  have w1 : ∀ i : Nat, i < text.length → IntKind.wrap .i64 ((i : Int) + 1) = ((i + 1 : Nat) : Int) := fun i hi => by rw [wr_i64 (by omega) (by omega)]; omega
  rcases drop_or text j hj with ⟨he, hd⟩ | ⟨c, r, hd, hat, hdr, hlt⟩
  · refine ifT (by simp [he]) ?_
    rw [hd, lex_nil] at hR
    subst hR; exact hk
  refine ifF (by simp; omega) ⟨by omega, AtN.of hat ?_⟩
  rw [hd, lex_cons] at hR
  refine IfB.intro (fun h10 => ?_) (fun h10 => ?_)
  · have h10 : c = 10 := u8_of h10 rfl
    rw [if_pos h10] at hR
    rw [w1 j hlt, wr_i64 (n := line + 1) (by omega) (by omega)]
    exact go l (line + 1) e c0 c1 c2 c3 c4 c5 (j + 1) (by omega) (by omega) hl (by omega) (by omega) (by rw [hdr]; exact hR)
  have h10 : c ≠ 10 := fun e => by subst e; simp at h10
  rw [if_neg h10] at hR
  have blank : (c = 32 ∨ c = 9) → next (l, (IntKind.wrap .i64 ((j : Int) + 1)), line, e, c0, c1, c2, c3, c4, c5, ()) := fun hb => by
    rw [if_pos hb] at hR
    rw [w1 j hlt]
    exact go _ _ _ _ _ _ _ _ _ (j + 1) (by omega) (by omega) hl (by omega) (by omega) (by rw [hdr]; exact hR)
  refine IfB.intro (fun h32 => ?_) (fun h32 => ?_)
  · exact ifT rfl (blank (.inl (u8_of h32 rfl)))
  have h32 : c ≠ 32 := fun e => by subst e; simp at h32
  unfold lex_Split_j0
  refine IfB.intro (fun h9 => ?_) (fun h9 => ?_)
  · exact blank (.inr (u8_of h9 rfl))
  have h9 : c ≠ 9 := fun e => by subst e; simp at h9
  rw [if_neg (by rintro (h | h); exact h32 h; exact h9 h)] at hR
  refine IfB.intro (fun h35 => ?_) (fun h35 => ?_)
  · -- a remark
    have h35 : c = 35 := u8_of h35 rfl
    rw [if_pos h35] at hR
    have hcn : notLf c = true := by rw [h35]; rfl
    have hdw : r.dropWhile notLf = (text.drop j).dropWhile notLf := by rw [hd, List.dropWhile_cons, if_pos hcn]
    rw [hdw, ← hd] at hR
    refine LoopJ_inv (fun k' y' => ∃ i : Nat, y' = ((i : Int), ()) ∧ j ≤ i ∧ i ≤ text.length ∧ k' = text.length - i ∧ (text.drop i).dropWhile notLf = (text.drop j).dropWhile notLf ∧ ((text.drop i).takeWhile notLf).all isMay = ((text.drop j).takeWhile notLf).all isMay) (text.length - j) ⟨j, rfl, by omega, hj, rfl, rfl, rfl⟩ ?_
    rintro k' y' ⟨i, rfl, hi1, hi2, rfl, hi3, hi4⟩ nx hx0
    intro _
    dsimp only [lex_Split_l16]
    have leave : (text.drop i).takeWhile notLf = [] → (text.drop i).dropWhile notLf = text.drop i → next (l, (i : Int), line, e, c0, c1, c2, c3, c4, c5, ()) := fun h1 h2 => by
      rw [← hi4, h1, ← hi3, h2] at hR
      simp only [List.all_nil, if_true] at hR
      refine go _ _ _ _ _ _ _ _ _ i ?_ hi2 hl hl1 (by omega) hR
      rcases Nat.lt_or_ge j i with h | h
      · exact h
      · obtain rfl : i = j := by omega
        rw [hd, List.takeWhile_cons, if_pos hcn] at h1; cases h1
    rcases drop_or text i hi2 with ⟨he, hdi⟩ | ⟨x, u, hdi, hxi, hui, hilt⟩
    · refine ifF (decide_eq_false (by omega)) ?_
      exact ifF rfl (leave (by rw [hdi]; rfl) (by rw [hdi]; rfl))
    · refine ifT (decide_eq_true (by omega)) ⟨by omega, AtN.of hxi ?_⟩
      unfold lex_Split_j1
      refine IfB.intro (fun hx => ?_) (fun hx => leave ?_ ?_)
      · have hx : x ≠ 10 := fun e => by subst e; simp at hx
        have hxn : notLf x = true := by unfold notLf; rw [beq_eq_false_iff_ne.2 hx]; rfl
        refine ⟨by omega, AtN.of hxi fun _ => may_c x _ fun _ => IfB.intro (fun hm => ?_) (fun hm => ?_)⟩
        · have hm : isMay x = false := by simpa using hm
          have : ((text.drop j).takeWhile notLf).all isMay = false := by rw [← hi4, hdi, List.takeWhile_cons, if_pos hxn, List.all_cons, hm, Bool.false_and]
          rw [this] at hR
          unfold lex_Split_j2
          subst hR; exact hk
        · have hm : isMay x = true := by simpa using hm
          rw [w1 i hilt]
          refine hx0 (text.length - (i + 1)) _ (by omega) ⟨i + 1, rfl, by omega, by omega, rfl, ?_, ?_⟩
          · rw [hui, ← hi3, hdi, List.dropWhile_cons, if_pos hxn]
          · rw [hui, ← hi4, hdi, List.takeWhile_cons, if_pos hxn, List.all_cons, hm, Bool.true_and]
      · have hx : x = 10 := u8_ofn hx rfl
        rw [hdi, hx]; rfl
      · have hx : x = 10 := u8_ofn hx rfl
        rw [hdi, hx]; rfl
  have h35 : c ≠ 35 := fun e => by subst e; simp at h35
  rw [if_neg h35] at hR
  intro _
  unfold strings_IndexByte_q
  intro _
  rw [sign_i]
  have push : ∀ (t : Tok) (i : Nat), j < i → i ≤ text.length → pushT l line (lex (text.drop i) line) t = R → ∀ (e' : Int) (d1 : Unit), IfB (((l.length : Int) : Int) == 4096) (K [] line 3) (l.length + ([(t.1, t.2.1, t.2.2.1, t.2.2.2.1, t.2.2.2.2.1, line)] : List Tok).length ≤ 2513169434820 ∧ ∀ d0 d1 d2 d3 d4 d5, next (l ++ [(t.1, t.2.1, t.2.2.1, t.2.2.2.1, t.2.2.2.2.1, line)], (i : Int), line, e', d0, d1, d2, d3, d4, d5, ())) := by
    intro t i h1 h2 h3 e' _
    unfold pushT at h3
    refine IfB.intro (fun h => ?_) (fun h => ⟨?_, fun d0 d1 d2 d3 d4 d5 => ?_⟩)
    · rw [if_pos (by simp at h; omega)] at h3
      subst h3; exact hk
    · simp only [List.length_singleton]; omega
    · rw [if_neg (by simp at h; omega)] at h3
      refine go _ _ _ _ _ _ _ _ _ i h1 h2 ?_ hl1 (by omega) h3
      rw [List.length_append, List.length_singleton]
      simp at h; omega
  refine IfB.intro (fun hs => ?_) (fun hs => ?_)
  · rw [if_pos hs, ← hdr] at hR
    rw [w1 j hlt]
    refine ⟨by omega, by omega, by omega, by omega, ?_⟩
    unfold lex_Split_j3 lex_Split_j4
    have ew : (text.take (((j + 1 : Nat) : Int).toNat)).drop ((j : Int).toNat) = [c] := by
      rw [Int.toNat_natCast, Int.toNat_natCast, take_drop_succ (by simpa using hat) (Nat.le_refl _)]
      simp
    rw [ew]
    refine ifF rfl ((push _ (j + 1) (by omega) (by omega) hR _ ()).mono (fun h => h) fun h => ⟨h.1, h.2 _ _ _ _ _ _⟩)
  rw [if_neg (by rw [hs]; decide)] at hR
  refine fun _ => part_c c _ fun _ => IfB.intro (fun hp => ?_) (fun hp => ?_)
  · rw [if_pos hp] at hR
    have hdw : r.dropWhile isPart = (text.drop j).dropWhile isPart := by rw [hd, List.dropWhile_cons, if_pos hp]
    rw [hdw, ← hd] at hR
    refine LoopJ_inv (fun k' y' => ∃ i : Nat, y' = ((i : Int), ()) ∧ j ≤ i ∧ i ≤ text.length ∧ k' = text.length - i ∧ (text.drop i).dropWhile isPart = (text.drop j).dropWhile isPart ∧ (text.take i).drop j ++ (text.drop i).takeWhile isPart = (text.drop j).takeWhile isPart) (text.length - j) ⟨j, rfl, by omega, hj, rfl, rfl, by simp⟩ ?_
    rintro k' y' ⟨i, rfl, hi1, hi2, rfl, hi3, hi4⟩ nx hx0
    intro _
    dsimp only [lex_Split_l23]
    have leave : (text.drop i).takeWhile isPart = [] → (text.drop i).dropWhile isPart = text.drop i → lex_Split_j5 text l c0 c1 c2 c3 c4 c5 (j : Int) line (i : Int) next nx false K := fun h1 h2 => by
      rw [h1, List.append_nil] at hi4
      rw [← hi4, ← hi3, h2] at hR
      have hji : j < i := by
        rcases Nat.lt_or_ge j i with h | h
        · exact h
        · obtain rfl : i = j := by omega
          rw [hd, List.takeWhile_cons, if_pos hp] at h1; cases h1
      unfold lex_Split_j5
      refine ifF rfl ⟨by omega, by omega, by omega, by omega, ?_⟩
      rw [Int.toNat_natCast, Int.toNat_natCast]
      generalize (text.take i).drop j = w at hR hi4 ⊢
      have hwl : w.length ≤ 100000 := by
        rw [hi4]
        have := (List.takeWhile_sublist (l := text.drop j) isPart).length_le
        simp at this; omega
      refine fun _ => read_c w _ hwl (fun t ht _ => ?_) (fun hw t _ => ?_)
      · rw [ht] at hR
        unfold lex_Split_j3 lex_Split_j4
        refine ifF rfl ?_
        simp only [ofI_u32]
        exact (push t i hji hi2 hR _ ()).mono (fun h => h) fun h => ⟨h.1, h.2 _ _ _ _ _ _⟩
      · rw [hw] at hR
        unfold lex_Split_j3 lex_Split_j4 lex_Split_j2
        subst hR
        exact ifT rfl hk
    rcases drop_or text i hi2 with ⟨he, hdi⟩ | ⟨x, u, hdi, hxi, hui, hilt⟩
    · refine ifF (decide_eq_false (by omega)) ?_
      exact leave (by rw [hdi]; rfl) (by rw [hdi]; rfl)
    · refine ifT (decide_eq_true (by omega)) ⟨by omega, AtN.of hxi fun _ => part_c x _ fun _ => ?_⟩
      cases hx : isPart x with
      | false => exact leave (by rw [hdi, List.takeWhile_cons, hx]; rfl) (by rw [hdi, List.dropWhile_cons, hx]; rfl)
      | true =>
        unfold lex_Split_j5
        refine ifT rfl ?_
        rw [w1 i hilt]
        refine hx0 (text.length - (i + 1)) _ (by omega) ⟨i + 1, rfl, by omega, by omega, rfl, ?_, ?_⟩
        · rw [hui, ← hi3, hdi, List.dropWhile_cons, if_pos hx]
        · rw [hui, take_drop_succ (by simpa using hxi) hi1, ← hi4, hdi, List.takeWhile_cons, if_pos hx]
          simp
  · rw [if_neg (by rw [hp]; decide)] at hR
    unfold lex_Split_j3 lex_Split_j4
    subst hR
    exact ifT rfl hk

end Go.Proofs.YtcnbolonnlmlgaaDoor

set_option linter.unusedSectionVars false
set_option linter.unusedSimpArgs false
set_option linter.unusedVariables false
namespace Go.Proofs.YtcnbolonnlmlgaaDoor
open Go.Sh

end Go.Proofs.YtcnbolonnlmlgaaDoor

set_option linter.unusedSectionVars false
set_option linter.unusedSimpArgs false
set_option linter.unusedVariables false
namespace Go.Proofs.YtcnbolonnlmlgaaDoor
open Go.Sh

def line0 (t : Tok) : Tok := setLine t 0
theorem tok_eq (x y : Tok) : ((x.1 == y.1) && ((x.2.1 == y.2.1) && ((x.2.2.1 == y.2.2.1) && ((((x.2.2.2.1.toNat : Int) == (y.2.2.2.1.toNat : Int)) && ((x.2.2.2.2.1 == y.2.2.2.2.1) && true)) && true)))) = true ↔ line0 x = line0 y := by
  obtain ⟨a, b, c, d, e, f⟩ := x
  obtain ⟨a', b', c', d', e', f'⟩ := y
  have hd : (((d.toNat : Int) == (d'.toNat : Int)) = true) ↔ d = d' := by
    constructor
    · intro h
      have h := eq_of_beq h
      exact UInt32.toNat_inj.1 (by omega)
    · rintro rfl; simp
  simp only [Bool.and_eq_true, beq_iff_eq, hd, line0, setLine, Prod.mk.injEq, and_true]
theorem same_c (a b : List Tok) (lines : Bool) (K : Bool → Prop) (hl : a.length ≤ 100000) (h : a.map line0 = b.map line0) (h2 : lines = true → a = b) (hk : K true) : law24_same_q a b lines K := by
  unfold law24_same_q
  have hlen : a.length = b.length := by have := congrArg List.length h; simpa using this
  refine IfB.intro (fun h3 => ?_) (fun _ => ?_)
  · rw [hlen] at h3; simp at h3
  refine LoopJ.over a (fun pre => ((pre.length : Int), ())) (fun _ => True) rfl trivial (fun pre x post hp hn _ next hx => ?_) (fun _ next => ?_)
  · intro _
    dsimp only [law24_same_l4]
    have hi : pre.length < b.length := by omega
    have hb : b[((pre.length : Nat) : Int).toNat]? = some b[pre.length] := by rw [Int.toNat_natCast]; exact List.getElem?_eq_getElem hi
    have hxy : line0 x = line0 b[pre.length] := by
      have h3 := congrArg (fun l => l[pre.length]?) h
      simp only [List.getElem?_map] at h3
      have ha : a[pre.length]? = some x := by rw [hp]; simp
      rw [ha, List.getElem?_eq_getElem hi] at h3
      simpa using h3
    have hxy2 : lines = true → x = b[pre.length] := fun hh => by
      have h3 := h2 hh
      have ha : a[pre.length]? = some x := by rw [hp]; simp
      subst h3
      rw [List.getElem?_eq_getElem hi] at ha
      injection ha with ha
      exact ha.symm
    have key : ∀ p q : Int, p = q → law24_same_j0 a b lines (pre.length : Int) x b[pre.length] next p q K := by
      rintro p _ rfl
      unfold law24_same_j0
      have h3 := (tok_eq x b[pre.length]).2 hxy
      simp only [Bool.and_eq_true, and_true] at h3
      refine ifF ?_ (of_eq (hx trivial) (by rw [wr_i64 (by omega) (by omega)]; simp))
      simp only [Bool.not_eq_false', Bool.and_eq_true, and_true, beq_self_eq_true]
      exact h3
    refine ifT (decide_eq_true (by omega)) ⟨by omega, AtN.of (at_pre hp) fun _ => ⟨by omega, AtN.of hb fun _ => IfB.intro (fun _ => key _ _ rfl) (fun h4 => key _ _ ?_)⟩⟩
    have h4 : lines = true := by simpa using h4
    rw [hxy2 h4]
  · intro _
    dsimp only [law24_same_l4]
    exact ifF (decide_eq_false (by omega)) hk

def exText : List UInt8 := [112, 101, 101, 114, 32, 97, 32, 49, 48, 46, 48, 46, 48, 46, 50, 59]
def exToks : List Tok := [(1, [112, 101, 101, 114], 0, 0, 0, 1), (1, [97], 0, 0, 0, 1), (3, [49, 48, 46, 48, 46, 48, 46, 50], 167772162, 0, 0, 1), (6, [59], 0, 0, 0, 1)]
theorem ex_lex : lex exText 1 [] = (exToks, 0, 0) := by kernel_rfl
theorem works_c (K : Bool → Prop) (hk : K true) : law24_works_q K := by
  unfold law24_works_q
  refine fun _ => Split_c exText _ (fun _ => ?_) (fun h => absurd h (by decide))
  rw [ex_lex]
  exact fun _ => ifT rfl fun _ => same_c _ _ _ _ (by decide) (by decide +kernel) (fun h => by cases h) fun _ => hk

theorem short_c (s : List UInt8) (K : List UInt8 → Prop) (hk : ∀ t, (t.length ≤ 600 ∨ 65536 < t.length) → t.length ≤ 65537 → K t) : law24_short_q s K := by
  unfold law24_short_q
  refine IfB.intro (fun h => ?_) (fun h => ?_)
  · have h : 65536 < s.length := by simp at h; omega
    exact ⟨by decide, by omega, hk _ (.inr (by rw [List.length_take]; omega)) (by rw [List.length_take]; omega)⟩
  · refine ⟨by omega, by omega, hk _ (.inl ?_) ?_⟩
    · rw [List.length_take]; omega
    · rw [List.length_take]; omega

/-- What is split has its bound, and the lines' numbers, where all is well, are 0. -/
theorem lex_len : ∀ (k : Nat) (s : List UInt8) (line : Int) (l : List Tok), s.length ≤ k → l.length ≤ 4096 → (lex s line l).1.length ≤ 4096 := by
  intro k
  induction k with
  | zero =>
    intro s line l h hl
    rw [show s = [] from List.eq_nil_of_length_eq_zero (by omega), lex_nil]; exact hl
  | succ k ih =>
    intro s line l h hl
    cases s with
    | nil => rw [lex_nil]; exact hl
    | cons c r =>
      simp only [List.length_cons] at h
      rw [lex_cons]
      have hr : ∀ (p : UInt8 → Bool), (r.dropWhile p).length ≤ k := fun p => by have := dw_len (p := p) r; omega
      have hp : ∀ (t : Tok) (u : List UInt8), u.length ≤ k → (pushT l line (lex u line) t).1.length ≤ 4096 := fun t u hu => by
        unfold pushT
        split
        · simp
        · refine ih _ _ _ hu ?_
          rw [List.length_append, List.length_singleton]; omega
      split
      · exact ih _ _ _ (by omega) hl
      split
      · exact ih _ _ _ (by omega) hl
      split
      · split
        · exact ih _ _ _ (hr _) hl
        · simp
      split
      · exact hp _ _ (by omega)
      split
      · split
        · exact hp _ _ (hr _)
        · simp
      · simp

/-! ### So many words -/
def semi : Tok := (6, [59], 0, 0, 0, 1)
theorem lex_semi : ∀ (k : Nat) (l : List Tok), l.length ≤ 4096 → lex (List.replicate k 59) 1 l = if l.length + k ≤ 4096 then (l ++ List.replicate k semi, 0, 0) else ([], 1, 3) := by
  intro k
  induction k with
  | zero => intro l h; rw [List.replicate_zero, lex_nil, if_pos (by omega)]; simp
  | succ k ih =>
    intro l h
    rw [List.replicate_succ, lex_cons, if_neg (by decide), if_neg (by decide), if_neg (by decide), if_pos (by decide)]
    unfold pushT
    by_cases e : l.length = 4096
    · rw [if_pos e, if_neg (by omega)]
    · rw [if_neg e, ih _ (by rw [List.length_append, List.length_singleton]; omega)]
      rw [List.length_append, List.length_singleton]
      by_cases e2 : l.length + 1 + k ≤ 4096
      · rw [if_pos e2, if_pos (by omega)]
        rw [List.replicate_succ]
        simp only [List.append_assoc, List.singleton_append]
        rfl
      · rw [if_neg e2, if_neg (by omega)]
end Go.Proofs.YtcnbolonnlmlgaaDoor

set_option linter.unusedSectionVars false
set_option linter.unusedSimpArgs false
set_option linter.unusedVariables false
namespace Go.Proofs.YtcnbolonnlmlgaaDoor
open Go.Sh

def blanks : List (List UInt8) := [[32], [10], [9, 32, 32], [32, 35, 32, 97, 32, 114, 101, 109, 97, 114, 107, 59, 32, 123, 10], [10, 10, 35, 10]]
def TokOk (t : Tok) : Prop := t.2.1.length ≤ 600 ∧ ((∃ c, isSign c = true ∧ line0 t = (6, [c], 0, 0, 0, 0)) ∨ (t.2.1 ≠ [] ∧ t.2.1.all isPart = true ∧ word t.2.1 = some (line0 t)))
theorem word_self {w : List UInt8} {t : Tok} (h : word w = some t) : line0 t = t ∧ t.2.1 = w := by
  unfold word at h
  split at h
  · split at h
    · cases h; exact ⟨rfl, rfl⟩
    · cases h
  split at h
  · split at h
    · cases h; exact ⟨rfl, rfl⟩
    · cases h
  split at h
  · split at h
    · cases h; exact ⟨rfl, rfl⟩
    · cases h
  split at h
  · split at h
    · cases h; exact ⟨rfl, rfl⟩
    · cases h
  split at h
  · cases h; exact ⟨rfl, rfl⟩
  · cases h
theorem tw_all {p : UInt8 → Bool} : ∀ l : List UInt8, (l.takeWhile p).all p = true
  | [] => rfl
  | x :: l => by
    rw [List.takeWhile_cons]
    split
    · rename_i h; rw [List.all_cons, h, tw_all l]; rfl
    · rfl
theorem tw_len {p : UInt8 → Bool} (l : List UInt8) : (l.takeWhile p).length ≤ l.length := (List.takeWhile_sublist p).length_le
theorem lex_toks : ∀ (k : Nat) (s : List UInt8) (line : Int) (l : List Tok), s.length ≤ k → s.length ≤ 600 → (∀ t ∈ l, TokOk t) → ∀ t ∈ (lex s line l).1, TokOk t := by
  intro k
  induction k with
  | zero =>
    intro s line l h _ hl
    rw [show s = [] from List.eq_nil_of_length_eq_zero (by omega), lex_nil]; exact hl
  | succ k ih =>
    intro s line l h h6 hl
    cases s with
    | nil => rw [lex_nil]; exact hl
    | cons c r =>
      have hs := h; have hs6 := h6
      simp only [List.length_cons] at h h6
      rw [lex_cons]
      have hr : ∀ (p : UInt8 → Bool), (r.dropWhile p).length ≤ r.length := fun p => dw_len r
      have hp : ∀ (t : Tok) (u : List UInt8), u.length ≤ k → u.length ≤ 600 → TokOk (setLine t line) → ∀ t' ∈ (pushT l line (lex u line) t).1, TokOk t' := fun t u hu hu6 ht => by
        unfold pushT
        split
        · intro t' ht'; cases ht'
        · refine ih _ _ _ hu hu6 fun t' ht' => ?_
          rcases List.mem_append.1 ht' with h | h
          · exact hl _ h
          · rw [List.mem_singleton] at h; rw [h]; exact ht
      have no : ∀ t ∈ (([], line, 240) : LexR).1, TokOk t := fun t ht => by cases ht
      split
      · exact ih _ _ _ (by omega) (by omega) hl
      split
      · exact ih _ _ _ (by omega) (by omega) hl
      split
      · split
        · exact ih _ _ _ (by have := hr notLf; omega) (by have := hr notLf; omega) hl
        · exact no
      split
      · rename_i hc
        exact hp _ _ (by omega) (by omega) ⟨by simp [setLine], .inl ⟨c, hc, rfl⟩⟩
      split
      · rename_i hc
        have hne : (c :: r).takeWhile isPart ≠ [] := by rw [List.takeWhile_cons, if_pos hc]; simp
        have hall := tw_all (p := isPart) (c :: r)
        have hlen := tw_len (p := isPart) (c :: r)
        cases hw : word ((c :: r).takeWhile isPart) with
        | none => exact no
        | some t =>
          obtain ⟨h1, h2⟩ := word_self hw
          refine hp _ _ (by have := hr isPart; omega) (by have := hr isPart; omega) ⟨?_, .inr ?_⟩
          · show t.2.1.length ≤ 600
            rw [h2]; omega
          · show t.2.1 ≠ [] ∧ t.2.1.all isPart = true ∧ word t.2.1 = some (line0 t)
            rw [h2, h1]
            exact ⟨hne, hall, hw⟩
      · exact no

theorem part_no (x : UInt8) (h : isPart x = true) : x ≠ 10 ∧ ¬ (x = 32 ∨ x = 9) ∧ x ≠ 35 ∧ isSign x = false := by
  have : ∀ x : UInt8, isPart x = true → x ≠ 10 ∧ ¬ (x = 32 ∨ x = 9) ∧ x ≠ 35 ∧ isSign x = false := all256 (by decide +kernel)
  exact this x h
theorem sign_no (x : UInt8) (h : isSign x = true) : x ≠ 10 ∧ ¬ (x = 32 ∨ x = 9) ∧ x ≠ 35 := by
  have : ∀ x : UInt8, isSign x = true → x ≠ 10 ∧ ¬ (x = 32 ∨ x = 9) ∧ x ≠ 35 := all256 (by decide +kernel)
  exact this x h
theorem lex_blank {b : List UInt8} (hb : b ∈ blanks) (rest : List UInt8) (line : Int) (l : List Tok) : ∃ line', lex (b ++ rest) line l = lex rest line' l := by
  have sp : ∀ (c : UInt8) (r : List UInt8) (line : Int), (c = 32 ∨ c = 9) → lex (c :: r) line l = lex r line l := fun c r line hc => by
    rw [lex_cons, if_neg (by rcases hc with rfl | rfl <;> decide), if_pos hc]
  have nl : ∀ (r : List UInt8) (line : Int), lex (10 :: r) line l = lex r (line + 1) l := fun r line => by rw [lex_cons, if_pos rfl]
  simp only [blanks, List.mem_cons, List.not_mem_nil, or_false] at hb
  rcases hb with rfl | rfl | rfl | rfl | rfl
  · exact ⟨line, sp _ _ _ (.inl rfl)⟩
  · exact ⟨_, nl _ _⟩
  · refine ⟨line, ?_⟩
    show lex (9 :: 32 :: 32 :: rest) line l = _
    rw [sp _ _ _ (.inr rfl), sp _ _ _ (.inl rfl), sp _ _ _ (.inl rfl)]
  · refine ⟨line + 1, ?_⟩
    show lex (32 :: 35 :: 32 :: 97 :: 32 :: 114 :: 101 :: 109 :: 97 :: 114 :: 107 :: 59 :: 32 :: 123 :: 10 :: rest) line l = _
    rw [sp _ _ _ (.inl rfl), lex_cons, if_neg (by decide), if_neg (by decide), if_pos rfl, if_pos (by rfl)]
    show lex (10 :: rest) line l = _
    rw [nl]
  · refine ⟨line + 1 + 1 + 1, ?_⟩
    show lex (10 :: 10 :: 35 :: 10 :: rest) line l = _
    rw [nl, nl, lex_cons, if_neg (by decide), if_neg (by decide), if_pos rfl, if_pos (by rfl)]
    show lex (10 :: rest) (line + 1 + 1) l = _
    rw [nl]
theorem blank_first {b : List UInt8} (hb : b ∈ blanks) : ∃ c r, b = c :: r ∧ isPart c = false := by
  simp only [blanks, List.mem_cons, List.not_mem_nil, or_false] at hb
  rcases hb with rfl | rfl | rfl | rfl | rfl <;> exact ⟨_, _, rfl, rfl⟩
theorem tw_app {p : UInt8 → Bool} {c : UInt8} {r : List UInt8} (hc : p c = false) : ∀ w : List UInt8, w.all p = true → (w ++ c :: r).takeWhile p = w ∧ (w ++ c :: r).dropWhile p = c :: r
  | [], _ => by simp [hc]
  | x :: w, h => by
    rw [List.all_cons, Bool.and_eq_true] at h
    have ih := tw_app (r := r) hc w h.2
    simp [h.1, ih.1, ih.2]
theorem lex_tok {t : Tok} (ht : TokOk t) {b : List UInt8} (hb : b ∈ blanks) (rest : List UInt8) (line : Int) (l : List Tok) (hl : l.length < 4096) : ∃ line' t', line0 t' = line0 t ∧ lex (t.2.1 ++ b ++ rest) line l = lex rest line' (l ++ [t']) := by
  obtain ⟨_, ht | ht⟩ := ht
  · obtain ⟨c, hc, he⟩ := ht
    obtain ⟨h1, h2, h3⟩ := sign_no c hc
    have hw : t.2.1 = [c] := by have := congrArg (fun t : Tok => t.2.1) he; exact this
    obtain ⟨line', hr⟩ := lex_blank hb rest line (l ++ [setLine (6, [c], 0, 0, 0, 0) line])
    refine ⟨line', setLine (6, [c], 0, 0, 0, 0) line, by rw [he]; rfl, ?_⟩
    rw [hw]
    show lex (c :: (b ++ rest)) line l = _
    rw [lex_cons, if_neg h1, if_neg h2, if_neg h3, if_pos hc]
    unfold pushT
    rw [if_neg (by omega), hr]
  · obtain ⟨hne, hall, hw⟩ := ht
    obtain ⟨c0, r0, rfl, hc0⟩ := blank_first hb
    have hta := tw_app (r := r0 ++ rest) hc0 t.2.1 hall
    obtain ⟨line', hr⟩ := lex_blank hb rest line (l ++ [setLine (line0 t) line])
    refine ⟨line', setLine (line0 t) line, rfl, ?_⟩
    generalize t.2.1 = w at *
    cases w with
    | nil => exact absurd rfl hne
    | cons c w =>
      rw [List.all_cons, Bool.and_eq_true] at hall
      obtain ⟨h1, h2, h3, h4⟩ := part_no c hall.1
      have e : (c :: w) ++ (c0 :: r0) ++ rest = c :: (w ++ c0 :: (r0 ++ rest)) := by simp
      have hdr : (w ++ c0 :: (r0 ++ rest)).dropWhile isPart = c0 :: (r0 ++ rest) := by
        have := hta.2
        rwa [List.cons_append, List.dropWhile_cons, if_pos hall.1] at this
      rw [e, lex_cons, if_neg h1, if_neg h2, if_neg h3, if_neg (by rw [h4]; decide), if_pos hall.1, ← List.cons_append, hta.1, hw, hdr]
      dsimp only
      unfold pushT
      rw [if_neg (by omega)]
      exact hr

def Joined : List Tok → List UInt8 → Prop
  | [], t => t = []
  | x :: l, t => ∃ b, b ∈ blanks ∧ ∃ r, Joined l r ∧ t = x.2.1 ++ b ++ r
theorem joined_snoc {x : Tok} {b : List UInt8} (hb : b ∈ blanks) : ∀ (l : List Tok) (t : List UInt8), Joined l t → Joined (l ++ [x]) (t ++ (x.2.1 ++ b))
  | [], t, h => by
    cases h
    exact ⟨b, hb, [], rfl, by simp⟩
  | y :: l, t, h => by
    obtain ⟨b2, hb2, r, hr, rfl⟩ := h
    exact ⟨b2, hb2, _, joined_snoc hb l r hr, by simp⟩
theorem joined_lex : ∀ (l : List Tok) (t : List UInt8) (line : Int) (acc : List Tok), (∀ x ∈ l, TokOk x) → Joined l t → acc.length + l.length ≤ 4096 → ∃ res : List Tok, lex t line acc = (acc ++ res, 0, 0) ∧ res.map line0 = l.map line0
  | [], t, line, acc, _, h, _ => by
    cases h
    exact ⟨[], by rw [lex_nil]; simp, rfl⟩
  | x :: l, t, line, acc, hl, h, hlen => by
    obtain ⟨b, hb, r, hr, rfl⟩ := h
    simp only [List.length_cons] at hlen
    obtain ⟨line', t', h1, h2⟩ := lex_tok (hl x (by simp)) hb r line acc (by omega)
    obtain ⟨res, h3, h4⟩ := joined_lex l r line' (acc ++ [t']) (fun y hy => hl y (by simp [hy])) hr (by rw [List.length_append, List.length_singleton]; omega)
    exact ⟨t' :: res, by rw [h2, h3]; simp, by simp [h1, h4]⟩

theorem blanks_len {b : List UInt8} (hb : b ∈ blanks) : b.length ≤ 15 := by
  simp only [blanks, List.mem_cons, List.not_mem_nil, or_false] at hb
  rcases hb with rfl | rfl | rfl | rfl | rfl <;> decide
end Go.Proofs.YtcnbolonnlmlgaaDoor

set_option linter.unusedVariables false
set_option linter.unusedSimpArgs false
namespace Go.Proofs.YtcnbolonnlmlgaaDoor
open Go.Sh

theorem jn_len : ∀ (l : List Tok), (∀ t ∈ l, t.2.1.length ≤ 600) → (jn l).length ≤ 601 * l.length := by
  have f : ∀ r : List Tok, (∀ t ∈ r, t.2.1.length ≤ 600) → (r.flatMap spT).length ≤ 601 * r.length := by
    intro r
    induction r with
    | nil => intro _; simp
    | cons y r ih =>
      intro h
      have h1 := h y List.mem_cons_self
      have h2 := ih fun t ht => h t (List.mem_cons_of_mem _ ht)
      simp only [List.flatMap_cons, List.length_append, List.length_cons, spT]
      omega
  intro l h
  cases l with
  | nil => simp [jn]
  | cons x r =>
    have h1 := h x List.mem_cons_self
    have h2 := f r fun t ht => h t (List.mem_cons_of_mem _ ht)
    simp only [jn, List.length_append, List.length_cons]
    omega
theorem tw_self {p : UInt8 → Bool} : ∀ w : List UInt8, w.all p = true → w.takeWhile p = w ∧ w.dropWhile p = []
  | [], _ => ⟨rfl, rfl⟩
  | x :: w, h => by
    rw [List.all_cons, Bool.and_eq_true] at h
    have ih := tw_self w h.2
    simp [h.1, ih.1, ih.2]
theorem lex_tok1 {t : Tok} (ht : TokOk t) {rest : List UInt8} (hb : rest = [] ∨ ∃ q, rest = 32 :: q) (line : Int) (l : List Tok) (hl : l.length < 4096) : lex (t.2.1 ++ rest) line l = lex rest line (l ++ [setLine (line0 t) line]) := by
  obtain ⟨_, ht | ht⟩ := ht
  · obtain ⟨c, hc, he⟩ := ht
    obtain ⟨h1, h2, h3⟩ := sign_no c hc
    have hw : t.2.1 = [c] := by have := congrArg (fun t : Tok => t.2.1) he; exact this
    rw [hw, he]
    show lex (c :: rest) line l = _
    rw [lex_cons, if_neg h1, if_neg h2, if_neg h3, if_pos hc]
    unfold pushT
    rw [if_neg (by omega)]
  · obtain ⟨hne, hall, hw⟩ := ht
    have hta : (t.2.1 ++ rest).takeWhile isPart = t.2.1 ∧ (t.2.1 ++ rest).dropWhile isPart = rest := by
      rcases hb with rfl | ⟨q, rfl⟩
      · rw [List.append_nil]
        exact tw_self _ hall
      · exact tw_app (by decide) t.2.1 hall
    generalize t.2.1 = w at *
    cases w with
    | nil => exact absurd rfl hne
    | cons c w =>
      rw [List.all_cons, Bool.and_eq_true] at hall
      obtain ⟨h1, h2, h3, h4⟩ := part_no c hall.1
      have hdr : (w ++ rest).dropWhile isPart = rest := by
        have := hta.2
        rwa [List.cons_append, List.dropWhile_cons, if_pos hall.1] at this
      rw [List.cons_append, lex_cons, if_neg h1, if_neg h2, if_neg h3, if_neg (by rw [h4]; decide), if_pos hall.1, ← List.cons_append, hta.1, hw, hdr]
      dsimp only
      unfold pushT
      rw [if_neg (by omega)]
theorem sp_first (r : List Tok) : r.flatMap spT = [] ∨ ∃ q, r.flatMap spT = 32 :: q := by
  cases r with
  | nil => exact .inl rfl
  | cons y r => exact .inr ⟨_, rfl⟩
theorem lex_sps : ∀ (r : List Tok) (acc : List Tok), (∀ t ∈ r, TokOk t) → acc.length + r.length ≤ 4096 → lex (r.flatMap spT) 1 acc = (acc ++ r.map fun t => setLine (line0 t) 1, 0, 0)
  | [], acc, _, _ => by
    show lex [] 1 acc = _
    rw [lex_nil]; simp
  | y :: r, acc, h, hl => by
    simp only [List.length_cons] at hl
    show lex (32 :: (y.2.1 ++ r.flatMap spT)) 1 acc = _
    rw [lex_cons, if_neg (by decide), if_pos (.inl rfl), lex_tok1 (h y List.mem_cons_self) (sp_first r) 1 acc (by omega), lex_sps r _ (fun t ht => h t (List.mem_cons_of_mem _ ht)) (by rw [List.length_append, List.length_singleton]; omega)]
    simp
theorem lex_jn (l : List Tok) (h : ∀ t ∈ l, TokOk t) (hl : l.length ≤ 4096) : lex (jn l) 1 [] = (l.map fun t => setLine (line0 t) 1, 0, 0) := by
  cases l with
  | nil => exact lex_nil _ _
  | cons x r =>
    show lex (x.2.1 ++ r.flatMap spT) 1 [] = _
    simp only [List.length_cons] at hl
    rw [lex_tok1 (h x List.mem_cons_self) (sp_first r) 1 [] (by simp), lex_sps r _ (fun t ht => h t (List.mem_cons_of_mem _ ht)) (by simp; omega)]
    simp
/-- What is refused has no words. -/
theorem lex_bad : ∀ (k : Nat) (s : List UInt8) (line : Int) (l : List Tok), s.length ≤ k → (lex s line l).2.2 = 0 ∨ (lex s line l).1 = []
  | k, [], line, l, _ => .inl rfl
  | 0, _ :: _, _, _, h => by simp at h
  | k + 1, c :: r, line, l, h => by
    simp only [List.length_cons] at h
    have hd : ∀ p : UInt8 → Bool, (r.dropWhile p).length ≤ k := fun p => by have := dw_len (p := p) r; omega
    rw [lex_cons]
    split
    · exact lex_bad k r _ _ (by omega)
    split
    · exact lex_bad k r _ _ (by omega)
    split
    · split
      · exact lex_bad k _ _ _ (hd _)
      · exact .inr rfl
    split
    · unfold pushT
      split
      · exact .inr rfl
      · exact lex_bad k r _ _ (by omega)
    split
    · split
      · unfold pushT
        split
        · exact .inr rfl
        · exact lex_bad k _ _ _ (hd _)
      · exact .inr rfl
    · exact .inr rfl

end Go.Proofs.YtcnbolonnlmlgaaDoor
end

section
set_option linter.unusedVariables false
set_option linter.unusedSimpArgs false
namespace Go.Proofs.YtcnbolonnlmlgaaDoor
open Go.Sh

theorem ref_Join_c (l : List Tok) (K : List UInt8 → Prop) (hl : l.length ≤ 1000000) (hj : (jn l).length ≤ 100000000) (hk : K (jn l)) : ref24_Join_q l K := by
  unfold ref24_Join_q
  refine LoopJ.list l (fun pre => (jn pre, (pre.length : Int), ())) (fun _ => True) rfl trivial (fun pre x post hp _ next hx => ?_) (fun _ next => ?_)
  · intro _
    dsimp only [ref24_Join_l3]
    have hll : l.length = pre.length + (post.length + 1) := by rw [hp]; simp
    have hx := hx trivial
    have hpre : (jn (pre ++ [x])).length ≤ (jn l).length := by
      have := jn_pre l (pre.length + 1)
      have e : l.take (pre.length + 1) = pre ++ [x] := by
        rw [hp, show pre ++ x :: post = (pre ++ [x]) ++ post by simp]
        exact List.take_left' (by simp)
      rw [e] at this; exact this
    have fin : ∀ u : List UInt8, jn (pre ++ [x]) = u ++ x.2.1 → ref24_Join_j0 l (pre.length : Int) next u K := fun u hu => by
      unfold ref24_Join_j0
      rw [hu, List.length_append] at hpre
      refine ⟨by omega, AtN.of (at_pre hp) fun _ => ⟨by unfold lenMax; omega, ?_⟩⟩
      rw [← hu, wr_i64 (by omega) (by omega)]
      have e : (pre ++ [x]).length = pre.length + 1 := by simp
      rw [e] at hx
      exact hx
    refine ifT (decide_eq_true (by omega)) (IfB.intro (fun h => ?_) fun h => ?_)
    · have h : 0 < pre.length := by have := of_decide_eq_true h; omega
      have hne : pre ≠ [] := fun e => by rw [e] at h; exact absurd h (by decide)
      have e : jn (pre ++ [x]) = (jn pre ++ [32]) ++ x.2.1 := by rw [jn_snoc, if_neg hne]; simp [spT]
      refine ⟨?_, fin _ e⟩
      rw [e] at hpre
      simp only [List.length_append] at hpre
      unfold lenMax
      simp only [List.length_singleton] at hpre ⊢
      omega
    · have h : pre = [] := List.eq_nil_of_length_eq_zero (by have := of_decide_eq_false h; omega)
      refine fin _ ?_
      rw [jn_snoc, if_pos h, h]
      simp [jn]
  · intro _
    dsimp only [ref24_Join_l3]
    exact ifF (decide_eq_false (by omega)) hk

theorem lexJoins_c (s : List UInt8) : law24_LexJoins_q s (fun b => b = true) := by
  unfold law24_LexJoins_q
  refine fun _ => works_c _ fun _ => ifF rfl fun _ => short_c s _ fun t ht ht2 _ => ?_
  refine fun _ => Split_c t _ (fun h => ?_) (fun h => ?_)
  · have ht6 : t.length ≤ 600 := by omega
    have htok := lex_toks t.length t 1 [] (Nat.le_refl _) ht6 (fun _ h => by cases h)
    have hlen := lex_len t.length t 1 [] (Nat.le_refl _) (by simp)
    have hbad := lex_bad t.length t 1 [] (Nat.le_refl _)
    generalize (lex t 1 []).1 = l at htok hlen hbad ⊢
    generalize (lex t 1 []).2.1 = i
    generalize (lex t 1 []).2.2 = e at hbad ⊢
    have hj0 := jn_len l fun x hx => (htok x hx).1
    have bad : ∀ (m : List Tok) (f : Int), law24_LexJoins_j0 l e m f true (fun b => b = true) := fun m f => by
      unfold law24_LexJoins_j0
      refine ifT rfl (IfB.intro (fun _ => rfl) fun h0 => ?_)
      rcases hbad with rfl | rfl
      · rfl
      · simp at h0
    refine fun _ _ => ⟨by omega, by omega, fun _ _ => ref_Join_c l _ (by omega) (by omega) fun _ => ifF (by simp) fun _ => Split_c (jn l) _ (fun h6 _ => ?_) (fun h6 _ => ?_)⟩
    · refine IfB.intro (fun _ => bad _ _) fun he => ?_
      rw [decide_eq_false (by omega), lex_jn l htok hlen]
      unfold law24_LexJoins_j0
      refine ifF rfl ?_
      refine LoopJ.list (l.map fun t => setLine (line0 t) 1) (fun pre => ((pre.length : Int), ())) (fun _ => True) rfl trivial (fun pre x post hp _ next hx => ?_) (fun _ next => ?_)
      · intro _
        dsimp only [law24_LexJoins_l12]
        have hml : (l.map fun t => setLine (line0 t) 1).length = pre.length + (post.length + 1) := by rw [hp]; simp
        have hll : (l.map fun t => setLine (line0 t) 1).length = l.length := List.length_map _
        have hx1 : x.2.2.2.2.2 = 1 := by
          have : x ∈ l.map fun t => setLine (line0 t) 1 := by rw [hp]; simp
          obtain ⟨y, _, rfl⟩ := List.mem_map.1 this
          rfl
        refine ifT (decide_eq_true (by omega)) ⟨by omega, by omega, AtN.of (at_pre hp) fun _ => ifF (by rw [hx1]; rfl) ?_⟩
        have hx := hx trivial
        rw [wr_i64 (by omega) (by omega)]
        have e : (pre ++ [x]).length = pre.length + 1 := by simp
        rw [e] at hx
        exact hx
      · intro _
        dsimp only [law24_LexJoins_l12]
        refine ifF (decide_eq_false (by omega)) (ifT rfl fun _ => same_c _ _ _ _ (by omega) ?_ (fun h => by cases h) fun _ => rfl)
        rw [List.map_map]
        exact List.map_congr_left fun t _ => rfl
    · refine IfB.intro (fun _ => bad _ _) fun he => ?_
      rw [decide_eq_true (by omega)]
      exact bad _ _
  · refine fun _ _ => ⟨by decide, by decide, fun _ _ => ref_Join_c [] _ (by decide) (by decide) fun _ => ifF (by simp) fun _ => Split_c (jn []) _ (fun h6 _ => ?_) (fun h6 _ => absurd h6 (by decide))⟩
    refine ifT rfl ?_
    unfold law24_LexJoins_j0
    exact ifT rfl (ifT rfl rfl)

end Go.Proofs.YtcnbolonnlmlgaaDoor
end
