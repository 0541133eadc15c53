/-
  Addresses' texts: what is read as one.
-/
import Derived.Test.YtaeiblfdmlapoaaDoorQ
import Derived.Test.YtaeiblfdmlapoaaDoorHm2
import Derived.Test.YtaeiblfdmlapoaaDoorTx1
set_option linter.unusedSectionVars false
set_option linter.unusedSimpArgs false
set_option linter.unusedVariables false
namespace Go.Proofs.YtaeiblfdmlapoaaDoor
open Go.Sh

theorem wi64n (a : Nat) (h : a ≤ 9223372036854775807) : IntKind.wrap .i64 (a : Int) = (a : Int) := wr_i64 (by omega) (by omega)
/-- Is a text a number from 0 to 255? -/
def isOct (w : List UInt8) : Bool := decide (val w ≤ 255) && (Lib.decDigits (val w) == w)
theorem isOct_iff {w : List UInt8} : isOct w = true ↔ val w ≤ 255 ∧ Lib.decDigits (val w) = w := by simp [isOct]
theorem oct_len {w : List UInt8} (h : isOct w = true) : w.length ≤ 3 := by
  obtain ⟨h1, h2⟩ := isOct_iff.1 h
  have := dec_len (u := val w) (k := 2) (by omega)
  rw [h2] at this; exact this
theorem octet_c (s : List UInt8) (K : Int → Prop) (hl : s.length ≤ 281474976710656) (h1 : isOct s = true → K (val s)) (h2 : isOct s = false → ∀ v : Int, v < 0 → K v) : ip_octet_q s K := by
  have hA : isOct s = true → Lib.atoiAll s = .ok (val s : Int) := fun h => by
    obtain ⟨h3, h4⟩ := isOct_iff.1 h
    have := atoi_dec (u := val s) (by omega)
    rwa [h4] at this
  have hno : isOct s = false → ip_octet_j0 0 true K := fun h => ifT rfl (h2 h _ (by decide))
  have hN : Lib.atoiAll s ≠ .ok (val s : Int) → isOct s = false := fun h => by
    cases ho : isOct s with
    | false => rfl
    | true => exact absurd (hA ho) h
  unfold ip_octet_q
  intro _
  unfold strconv_Atoi_q
  refine ⟨hl, fun _ => ?_⟩
  cases ha : Lib.atoiAll s with
  | ok v =>
    simp only [atoiR, ha]
    refine ifF rfl (IfB.intro (fun h => ?_) (fun h => ?_))
    · refine ifT rfl (h2 ?_ _ (by decide))
      cases ho : isOct s with
      | false => rfl
      | true =>
        have := hA ho
        rw [ha] at this
        injection this with this
        have h3 := (isOct_iff.1 ho).1
        simp at h; omega
    · have hv : v ≤ 255 := by simp at h; omega
      intro _
      unfold strconv_Itoa_q
      intro _
      unfold ip_octet_j0
      refine IfB.intro (fun h => ?_) (fun h => ?_)
      · refine h2 ?_ _ (by decide)
        cases ho : isOct s with
        | false => rfl
        | true =>
          have := hA ho
          rw [ha] at this
          injection this with this
          subst this
          rw [itoa_nat, (isOct_iff.1 ho).2] at h
          simp at h
      · have hs : Lib.itoa v = s := by simpa using h
        by_cases h0 : 0 ≤ v
        · obtain ⟨n, rfl⟩ := Int.eq_ofNat_of_zero_le h0
          rw [itoa_nat] at hs
          have hvn : val s = n := by rw [← hs, val_dec]
          have ho : isOct s = true := isOct_iff.2 ⟨by omega, by rw [hvn]; exact hs⟩
          have := h1 ho
          rwa [hvn] at this
        · refine h2 (hN fun e => ?_) v (by omega)
          rw [ha] at e; injection e with e; omega
  | range =>
    simp only [atoiR, ha]
    exact ifT rfl (ifT rfl (h2 (hN (by rw [ha]; exact fun e => by cases e)) _ (by decide)))
  | _ =>
    simp only [atoiR, ha]
    exact ifT rfl (ifT rfl (h2 (hN (by rw [ha]; exact fun e => by cases e)) _ (by decide)))

/-- Numbers from 0 to 255, as one. -/
def pv (l : List (List UInt8)) : Nat := l.foldl (fun a w => a * 256 + val w) 0
theorem pv_snoc (l : List (List UInt8)) (w : List UInt8) : pv (l ++ [w]) = pv l * 256 + val w := by simp [pv]
/-- What an address's text is read as. -/
def prs (s : List UInt8) : Nat × Int := if (spl 46 s).length = 4 ∧ (spl 46 s).all isOct = true then (pv (spl 46 s), 0) else (0, 2)
theorem spl_len (c : UInt8) (s : List UInt8) : (spl c s).length ≤ s.length + 1 := by
  have h := Lib.splitB_length_le ⟨#[c]⟩ 0 (s.count c) ⟨s.toArray⟩
  have h2 := congrArg List.length (Lib.splitB_data ⟨#[c]⟩ 0 (s.count c) ⟨s.toArray⟩)
  have h3 := split_spl c (s.count c) s rfl
  have h4 : s.count c ≤ s.length := List.count_le_length
  rw [List.length_map] at h2
  have h5 : (Lib.splitK [c] 0 (s.count c) s).length = (spl c s).length := by rw [h3]
  have h6 : (Lib.splitK (ByteArray.mk #[c]).data.toList 0 (s.count c) (ByteArray.mk s.toArray).data.toList) = Lib.splitK [c] 0 (s.count c) s := by simp
  rw [h6, h5] at h2
  omega
theorem spl_part {c : UInt8} {s w : List UInt8} (h : w ∈ spl c s) : w.length ≤ s.length := by
  rw [← libSplit_spl] at h
  exact splitK_len _ _ _ _ h

theorem parse_c (s : List UInt8) (K : Int → Int → Prop) (hl : s.length ≤ 1000000) (hk : K (prs s).1 (prs s).2) : ip_Parse_q s K := by
  unfold ip_Parse_q
  intro _
  unfold strings_Split_q
  refine ⟨by omega, by decide, ?_⟩
  rw [libSplit_spl]
  intro _
  have hpl := fun w (h : w ∈ spl 46 s) => spl_part h
  have hbad : ¬ ((spl 46 s).length = 4 ∧ (spl 46 s).all isOct = true) → K 0 2 := fun h => by rw [prs, if_neg h] at hk; exact hk
  have hok : (spl 46 s).length = 4 → (spl 46 s).all isOct = true → K (pv (spl 46 s)) 0 := fun h1 h2 => by rw [prs, if_pos ⟨h1, h2⟩] at hk; exact hk
  generalize spl 46 s = l at *
  refine IfB.intro (fun h => hbad fun h4 => by simp at h; omega) (fun h => ?_)
  have h4 : l.length = 4 := by simp at h; omega
  refine LoopJ.over l (fun pre => ((pv pre : Int), (pre.length : Int), ())) (fun pre => pre.all isOct = true ∧ pv pre < 256 ^ pre.length) rfl ⟨rfl, by decide⟩ (fun pre w post hp hn hP next hx => ?_) (fun hP next => ?_)
  · intro _
    dsimp only [ip_Parse_l6]
    refine ifT (decide_eq_true (by omega)) ⟨by omega, by omega, AtN.of (at_pre hp) fun _ _ => ?_⟩
    refine octet_c w _ (by have := hpl w (by rw [hp]; simp); omega) (fun ho _ => ?_) (fun ho v hv _ => ?_)
    · obtain ⟨h5, h6⟩ := isOct_iff.1 ho
      have hb : pv pre < 16777216 := by
        have h7 : pre.length ≤ 3 := by omega
        have : 256 ^ pre.length ≤ 256 ^ 3 := Nat.pow_le_pow_right (by decide) h7
        omega
      refine ifF (decide_eq_false (by omega)) ⟨by decide, of_eq (hx ⟨by rw [List.all_append, hP.1]; simp [ho], ?_⟩) ?_⟩
      · rw [pv_snoc, List.length_append, List.length_singleton, Nat.pow_succ]
        have := hP.2
        omega
      · rw [pv_snoc, show ((pv pre : Nat) : Int) * 256 = ((pv pre * 256 : Nat) : Int) by omega, wu32 (by omega), wu32 (by omega), or_nat .u32 _ _ (lt_u32 (by omega)) (lt_u32 (by omega)), or_256 _ _ (by omega), wu32 (by omega), wr_i64 (by omega) (by omega)]
        simp
    · refine ifT (decide_eq_true hv) (hbad fun h5 => ?_)
      have := List.all_eq_true.1 h5.2 w (by rw [hp]; simp)
      rw [ho] at this; cases this
  · intro _
    dsimp only [ip_Parse_l6]
    exact ifF (decide_eq_false (by omega)) (hok h4 hP.1)

theorem canon_oct {w : List UInt8} : isOct w = true ↔ canon w ∧ w.length ≤ 3 ∧ val w ≤ 255 := by
  constructor
  · intro h
    have := isOct_iff.1 h
    exact ⟨canon_iff.2 this.2, oct_len h, this.1⟩
  · intro ⟨h1, h2, h3⟩
    exact isOct_iff.2 ⟨h3, canon_iff.1 h1⟩
theorem whole_c (s : List UInt8) (n : Nat) (K : Int → Bool → Prop) (hn : n ≤ 18) (h1 : canon s → s.length ≤ n → K (val s) true) (h2 : ¬ (canon s ∧ s.length ≤ n) → K 0 false) : base_Whole_q s n K := by
  unfold base_Whole_q
  refine IfB.intro (fun h => ?_) (fun h => ?_)
  · refine ifT rfl (h2 fun hc => ?_)
    exact hc.1.1 (by simpa using h)
  have hne : s ≠ [] := by simpa using h
  refine IfB.intro (fun h => ?_) (fun h => ?_)
  · exact ifT rfl (h2 fun hc => by simp at h; omega)
  have hl : s.length ≤ n := by simp at h; omega
  have hj : ∀ b : Bool, (b = true → 1 < s.length ∧ s[0]? = some 48) → (b = false → 1 < s.length → s[0]? ≠ some 48) → base_Whole_j0 s b K := by
    intro b hb1 hb2
    unfold base_Whole_j0
    refine IfB.intro (fun hb => h2 fun hc => hc.1.2.2 (hb1 hb).1 (hb1 hb).2) (fun hb => ?_)
    have hz := hb2 hb
    refine LoopJ.over s (fun pre => ((val pre : Int), (pre.length : Int), ())) (fun pre => (∀ x ∈ pre, 48 ≤ x.toNat ∧ x.toNat ≤ 57) ∧ val pre < 10 ^ pre.length) rfl ⟨by simp, by decide⟩ (fun pre x post hp hnn hP next hx => ?_) (fun hP next => ?_)
    · intro _
      dsimp only [base_Whole_l5]
      have hx0 : s[((pre.length : Nat) : Int).toNat]? = some x := at_pre hp
      have hb8 := u8_lt x
      have hpw : 10 ^ pre.length ≤ 10 ^ 17 := Nat.pow_le_pow_right (by decide) (by omega)
      refine ifT (decide_eq_true (by omega)) ⟨by omega, AtN.of hx0 (IfB.intro (fun hd => ?_) (fun hd => ⟨by omega, AtN.of hx0 ?_⟩))⟩
      · unfold base_Whole_j1
        refine ifT rfl (h2 fun hc => ?_)
        have := hc.1.2.1 x (by rw [hp]; simp)
        simp at hd; omega
      · have hd1 : 48 ≤ x.toNat := by simp at hd; omega
        unfold base_Whole_j1
        refine IfB.intro (fun hd2 => h2 fun hc => ?_) (fun hd2 => ⟨by omega, AtN.of hx0 (of_eq (hx ⟨fun y hy => ?_, ?_⟩) ?_)⟩)
        · have := hc.1.2.1 x (by rw [hp]; simp)
          simp at hd2; omega
        · rcases List.mem_append.1 hy with hy | hy
          · exact hP.1 y hy
          · simp only [List.mem_singleton] at hy
            subst hy
            simp at hd2; omega
        · rw [val_snoc, List.length_append, List.length_singleton, Nat.pow_succ]
          have := hP.2
          simp at hd2; omega
        · have hd2 : x.toNat ≤ 57 := by simp at hd2; omega
          have := hP.2
          have e0 : IntKind.wrap .i64 (10 * (val pre : Int)) = ((10 * val pre : Nat) : Int) := by rw [wr_i64 (by omega) (by omega)]; omega
          have e2 : IntKind.wrap .i64 ((pre.length : Int) + 1) = ((pre.length + 1 : Nat) : Int) := by rw [wr_i64 (by omega) (by omega)]; omega
          rw [val_snoc, show ((x.toNat : Int) - 48) = ((x.toNat - 48 : Nat) : Int) by omega, wu8m, wi64n _ (by omega), e0, e2, ← Int.natCast_add, wi64n _ (by omega)]
          have e1 : 10 * val pre + (x.toNat - 48) % 256 = 10 * val pre + (x.toNat - 48) := by omega
          rw [e1]; simp
    · intro _
      dsimp only [base_Whole_l5]
      exact ifF (decide_eq_false (by omega)) (h1 ⟨hne, hP.1, hz⟩ hl)
  refine IfB.intro (fun h => ?_) (fun h => hj false (fun h => by cases h) (fun _ h3 => by simp at h; omega))
  have hp0 : 0 < s.length := List.length_pos_iff.2 hne
  have e0 : s[0]? = some s[0] := List.getElem?_eq_getElem hp0
  refine ⟨by decide, AtN.of e0 (hj _ (fun hb => ⟨by simp at h; omega, ?_⟩) (fun hb _ => ?_))⟩
  · rw [e0]; simp at hb
    have : s[0] = 48 := UInt8.toNat_inj.1 (by have : (48 : UInt8).toNat = 48 := rfl; omega)
    rw [this]
  · rw [e0]; simp at hb
    intro e
    injection e with e
    rw [e] at hb
    exact hb rfl

/-- The part that is begun stands at the end of what was read. -/
theorem splG_end (c : UInt8) (s : List UInt8) : ∃ t, s = t ++ (splG c ([], []) s).2 := by
  have : ∀ k (s : List UInt8), s.length = k → ∃ t, s = t ++ (splG c ([], []) s).2 := by
    intro k
    induction k with
    | zero => intro s h; exact ⟨[], by rw [List.eq_nil_of_length_eq_zero h]; rfl⟩
    | succ k ih =>
      intro s h
      rcases List.eq_nil_or_concat s with rfl | ⟨u, x, rfl⟩
      · simp at h
      · rw [List.concat_eq_append] at *
        obtain ⟨t, ht⟩ := ih u (by simp at h; omega)
        rw [splG_snoc]
        unfold splF
        split
        · exact ⟨u ++ [x], by simp⟩
        · refine ⟨t, ?_⟩
          dsimp only
          rw [← List.append_assoc, ← ht]
  exact this _ s rfl
theorem splG_len (c : UInt8) (s : List UInt8) : (splG c ([], []) s).1.length ≤ s.length := by
  have := spl_len c s
  simp only [spl, List.length_append, List.length_singleton] at this
  omega
theorem split_c (s : List UInt8) (c : UInt8) (K : List (List UInt8) → Prop) (hl : s.length ≤ 1000000) (hk : K (spl c s)) : base_Split_q s (c.toNat : Int) K := by
  unfold base_Split_q
  have hst : ∀ pre : List UInt8, (splG c ([], []) pre).2.length ≤ pre.length ∧ pre.drop (pre.length - (splG c ([], []) pre).2.length) = (splG c ([], []) pre).2 := by
    intro pre
    obtain ⟨t, ht⟩ := splG_end c pre
    have h1 : pre.length = t.length + (splG c ([], []) pre).2.length := by conv => lhs; rw [ht, List.length_append]
    refine ⟨by omega, ?_⟩
    rw [show pre.length - (splG c ([], []) pre).2.length = t.length by omega]
    conv => lhs; rw [ht]
    exact List.drop_left
  refine LoopJ.over s (fun pre => ((splG c ([], []) pre).1, ((pre.length - (splG c ([], []) pre).2.length : Nat) : Int), (pre.length : Int), ())) (fun _ => True) rfl trivial (fun pre x post hp hn _ next hx => ?_) (fun _ next => ?_)
  · intro _
    dsimp only [base_Split_l4]
    have ht : s.take ((pre.length : Nat) : Int).toNat = pre := by rw [hp]; simp
    obtain ⟨h1, h2⟩ := hst pre
    have h3 := splG_len c pre
    refine ifT (decide_eq_true (by omega)) ⟨by omega, AtN.of (at_pre hp) (IfB.intro (fun he => ⟨by omega, by omega, by omega, by omega, ?_, ?_⟩) (fun he => ?_))⟩
    · simp only [List.length_singleton]; omega
    · have he : x = c := UInt8.toNat_inj.1 (by simp at he; omega)
      unfold base_Split_j0
      rw [ht, Int.toNat_natCast, h2]
      refine of_eq (hx trivial) ?_
      rw [splG_snoc, splF, if_pos he, wr_i64 (by omega) (by omega)]
      simp
    · have he : x ≠ c := fun e => by subst e; simp at he
      unfold base_Split_j0
      refine of_eq (hx trivial) ?_
      rw [splG_snoc, splF, if_neg he, wr_i64 (by omega) (by omega)]
      simp
  · intro _
    dsimp only [base_Split_l4]
    obtain ⟨h1, h2⟩ := hst s
    have h3 := splG_len c s
    refine ifF (decide_eq_false (by omega)) ⟨by omega, by omega, ?_, ?_⟩
    · simp only [List.length_singleton]; omega
    · rw [Int.toNat_natCast, h2]; exact hk

theorem prs_long {s : List UInt8} (h : 15 < s.length) : prs s = (0, 2) := by
  unfold prs
  rw [if_neg]
  intro ⟨h4, ho⟩
  have hj := join_spl 46 s
  generalize spl 46 s = l at *
  match l, h4 with
  | [a, b, c, d], _ =>
    simp only [List.all_cons, List.all_nil, Bool.and_true, Bool.and_eq_true] at ho
    have h1 := oct_len ho.1; have h2 := oct_len ho.2.1; have h3 := oct_len ho.2.2.1; have h4 := oct_len ho.2.2.2
    have := congrArg List.length hj
    simp only [Lib.join, List.intercalate, List.intersperse, List.flatten_cons, List.flatten_nil, List.length_append, List.length_cons, List.length_nil] at this
    omega
theorem ref_parse_c (s : List UInt8) (K : Int → Int → Prop) (hl : s.length ≤ 1000000) (hk : K (prs s).1 (prs s).2) : ref07_Parse_q s K := by
  unfold ref07_Parse_q
  refine IfB.intro (fun h => ?_) (fun h => ?_)
  · rw [prs_long (by simp at h; omega)] at hk; exact hk
  intro _
  refine split_c s 46 _ (by omega) fun _ => ?_
  have hbad : ¬ ((spl 46 s).length = 4 ∧ (spl 46 s).all isOct = true) → K 0 2 := fun h => by rw [prs, if_neg h] at hk; exact hk
  have hok : (spl 46 s).length = 4 → (spl 46 s).all isOct = true → K (pv (spl 46 s)) 0 := fun h1 h2 => by rw [prs, if_pos ⟨h1, h2⟩] at hk; exact hk
  generalize spl 46 s = l at *
  refine IfB.intro (fun h => hbad fun h4 => by simp at h; omega) (fun h => ?_)
  have h4 : l.length = 4 := by simp at h; omega
  refine LoopJ.over l (fun pre => ((pv pre : Int), (pre.length : Int), ())) (fun pre => pre.all isOct = true ∧ pv pre < 256 ^ pre.length) rfl ⟨rfl, by decide⟩ (fun pre w post hp hn hP next hx => ?_) (fun hP next => ?_)
  · intro _
    dsimp only [ref07_Parse_l8]
    have hno : isOct w = false → K 0 2 := fun ho => hbad fun h5 => by
      have := List.all_eq_true.1 h5.2 w (by rw [hp]; simp)
      rw [ho] at this; cases this
    refine ifT (decide_eq_true (by omega)) ⟨by omega, by omega, AtN.of (at_pre hp) fun _ _ => ?_⟩
    refine whole_c w 3 _ (by decide) (fun hc hl3 _ => ifF rfl ?_) (fun hc _ => ifT rfl (ifT rfl (hno ?_)))
    · unfold ref07_Parse_j0
      refine IfB.intro (fun h => hno ?_) (fun h => ?_)
      · cases ho : isOct w with
        | false => rfl
        | true => have := (canon_oct.1 ho).2.2; simp at h; omega
      · have hv : val w ≤ 255 := by simp at h; omega
        have ho : isOct w = true := canon_oct.2 ⟨hc, hl3, hv⟩
        have hb : pv pre < 16777216 := by
          have h7 : pre.length ≤ 3 := by omega
          have : 256 ^ pre.length ≤ 256 ^ 3 := Nat.pow_le_pow_right (by decide) h7
          omega
        refine of_eq (hx ⟨by rw [List.all_append, hP.1]; simp [ho], ?_⟩) ?_
        · rw [pv_snoc, List.length_append, List.length_singleton, Nat.pow_succ]
          have := hP.2
          omega
        · rw [pv_snoc, show 256 * ((pv pre : Nat) : Int) = ((pv pre * 256 : Nat) : Int) by omega, wu32 (by omega), wu32 (by omega), ← Int.natCast_add, wu32 (by omega), wr_i64 (by omega) (by omega)]
          simp
    · cases ho : isOct w with
      | false => rfl
      | true => exact absurd ⟨(canon_oct.1 ho).1, (canon_oct.1 ho).2.1⟩ hc
  · intro _
    dsimp only [ref07_Parse_l8]
    exact ifF (decide_eq_false (by omega)) (hok h4 hP.1)


end Go.Proofs.YtaeiblfdmlapoaaDoor
