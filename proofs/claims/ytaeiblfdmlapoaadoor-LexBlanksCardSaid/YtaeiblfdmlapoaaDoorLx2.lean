/-
  The document's words; texts, split.
-/
import Derived.Test.YtaeiblfdmlapoaaDoorLx1
set_option linter.unusedSectionVars false
set_option linter.unusedSimpArgs false
set_option linter.unusedVariables false
namespace Go.Proofs.YtaeiblfdmlapoaaDoor
open Go.Sh

theorem ref_all_c (s : List UInt8) (c : UInt8) (K : Bool → Prop) (hl : s.length ≤ 1000000) (hk : K (s.all fun x => isDig x || x == c)) : ref24_all_q s (c.toNat : Int) K := by
  have hb : ∀ x n : UInt8, ((x.toNat : Int) != (n.toNat : Int)) = (!(x == n)) := fun x n => by
    by_cases e : x = n
    · subst e; simp
    · have h2 : ((x.toNat : Int) == (n.toNat : Int)) = false := beq_eq_false_iff_ne.2 fun h => e (UInt8.toNat_inj.1 (by omega))
      rw [beq_eq_false_iff_ne.2 e, bne, h2]
  unfold ref24_all_q
  refine LoopJ.over s (fun pre => ((pre.length : Int), ())) (fun pre => pre.all (fun x => isDig x || x == c) = true) rfl rfl (fun pre x post hp hn hP next hx => ?_) (fun hP next => ?_)
  · intro _
    dsimp only [ref24_all_l2]
    have bad : (isDig x || x == c) = false → K false := fun h => by
      have : (s.all fun x => isDig x || x == c) = false := by
        rw [hp, List.all_append, List.all_cons, h, Bool.false_and, Bool.and_false]
      rw [this] at hk; exact hk
    have go : (isDig x || x == c) = true → next ((IntKind.wrap .i64 ((pre.length : Int) + 1)), ()) := fun h => of_eq (hx (by rw [List.all_append, hP, List.all_cons, h]; rfl)) (by rw [wr_i64 (by omega) (by omega)]; simp)
    refine ifT (decide_eq_true (by omega)) ⟨by omega, AtN.of (at_pre hp) fun _ => ref_digit_c x _ fun _ => IfB.intro (fun h => ⟨by omega, AtN.of (at_pre hp) ?_⟩) (fun h => ?_)⟩
    · have hd : isDig x = false := by simpa using h
      unfold ref24_all_j0
      rw [hb]
      refine IfB.intro (fun h2 => bad (by rw [hd, Bool.false_or]; simpa using h2)) (fun h2 => go (by rw [hd, Bool.false_or]; simpa using h2))
    · have hd : isDig x = true := by simpa using h
      exact ifF rfl (go (by rw [hd, Bool.true_or]))
  · intro _
    dsimp only [ref24_all_l2]
    rw [hP] at hk
    exact ifF (decide_eq_false (by omega)) hk
theorem ref_has_c (s : List UInt8) (c : UInt8) (K : Bool → Prop) (hl : s.length ≤ 1000000) (hk : K (decide (c ∈ s))) : ref24_has_q s (c.toNat : Int) K := by
  unfold ref24_has_q
  refine LoopJ.over s (fun pre => ((pre.length : Int), ())) (fun pre => c ∉ pre) rfl (by simp) (fun pre x post hp hn hP next hx => ?_) (fun hP next => ?_)
  · intro _
    dsimp only [ref24_has_l2]
    refine ifT (decide_eq_true (by omega)) ⟨by omega, AtN.of (at_pre hp) (IfB.intro (fun h => ?_) (fun h => of_eq (hx ?_) ?_))⟩
    · have e : x = c := UInt8.toNat_inj.1 (by simp at h; omega)
      rw [decide_eq_true (by rw [hp, e]; simp)] at hk; exact hk
    · intro hm
      rcases List.mem_append.1 hm with hm | hm
      · exact hP hm
      · rw [List.mem_singleton] at hm; rw [hm] at h; simp at h
    · rw [wr_i64 (by omega) (by omega)]; simp
  · intro _
    dsimp only [ref24_has_l2]
    rw [decide_eq_false hP] at hk
    exact ifF (decide_eq_false (by omega)) hk

theorem num_canon {n : Nat} {s : List UInt8} {k : Nat} (hk : n < 10 ^ (k + 1)) : isNum n s = true ↔ canon s ∧ s.length ≤ k + 1 ∧ val s ≤ n :=
  ⟨fun h => ⟨(isNum_canon.1 h).2, isNum_len h hk, (isNum_canon.1 h).1⟩, fun h => isNum_canon.2 ⟨h.2.2, h.1⟩⟩
theorem val_lt {s : List UInt8} (h : canon s) : val s < 10 ^ s.length := by
  have : ∀ (s : List UInt8), (∀ x ∈ s, 48 ≤ x.toNat ∧ x.toNat ≤ 57) → ∀ a, s.foldl valF a < (a + 1) * 10 ^ s.length := by
    intro s
    induction s with
    | nil => intro _ a; simp
    | cons x s ih =>
      intro hd a
      have hx := hd x (by simp)
      have h1 := ih (fun y hy => hd y (by simp [hy])) (valF a x)
      simp only [List.foldl_cons, List.length_cons, Nat.pow_succ]
      have h2 : (valF a x + 1) * 10 ^ s.length ≤ ((a + 1) * 10) * 10 ^ s.length := Nat.mul_le_mul_right _ (by unfold valF; omega)
      have h3 : (a + 1) * 10 * 10 ^ s.length = (a + 1) * (10 ^ s.length * 10) := by rw [Nat.mul_assoc, Nat.mul_comm 10]
      omega
  have := this s h.2.1 0
  simpa [val] using this

theorem Word_c (s : List UInt8) (K : Tok → Bool → Prop) (hl : s.length ≤ 100000) (h1 : ∀ t, word s = some t → K t true) (h2 : word s = none → ∀ t, K t false) : ref24_Word_q s K := by
  have hall : (s.all fun x => isDig x || x == 48) = s.all isDig := by
    congr 1; funext x; revert x; exact all256 (by decide +kernel)
  unfold ref24_Word_q
  unfold word at h1 h2
  refine fun _ => ref_all_c s 48 _ (by omega) fun _ => ?_
  rw [hall]
  refine IfB.intro (fun ha => ?_) (fun ha => ?_)
  · simp only [ha, if_true] at h1 h2
    refine fun _ => whole_c s 10 _ (by decide) (fun hc hq _ => ifT rfl ?_) (fun hc _ => ifF rfl (h2 (if_neg fun hA => hc ?_) _))
    · by_cases hv : val s ≤ 4294967295
      · rw [decide_eq_true (by omega)]
        exact h1 _ (if_pos (isNum_canon.2 ⟨hv, hc⟩))
      · rw [decide_eq_false (by omega)]
        exact h2 (if_neg fun hA => hv (isNum_canon.1 hA).1) _
    · have := (num_canon (k := 9) (by decide)).1 hA
      exact ⟨this.1, this.2.1⟩
  simp only [ha, Bool.false_eq_true, if_false] at h1 h2
  refine fun _ => ref_has_c s 47 _ (by omega) fun _ => IfB.intro (fun hb => ?_) (fun hb => ?_)
  · have hb := of_decide_eq_true hb
    rw [if_pos hb] at h1 h2
    refine fun _ => ref_pfx_c s _ (by omega) (fun a n hp _ => ?_) (fun hp _ => ?_)
    · rw [hp] at h1
      refine of_eq2 (h1 _ rfl) ?_
      simp only [ofI_u32]
    · rw [hp] at h2
      exact h2 rfl _
  have hb := of_decide_eq_false hb
  rw [if_neg hb] at h1 h2
  refine fun _ => ref_has_c s 58 _ (by omega) fun _ => IfB.intro (fun hc => ?_) (fun hc => ?_)
  · have hc := of_decide_eq_true hc
    rw [if_pos hc] at h1 h2
    refine fun _ => split_c s 58 _ (by omega) fun _ => ?_
    unfold comm at h1 h2
    generalize spl 58 s = l at *
    refine IfB.intro (fun h => h2 ?_ _) (fun h => ?_)
    · split
      · rename_i n hn
        split at hn
        · simp at h
        · cases hn
      · rfl
    have h2l : l.length = 2 := by simp at h; omega
    match l, h2l with
    | [p, q], _ =>
      dsimp only at h1 h2
      refine ⟨by decide, by simp, AtN.of rfl fun _ _ => whole_c p 5 _ (by decide) (fun hp hp5 _ => ⟨by decide, by simp, AtN.of rfl fun _ _ => whole_c q 5 _ (by decide) (fun hq hq5 _ => ifT rfl (ifT rfl ?_)) (fun hq _ => ifT rfl (ifF rfl (h2 ?_ _)))⟩) (fun hp _ => ⟨by decide, by simp, AtN.of rfl fun _ _ => whole_c q 5 _ (by decide) (fun hq hq5 _ => ifF rfl (h2 ?_ _)) (fun hq _ => ifF rfl (h2 ?_ _))⟩)⟩
      · have lp := val_lt hp
        have lq := val_lt hq
        have e5 : (10 : Nat) ^ 5 = 100000 := rfl
        have lp5 : 10 ^ p.length ≤ 10 ^ 5 := Nat.pow_le_pow_right (by decide) hp5
        have lq5 : 10 ^ q.length ≤ 10 ^ 5 := Nat.pow_le_pow_right (by decide) hq5
        rw [show (65536 * ((val p : Nat) : Int)) = ((65536 * val p : Nat) : Int) by omega, wi64n _ (by omega), ← Int.natCast_add, wi64n _ (by omega)]
        refine IfB.intro (fun hA => ?_) (fun hA => h2 ?_ _)
        · have hA : val p ≤ 65535 := by simp at hA; omega
          by_cases hB : val q ≤ 65535
          · rw [decide_eq_true (by omega)]
            refine h1 _ ?_
            rw [if_pos ⟨isNum_canon.2 ⟨hA, hp⟩, isNum_canon.2 ⟨hB, hq⟩⟩]; rfl
          · rw [decide_eq_false (by omega)]
            refine h2 ?_ _
            rw [if_neg fun h => hB (isNum_canon.1 h.2).1]
        · rw [if_neg fun h => ?_]
          have := (isNum_canon.1 h.1).1
          simp at hA; omega
      · rw [if_neg fun h => ?_]
        have := (num_canon (k := 4) (by decide)).1 h.2
        exact hq ⟨this.1, this.2.1⟩
      · rw [if_neg fun h => ?_]
        have := (num_canon (k := 4) (by decide)).1 h.1
        exact hp ⟨this.1, this.2.1⟩
      · rw [if_neg fun h => ?_]
        have := (num_canon (k := 4) (by decide)).1 h.1
        exact hp ⟨this.1, this.2.1⟩
  have hc := of_decide_eq_false hc
  rw [if_neg hc] at h1 h2
  refine fun _ => ref_all_c s 46 _ (by omega) fun _ => IfB.intro (fun hd => ?_) (fun hd => ?_)
  · simp only [hd, if_true] at h1 h2
    refine fun _ => ref_parse_c s _ (by omega) fun _ => ?_
    have hlt := prs_lt s
    rw [wi64n _ (by omega)]
    by_cases h0 : (prs s).2 = 0
    · rw [h0]; exact h1 _ (if_pos h0)
    · rw [show ((prs s).2 == 0) = false from beq_eq_false_iff_ne.2 h0]
      exact h2 (if_neg h0) _
  simp only [hd, Bool.false_eq_true, if_false] at h1 h2
  cases s with
  | nil => simp at ha
  | cons x r =>
    simp only [List.head?_cons, Option.any_some] at h1 h2
    have hno : ¬ (isLet x = true ∧ 46 ∉ (x :: r) ∧ (x :: r).length ≤ 32) → K (1, x :: r, 0, ofI .u32 0, 0, 0) false := fun hn => h2 (if_neg hn) _
    refine ⟨by decide, AtN.of rfl fun _ => ref_letter_c x _ fun _ => IfB.intro (fun hx => fun _ => ref_has_c _ 46 _ (by omega) fun _ => IfB.intro (fun h46 => ?_) (fun h46 => hno fun hn => ?_)) (fun hx => hno fun hn => ?_)⟩
    · have h46 : 46 ∉ (x :: r) := by simpa using h46
      by_cases h32 : (x :: r).length ≤ 32
      · rw [decide_eq_true (by omega)]
        exact h1 _ (if_pos ⟨hx, h46, h32⟩)
      · rw [decide_eq_false (by omega)]
        exact hno fun hn => h32 hn.2.2
    · rw [decide_eq_false hn.2.1] at h46; cases h46
    · rw [hn.1] at hx; cases hx

/-! ### A text, split -/
def notLf (x : UInt8) : Bool := !(x == 10)
def setLine (t : Tok) (line : Int) : Tok := (t.1, t.2.1, t.2.2.1, t.2.2.2.1, t.2.2.2.2.1, line)
abbrev LexR := List Tok × Int × Int
def pushT (l : List Tok) (line : Int) (k : List Tok → LexR) (t : Tok) : LexR := if l.length = 4096 then ([], line, 3) else k (l ++ [setLine t line])
def lexF : Nat → List UInt8 → Int → List Tok → LexR
  | 0, _, line, _ => ([], line, 240)
  | _ + 1, [], _, l => (l, 0, 0)
  | f + 1, c :: r, line, l =>
    if c = 10 then lexF f r (line + 1) l
    else if c = 32 ∨ c = 9 then lexF f r line l
    else if c = 35 then (if ((c :: r).takeWhile notLf).all isMay = true then lexF f (r.dropWhile notLf) line l else ([], line, 240))
    else if isSign c = true then pushT l line (lexF f r line) (6, [c], 0, 0, 0, 0)
    else if isPart c = true then (match word ((c :: r).takeWhile isPart) with
      | some t => pushT l line (lexF f (r.dropWhile isPart) line) t
      | none => ([], line, 240))
    else ([], line, 240)
theorem dw_len {p : UInt8 → Bool} : ∀ l : List UInt8, (l.dropWhile p).length ≤ l.length
  | [] => by simp
  | x :: l => by
    rw [List.dropWhile_cons]
    split
    · have := dw_len (p := p) l
      simp; omega
    · exact Nat.le_refl _
theorem lexF_more : ∀ (f : Nat) (s : List UInt8) (line : Int) (l : List Tok) (g : Nat), s.length < f → s.length < g → lexF f s line l = lexF g s line l := by
  intro f
  induction f with
  | zero => intro s line l g h; omega
  | succ f ih =>
    intro s line l g hf hg
    cases g with
    | zero => omega
    | succ g =>
      cases s with
      | nil => rfl
      | cons c r =>
        simp only [List.length_cons] at hf hg
        have hr := fun line l => ih r line l g (by omega) (by omega)
        have hd := fun (p : UInt8 → Bool) line l => ih (r.dropWhile p) line l g (by have := dw_len (p := p) r; omega) (by have := dw_len (p := p) r; omega)
        simp only [lexF, pushT, hr, hd]
def lex (s : List UInt8) (line : Int) (l : List Tok) : LexR := lexF (s.length + 1) s line l
theorem lex_nil (line : Int) (l : List Tok) : lex [] line l = (l, 0, 0) := rfl
theorem lex_cons (c : UInt8) (r : List UInt8) (line : Int) (l : List Tok) : lex (c :: r) line l =
    if c = 10 then lex r (line + 1) l
    else if c = 32 ∨ c = 9 then lex r line l
    else if c = 35 then (if ((c :: r).takeWhile notLf).all isMay = true then lex (r.dropWhile notLf) line l else ([], line, 240))
    else if isSign c = true then pushT l line (lex r line) (6, [c], 0, 0, 0, 0)
    else if isPart c = true then (match word ((c :: r).takeWhile isPart) with
      | some t => pushT l line (lex (r.dropWhile isPart) line) t
      | none => ([], line, 240))
    else ([], line, 240) := by
  have hr := fun line l => lexF_more (r.length + 1) r line l (r.length + 1) (by omega) (by omega)
  have hd := fun (p : UInt8 → Bool) line l => lexF_more (r.length + 1) (r.dropWhile p) line l ((r.dropWhile p).length + 1) (by have := dw_len (p := p) r; omega) (by omega)
  simp only [lex, List.length_cons, lexF, pushT, hd]

end Go.Proofs.YtaeiblfdmlapoaaDoor
