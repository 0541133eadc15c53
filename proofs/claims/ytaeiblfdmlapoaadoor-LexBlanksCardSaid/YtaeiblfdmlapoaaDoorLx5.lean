/-
  The laws of splitting, as plain laws.
-/
import Derived.Test.YtaeiblfdmlapoaaDoorLx4
set_option linter.unusedSectionVars false
set_option linter.unusedSimpArgs false
set_option linter.unusedVariables false
namespace Go.Proofs.YtaeiblfdmlapoaaDoor
open Go.Sh

def line0 (t : Tok) : Tok := setLine t 0
theorem tok_eq (x y : Tok) : ((x.1 == y.1) && ((x.2.1 == y.2.1) && ((x.2.2.1 == y.2.2.1) && ((((x.2.2.2.1.toNat : Int) == (y.2.2.2.1.toNat : Int)) && ((x.2.2.2.2.1 == y.2.2.2.2.1) && true)) && true)))) = true ↔ line0 x = line0 y := by
  obtain ⟨a, b, c, d, e, f⟩ := x
  obtain ⟨a', b', c', d', e', f'⟩ := y
  have hd : (((d.toNat : Int) == (d'.toNat : Int)) = true) ↔ d = d' := by
    constructor
    · intro h
      have h := eq_of_beq h
      exact UInt32.toNat_inj.1 (by omega)
    · rintro rfl; simp
  simp only [Bool.and_eq_true, beq_iff_eq, hd, line0, setLine, Prod.mk.injEq, and_true]
theorem same_c (a b : List Tok) (lines : Bool) (K : Bool → Prop) (hl : a.length ≤ 100000) (h : a.map line0 = b.map line0) (h2 : lines = true → a = b) (hk : K true) : law24_same_q a b lines K := by
  unfold law24_same_q
  have hlen : a.length = b.length := by have := congrArg List.length h; simpa using this
  refine IfB.intro (fun h3 => ?_) (fun _ => ?_)
  · rw [hlen] at h3; simp at h3
  refine LoopJ.over a (fun pre => ((pre.length : Int), ())) (fun _ => True) rfl trivial (fun pre x post hp hn _ next hx => ?_) (fun _ next => ?_)
  · intro _
    dsimp only [law24_same_l4]
    have hi : pre.length < b.length := by omega
    have hb : b[((pre.length : Nat) : Int).toNat]? = some b[pre.length] := by rw [Int.toNat_natCast]; exact List.getElem?_eq_getElem hi
    have hxy : line0 x = line0 b[pre.length] := by
      have h3 := congrArg (fun l => l[pre.length]?) h
      simp only [List.getElem?_map] at h3
      have ha : a[pre.length]? = some x := by rw [hp]; simp
      rw [ha, List.getElem?_eq_getElem hi] at h3
      simpa using h3
    have hxy2 : lines = true → x = b[pre.length] := fun hh => by
      have h3 := h2 hh
      have ha : a[pre.length]? = some x := by rw [hp]; simp
      subst h3
      rw [List.getElem?_eq_getElem hi] at ha
      injection ha with ha
      exact ha.symm
    have key : ∀ p q : Int, p = q → law24_same_j0 a b lines (pre.length : Int) x b[pre.length] next p q K := by
      rintro p _ rfl
      unfold law24_same_j0
      have h3 := (tok_eq x b[pre.length]).2 hxy
      simp only [Bool.and_eq_true, and_true] at h3
      refine ifF ?_ (of_eq (hx trivial) (by rw [wr_i64 (by omega) (by omega)]; simp))
      simp only [Bool.not_eq_false', Bool.and_eq_true, and_true, beq_self_eq_true]
      exact h3
    refine ifT (decide_eq_true (by omega)) ⟨by omega, AtN.of (at_pre hp) fun _ => ⟨by omega, AtN.of hb fun _ => IfB.intro (fun _ => key _ _ rfl) (fun h4 => key _ _ ?_)⟩⟩
    have h4 : lines = true := by simpa using h4
    rw [hxy2 h4]
  · intro _
    dsimp only [law24_same_l4]
    exact ifF (decide_eq_false (by omega)) hk

def exText : List UInt8 := [112, 101, 101, 114, 32, 97, 32, 49, 48, 46, 48, 46, 48, 46, 50, 59]
def exToks : List Tok := [(1, [112, 101, 101, 114], 0, 0, 0, 1), (1, [97], 0, 0, 0, 1), (3, [49, 48, 46, 48, 46, 48, 46, 50], 167772162, 0, 0, 1), (6, [59], 0, 0, 0, 1)]
theorem ex_lex : lex exText 1 [] = (exToks, 0, 0) := by kernel_rfl
theorem works_c (K : Bool → Prop) (hk : K true) : law24_works_q K := by
  unfold law24_works_q
  refine fun _ => Split_c exText _ (fun _ => ?_) (fun h => absurd h (by decide))
  rw [ex_lex]
  exact fun _ => ifT rfl fun _ => same_c _ _ _ _ (by decide) (by decide +kernel) (fun h => by cases h) fun _ => hk

theorem short_c (s : List UInt8) (K : List UInt8 → Prop) (hk : ∀ t, (t.length ≤ 600 ∨ 65536 < t.length) → t.length ≤ 65537 → K t) : law24_short_q s K := by
  unfold law24_short_q
  refine IfB.intro (fun h => ?_) (fun h => ?_)
  · have h : 65536 < s.length := by simp at h; omega
    exact ⟨by decide, by omega, hk _ (.inr (by rw [List.length_take]; omega)) (by rw [List.length_take]; omega)⟩
  · refine ⟨by omega, by omega, hk _ (.inl ?_) ?_⟩
    · rw [List.length_take]; omega
    · rw [List.length_take]; omega

/-- What is split has its bound, and the lines' numbers, where all is well, are 0. -/
theorem lex_len : ∀ (k : Nat) (s : List UInt8) (line : Int) (l : List Tok), s.length ≤ k → l.length ≤ 4096 → (lex s line l).1.length ≤ 4096 := by
  intro k
  induction k with
  | zero =>
    intro s line l h hl
    rw [show s = [] from List.eq_nil_of_length_eq_zero (by omega), lex_nil]; exact hl
  | succ k ih =>
    intro s line l h hl
    cases s with
    | nil => rw [lex_nil]; exact hl
    | cons c r =>
      simp only [List.length_cons] at h
      rw [lex_cons]
      have hr : ∀ (p : UInt8 → Bool), (r.dropWhile p).length ≤ k := fun p => by have := dw_len (p := p) r; omega
      have hp : ∀ (t : Tok) (u : List UInt8), u.length ≤ k → (pushT l line (lex u line) t).1.length ≤ 4096 := fun t u hu => by
        unfold pushT
        split
        · simp
        · refine ih _ _ _ hu ?_
          rw [List.length_append, List.length_singleton]; omega
      split
      · exact ih _ _ _ (by omega) hl
      split
      · exact ih _ _ _ (by omega) hl
      split
      · split
        · exact ih _ _ _ (hr _) hl
        · simp
      split
      · exact hp _ _ (by omega)
      split
      · split
        · exact hp _ _ (hr _)
        · simp
      · simp

theorem lexSplits_c (s : List UInt8) : law24_LexSplits_q s (fun b => b = true) := by
  unfold law24_LexSplits_q
  refine fun _ => short_c s _ fun t ht ht2 _ => ?_
  have fin : ∀ (a : List Tok) (i e : Int), a.length ≤ 4096 → (WfPs law24_same_ps (a, a, true, ()) → law24_same_q a a true (fun x25 => WfPs law24_same_rs (x25, ()) → IfB x25 (IfB ((i : Int) == i) (IfB ((e : Int) == e) ((WfPs law24_works_ps (()) → law24_works_q (fun x37 => WfPs law24_works_rs (x37, ()) → x37 = true))) (false = true)) (false = true)) (false = true))) :=
    fun a i e ha _ => same_c a a true _ (by omega) rfl (fun _ => rfl) fun _ => ifT rfl (ifT (beq_self_eq_true _) (ifT (beq_self_eq_true _) fun _ => works_c _ fun _ => rfl))
  refine fun _ => Split_c t _ (fun h => ?_) (fun h => ?_)
  · refine fun _ _ => ref_Split_c t _ (fun _ => ?_) (fun h2 => by omega)
    exact fun _ => fin _ _ _ (lex_len t.length t _ _ (Nat.le_refl _) (by simp))
  · refine fun _ _ => ref_Split_c t _ (fun h2 => by omega) (fun _ => ?_)
    exact fun _ => fin _ _ _ (by simp)

/-! ### So many words -/
def semi : Tok := (6, [59], 0, 0, 0, 1)
theorem lex_semi : ∀ (k : Nat) (l : List Tok), l.length ≤ 4096 → lex (List.replicate k 59) 1 l = if l.length + k ≤ 4096 then (l ++ List.replicate k semi, 0, 0) else ([], 1, 3) := by
  intro k
  induction k with
  | zero => intro l h; rw [List.replicate_zero, lex_nil, if_pos (by omega)]; simp
  | succ k ih =>
    intro l h
    rw [List.replicate_succ, lex_cons, if_neg (by decide), if_neg (by decide), if_neg (by decide), if_pos (by decide)]
    unfold pushT
    by_cases e : l.length = 4096
    · rw [if_pos e, if_neg (by omega)]
    · rw [if_neg e, ih _ (by rw [List.length_append, List.length_singleton]; omega)]
      rw [List.length_append, List.length_singleton]
      by_cases e2 : l.length + 1 + k ≤ 4096
      · rw [if_pos e2, if_pos (by omega)]
        rw [List.replicate_succ]
        simp only [List.append_assoc, List.singleton_append]
        rfl
      · rw [if_neg e2, if_neg (by omega)]
theorem among_c (x : Int) (n : Nat) (K : Int → Prop) (hn : 0 < n) (hn2 : n ≤ 1000000) (hk : ∀ m : Nat, m < n → K (m : Int)) : base_Among_q x n K := by
  unfold base_Among_q
  refine ifF (decide_eq_false (by omega)) ?_
  rw [wu64n n (by omega)]
  refine ⟨by omega, ?_⟩
  have h0 : 0 ≤ IntKind.wrap .u64 x := by rw [wr_u64]; omega
  obtain ⟨m, hm⟩ := Int.eq_ofNat_of_zero_le h0
  rw [hm, show Int.tmod ((m : Nat) : Int) ((n : Nat) : Int) = ((m % n : Nat) : Int) from rfl]
  have hlt : m % n < n := Nat.mod_lt _ hn
  rw [wi64n _ (by omega)]
  exact hk _ hlt
theorem lexFull_c (more : Int) : law24_LexFull_q more (fun b => b = true) := by
  unfold law24_LexFull_q
  refine fun _ => works_c _ fun _ => ifF rfl fun _ => among_c more 5 _ (by decide) (by decide) fun m hm _ => ?_
  have e1 : IntKind.wrap .i64 (4094 + (m : Int)) = ((4094 + m : Nat) : Int) := by rw [wr_i64 (by omega) (by omega)]; omega
  rw [e1]
  refine ⟨by omega, by omega, by omega, ?_⟩
  refine LoopJ.up (4094 + m) (fun i => (List.replicate i 59 ++ List.replicate (4094 + m - i) 0, (i : Int), ())) (fun _ => True) (by rw [Int.toNat_natCast]; simp [ofI]) trivial (fun i hi _ next hx => ?_) (fun _ next => ?_)
  · intro _
    dsimp only [law24_LexFull_l6]
    simp only [e1]
    have hat : (List.replicate i (59 : UInt8) ++ List.replicate (4094 + m - i) 0)[((i : Nat) : Int).toNat]? = some 0 := by
      rw [Int.toNat_natCast, List.getElem?_append_right (by simp), List.length_replicate, Nat.sub_self, List.getElem?_replicate, if_pos (by omega)]
    refine ifT (decide_eq_true (by omega)) ⟨by omega, by simp; omega, AtN.of hat fun _ => of_eq (hx trivial) ?_⟩
    rw [wr_i64 (by omega) (by omega), Int.toNat_natCast]
    have e2 : 4094 + m - i = (4094 + m - (i + 1)) + 1 := by omega
    rw [e2, List.set_append_right _ _ (by simp), List.length_replicate, Nat.sub_self, List.replicate_succ (n := 4094 + m - (i + 1)), List.set_cons_zero, List.replicate_succ', List.append_assoc]
    simp [ofI]
  · intro _
    dsimp only [law24_LexFull_l6]
    rw [e1, Nat.sub_self, List.replicate_zero, List.append_nil]
    refine ifF (decide_eq_false (by omega)) fun _ => Split_c _ _ (fun _ => ?_) (fun h => by simp at h; omega)
    rw [lex_semi _ [] (by simp)]
    by_cases h : 4094 + m ≤ 4096
    · rw [if_pos (by simpa using h)]
      intro _
      refine ifT (by simp; omega) (ifT rfl (ifT ?_ rfl))
      simp
    · rw [if_neg (by simpa using h)]
      intro _
      refine ifT (by simp; omega) (ifF rfl (ifT rfl rfl))

end Go.Proofs.YtaeiblfdmlapoaaDoor
