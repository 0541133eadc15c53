/-
  Blanks and remarks between words change nothing but lines.
-/
import Derived.Test.YtaeiblfdmlapoaaDoorLx5
set_option linter.unusedSectionVars false
set_option linter.unusedSimpArgs false
set_option linter.unusedVariables false
namespace Go.Proofs.YtaeiblfdmlapoaaDoor
open Go.Sh

def blanks : List (List UInt8) := [[32], [10], [9, 32, 32], [32, 35, 32, 97, 32, 114, 101, 109, 97, 114, 107, 59, 32, 123, 10], [10, 10, 35, 10]]
def TokOk (t : Tok) : Prop := t.2.1.length ≤ 600 ∧ ((∃ c, isSign c = true ∧ line0 t = (6, [c], 0, 0, 0, 0)) ∨ (t.2.1 ≠ [] ∧ t.2.1.all isPart = true ∧ word t.2.1 = some (line0 t)))
theorem word_self {w : List UInt8} {t : Tok} (h : word w = some t) : line0 t = t ∧ t.2.1 = w := by
  unfold word at h
  split at h
  · split at h
    · cases h; exact ⟨rfl, rfl⟩
    · cases h
  split at h
  · split at h
    · cases h; exact ⟨rfl, rfl⟩
    · cases h
  split at h
  · split at h
    · cases h; exact ⟨rfl, rfl⟩
    · cases h
  split at h
  · split at h
    · cases h; exact ⟨rfl, rfl⟩
    · cases h
  split at h
  · cases h; exact ⟨rfl, rfl⟩
  · cases h
theorem tw_all {p : UInt8 → Bool} : ∀ l : List UInt8, (l.takeWhile p).all p = true
  | [] => rfl
  | x :: l => by
    rw [List.takeWhile_cons]
    split
    · rename_i h; rw [List.all_cons, h, tw_all l]; rfl
    · rfl
theorem tw_len {p : UInt8 → Bool} (l : List UInt8) : (l.takeWhile p).length ≤ l.length := (List.takeWhile_sublist p).length_le
theorem lex_toks : ∀ (k : Nat) (s : List UInt8) (line : Int) (l : List Tok), s.length ≤ k → s.length ≤ 600 → (∀ t ∈ l, TokOk t) → ∀ t ∈ (lex s line l).1, TokOk t := by
  intro k
  induction k with
  | zero =>
    intro s line l h _ hl
    rw [show s = [] from List.eq_nil_of_length_eq_zero (by omega), lex_nil]; exact hl
  | succ k ih =>
    intro s line l h h6 hl
    cases s with
    | nil => rw [lex_nil]; exact hl
    | cons c r =>
      have hs := h; have hs6 := h6
      simp only [List.length_cons] at h h6
      rw [lex_cons]
      have hr : ∀ (p : UInt8 → Bool), (r.dropWhile p).length ≤ r.length := fun p => dw_len r
      have hp : ∀ (t : Tok) (u : List UInt8), u.length ≤ k → u.length ≤ 600 → TokOk (setLine t line) → ∀ t' ∈ (pushT l line (lex u line) t).1, TokOk t' := fun t u hu hu6 ht => by
        unfold pushT
        split
        · intro t' ht'; cases ht'
        · refine ih _ _ _ hu hu6 fun t' ht' => ?_
          rcases List.mem_append.1 ht' with h | h
          · exact hl _ h
          · rw [List.mem_singleton] at h; rw [h]; exact ht
      have no : ∀ t ∈ (([], line, 240) : LexR).1, TokOk t := fun t ht => by cases ht
      split
      · exact ih _ _ _ (by omega) (by omega) hl
      split
      · exact ih _ _ _ (by omega) (by omega) hl
      split
      · split
        · exact ih _ _ _ (by have := hr notLf; omega) (by have := hr notLf; omega) hl
        · exact no
      split
      · rename_i hc
        exact hp _ _ (by omega) (by omega) ⟨by simp [setLine], .inl ⟨c, hc, rfl⟩⟩
      split
      · rename_i hc
        have hne : (c :: r).takeWhile isPart ≠ [] := by rw [List.takeWhile_cons, if_pos hc]; simp
        have hall := tw_all (p := isPart) (c :: r)
        have hlen := tw_len (p := isPart) (c :: r)
        cases hw : word ((c :: r).takeWhile isPart) with
        | none => exact no
        | some t =>
          obtain ⟨h1, h2⟩ := word_self hw
          refine hp _ _ (by have := hr isPart; omega) (by have := hr isPart; omega) ⟨?_, .inr ?_⟩
          · show t.2.1.length ≤ 600
            rw [h2]; omega
          · show t.2.1 ≠ [] ∧ t.2.1.all isPart = true ∧ word t.2.1 = some (line0 t)
            rw [h2, h1]
            exact ⟨hne, hall, hw⟩
      · exact no

theorem part_no (x : UInt8) (h : isPart x = true) : x ≠ 10 ∧ ¬ (x = 32 ∨ x = 9) ∧ x ≠ 35 ∧ isSign x = false := by
  have : ∀ x : UInt8, isPart x = true → x ≠ 10 ∧ ¬ (x = 32 ∨ x = 9) ∧ x ≠ 35 ∧ isSign x = false := all256 (by decide +kernel)
  exact this x h
theorem sign_no (x : UInt8) (h : isSign x = true) : x ≠ 10 ∧ ¬ (x = 32 ∨ x = 9) ∧ x ≠ 35 := by
  have : ∀ x : UInt8, isSign x = true → x ≠ 10 ∧ ¬ (x = 32 ∨ x = 9) ∧ x ≠ 35 := all256 (by decide +kernel)
  exact this x h
theorem lex_blank {b : List UInt8} (hb : b ∈ blanks) (rest : List UInt8) (line : Int) (l : List Tok) : ∃ line', lex (b ++ rest) line l = lex rest line' l := by
  have sp : ∀ (c : UInt8) (r : List UInt8) (line : Int), (c = 32 ∨ c = 9) → lex (c :: r) line l = lex r line l := fun c r line hc => by
    rw [lex_cons, if_neg (by rcases hc with rfl | rfl <;> decide), if_pos hc]
  have nl : ∀ (r : List UInt8) (line : Int), lex (10 :: r) line l = lex r (line + 1) l := fun r line => by rw [lex_cons, if_pos rfl]
  simp only [blanks, List.mem_cons, List.not_mem_nil, or_false] at hb
  rcases hb with rfl | rfl | rfl | rfl | rfl
  · exact ⟨line, sp _ _ _ (.inl rfl)⟩
  · exact ⟨_, nl _ _⟩
  · refine ⟨line, ?_⟩
    show lex (9 :: 32 :: 32 :: rest) line l = _
    rw [sp _ _ _ (.inr rfl), sp _ _ _ (.inl rfl), sp _ _ _ (.inl rfl)]
  · refine ⟨line + 1, ?_⟩
    show lex (32 :: 35 :: 32 :: 97 :: 32 :: 114 :: 101 :: 109 :: 97 :: 114 :: 107 :: 59 :: 32 :: 123 :: 10 :: rest) line l = _
    rw [sp _ _ _ (.inl rfl), lex_cons, if_neg (by decide), if_neg (by decide), if_pos rfl, if_pos (by rfl)]
    show lex (10 :: rest) line l = _
    rw [nl]
  · refine ⟨line + 1 + 1 + 1, ?_⟩
    show lex (10 :: 10 :: 35 :: 10 :: rest) line l = _
    rw [nl, nl, lex_cons, if_neg (by decide), if_neg (by decide), if_pos rfl, if_pos (by rfl)]
    show lex (10 :: rest) (line + 1 + 1) l = _
    rw [nl]
theorem blank_first {b : List UInt8} (hb : b ∈ blanks) : ∃ c r, b = c :: r ∧ isPart c = false := by
  simp only [blanks, List.mem_cons, List.not_mem_nil, or_false] at hb
  rcases hb with rfl | rfl | rfl | rfl | rfl <;> exact ⟨_, _, rfl, rfl⟩
theorem tw_app {p : UInt8 → Bool} {c : UInt8} {r : List UInt8} (hc : p c = false) : ∀ w : List UInt8, w.all p = true → (w ++ c :: r).takeWhile p = w ∧ (w ++ c :: r).dropWhile p = c :: r
  | [], _ => by simp [hc]
  | x :: w, h => by
    rw [List.all_cons, Bool.and_eq_true] at h
    have ih := tw_app (r := r) hc w h.2
    simp [h.1, ih.1, ih.2]
theorem lex_tok {t : Tok} (ht : TokOk t) {b : List UInt8} (hb : b ∈ blanks) (rest : List UInt8) (line : Int) (l : List Tok) (hl : l.length < 4096) : ∃ line' t', line0 t' = line0 t ∧ lex (t.2.1 ++ b ++ rest) line l = lex rest line' (l ++ [t']) := by
  obtain ⟨_, ht | ht⟩ := ht
  · obtain ⟨c, hc, he⟩ := ht
    obtain ⟨h1, h2, h3⟩ := sign_no c hc
    have hw : t.2.1 = [c] := by have := congrArg (fun t : Tok => t.2.1) he; exact this
    obtain ⟨line', hr⟩ := lex_blank hb rest line (l ++ [setLine (6, [c], 0, 0, 0, 0) line])
    refine ⟨line', setLine (6, [c], 0, 0, 0, 0) line, by rw [he]; rfl, ?_⟩
    rw [hw]
    show lex (c :: (b ++ rest)) line l = _
    rw [lex_cons, if_neg h1, if_neg h2, if_neg h3, if_pos hc]
    unfold pushT
    rw [if_neg (by omega), hr]
  · obtain ⟨hne, hall, hw⟩ := ht
    obtain ⟨c0, r0, rfl, hc0⟩ := blank_first hb
    have hta := tw_app (r := r0 ++ rest) hc0 t.2.1 hall
    obtain ⟨line', hr⟩ := lex_blank hb rest line (l ++ [setLine (line0 t) line])
    refine ⟨line', setLine (line0 t) line, rfl, ?_⟩
    generalize t.2.1 = w at *
    cases w with
    | nil => exact absurd rfl hne
    | cons c w =>
      rw [List.all_cons, Bool.and_eq_true] at hall
      obtain ⟨h1, h2, h3, h4⟩ := part_no c hall.1
      have e : (c :: w) ++ (c0 :: r0) ++ rest = c :: (w ++ c0 :: (r0 ++ rest)) := by simp
      have hdr : (w ++ c0 :: (r0 ++ rest)).dropWhile isPart = c0 :: (r0 ++ rest) := by
        have := hta.2
        rwa [List.cons_append, List.dropWhile_cons, if_pos hall.1] at this
      rw [e, lex_cons, if_neg h1, if_neg h2, if_neg h3, if_neg (by rw [h4]; decide), if_pos hall.1, ← List.cons_append, hta.1, hw, hdr]
      dsimp only
      unfold pushT
      rw [if_neg (by omega)]
      exact hr

def Joined : List Tok → List UInt8 → Prop
  | [], t => t = []
  | x :: l, t => ∃ b, b ∈ blanks ∧ ∃ r, Joined l r ∧ t = x.2.1 ++ b ++ r
theorem joined_snoc {x : Tok} {b : List UInt8} (hb : b ∈ blanks) : ∀ (l : List Tok) (t : List UInt8), Joined l t → Joined (l ++ [x]) (t ++ (x.2.1 ++ b))
  | [], t, h => by
    cases h
    exact ⟨b, hb, [], rfl, by simp⟩
  | y :: l, t, h => by
    obtain ⟨b2, hb2, r, hr, rfl⟩ := h
    exact ⟨b2, hb2, _, joined_snoc hb l r hr, by simp⟩
theorem joined_lex : ∀ (l : List Tok) (t : List UInt8) (line : Int) (acc : List Tok), (∀ x ∈ l, TokOk x) → Joined l t → acc.length + l.length ≤ 4096 → ∃ res : List Tok, lex t line acc = (acc ++ res, 0, 0) ∧ res.map line0 = l.map line0
  | [], t, line, acc, _, h, _ => by
    cases h
    exact ⟨[], by rw [lex_nil]; simp, rfl⟩
  | x :: l, t, line, acc, hl, h, hlen => by
    obtain ⟨b, hb, r, hr, rfl⟩ := h
    simp only [List.length_cons] at hlen
    obtain ⟨line', t', h1, h2⟩ := lex_tok (hl x (by simp)) hb r line acc (by omega)
    obtain ⟨res, h3, h4⟩ := joined_lex l r line' (acc ++ [t']) (fun y hy => hl y (by simp [hy])) hr (by rw [List.length_append, List.length_singleton]; omega)
    exact ⟨t' :: res, by rw [h2, h3]; simp, by simp [h1, h4]⟩

theorem blanks_len {b : List UInt8} (hb : b ∈ blanks) : b.length ≤ 15 := by
  simp only [blanks, List.mem_cons, List.not_mem_nil, or_false] at hb
  rcases hb with rfl | rfl | rfl | rfl | rfl <;> decide
theorem lexBlanks_c (s : List UInt8) (bl : List Int) : law24_LexBlanks_q s bl (fun b => b = true) := by
  unfold law24_LexBlanks_q
  refine fun _ => works_c _ fun _ => ifF rfl fun _ => short_c s _ fun t ht ht2 _ => ?_
  refine fun _ => Split_c t _ (fun h => ?_) (fun h => fun _ => ifT rfl (ifT rfl rfl))
  have ht6 : t.length ≤ 600 := by omega
  have htok := lex_toks t.length t 1 [] (Nat.le_refl _) ht6 (fun _ h => by cases h)
  generalize (lex t 1 []).1 = l at htok ⊢
  generalize (lex t 1 []).2.1 = i
  generalize (lex t 1 []).2.2 = e
  intro _
  unfold law24_LexBlanks_j0
  refine IfB.intro (fun _ => ifT rfl rfl) (fun _ => IfB.intro (fun _ => rfl) (fun h100 => ?_))
  have h100 : l.length ≤ 100 := by simp at h100; omega
  refine LoopJ_inv (fun k y => ∃ (pre post : List Tok) (u : List UInt8), l = pre ++ post ∧ y = (u, (pre.length : Int), ()) ∧ k = post.length ∧ Joined pre u ∧ u.length ≤ 615 * pre.length) l.length ⟨[], l, [], rfl, rfl, rfl, rfl, by simp⟩ ?_
  rintro k y ⟨pre, post, u, hl, rfl, rfl, hJ, hu⟩ next hnx
  intro _
  dsimp only [law24_LexBlanks_l9]
  have hll : l.length = pre.length + post.length := by rw [hl, List.length_append]
  cases post with
  | nil =>
    rw [List.append_nil] at hl
    subst hl
    obtain ⟨res, h1, h2⟩ := joined_lex _ u 1 [] htok hJ (by simp; omega)
    refine ifF (decide_eq_false (by omega)) fun _ => Split_c u _ (fun _ => ?_) (fun h => by omega)
    rw [h1]
    exact fun _ => ifT rfl fun _ => same_c _ _ _ _ (by omega) (by simpa using h2.symm) (fun h => by cases h) fun _ => rfl
  | cons x post =>
    simp only [List.length_cons] at hll
    have hx : TokOk x := htok x (by rw [hl]; simp)
    have key : ∀ m : Nat, m < 5 → law24_LexBlanks_j1 bl l u (pre.length : Int) next (m : Int) (fun b => b = true) := by
      intro m hm
      unfold law24_LexBlanks_j1
      have hmem : blanks[((m : Nat) : Int).toNat]? = some (blanks[m]'(by simpa [blanks] using hm)) := by rw [Int.toNat_natCast]; exact List.getElem?_eq_getElem _
      have hb : blanks[m]'(by simpa [blanks] using hm) ∈ blanks := List.getElem_mem _
      generalize blanks[m]'(by simpa [blanks] using hm) = b at hmem hb
      have hbl := blanks_len hb
      have hxl := hx.1
      refine ⟨by omega, by omega, AtN.of (at_pre hl) fun _ => ⟨by omega, by simp; omega, AtN.of hmem fun _ => ⟨by unfold lenMax; omega, by unfold lenMax; rw [List.length_append]; omega, ?_⟩⟩⟩
      rw [wr_i64 (by omega) (by omega)]
      refine hnx post.length _ (by simp) ⟨pre ++ [x], post, u ++ (x.2.1 ++ b), by rw [hl]; simp, by simp, rfl, joined_snoc hb pre u hJ, ?_⟩
      simp only [List.length_append, List.length_singleton]
      omega
    refine ifT (decide_eq_true (by omega)) (IfB.intro (fun hb => ?_) (fun _ => key 0 (by decide)))
    have hb : pre.length < bl.length := by simp at hb; omega
    exact ⟨by omega, AtN.of (by rw [Int.toNat_natCast]; exact List.getElem?_eq_getElem hb) fun _ _ => among_c _ 5 _ (by decide) (by decide) fun m hm _ => key m hm⟩

end Go.Proofs.YtaeiblfdmlapoaaDoor
