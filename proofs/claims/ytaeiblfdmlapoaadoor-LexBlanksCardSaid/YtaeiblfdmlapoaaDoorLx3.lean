/-
  The program's and the document's splitting: one and the same.
-/
import Derived.Test.YtaeiblfdmlapoaaDoorLx2
set_option linter.unusedSectionVars false
set_option linter.unusedSimpArgs false
set_option linter.unusedVariables false
namespace Go.Proofs.YtaeiblfdmlapoaaDoor
open Go.Sh

theorem LoopJ_inv {T : Type} {x0 : T} {body : T → (T → Prop) → Prop} (I : Nat → T → Prop) (k0 : Nat) (h0 : I k0 x0) (hr : ∀ k y, I k y → ∀ next : T → Prop, (∀ k' y', k' < k → I k' y' → next y') → body y next) : LoopJ T x0 body :=
  ⟨I, k0, h0, fun k y h => hr k y h _ fun k' y' hlt h' => ⟨k', hlt, h'⟩⟩
theorem drop_at {text : List UInt8} {j : Nat} {x : UInt8} {r : List UInt8} (h : text.drop j = x :: r) : text[j]? = some x ∧ text.drop (j + 1) = r ∧ j < text.length := by
  have h1 : text[j]? = some x := by
    have : (text.drop j)[0]? = some x := by rw [h]; rfl
    rwa [List.getElem?_drop] at this
  refine ⟨h1, ?_, ?_⟩
  · have := congrArg (List.drop 1) h
    rw [List.drop_drop] at this
    exact this
  · rcases Nat.lt_or_ge j text.length with h2 | h2
    · exact h2
    · rw [List.getElem?_eq_none h2] at h1; cases h1
theorem drop_or (text : List UInt8) (j : Nat) (hj : j ≤ text.length) : (j = text.length ∧ text.drop j = []) ∨ ∃ x r, text.drop j = x :: r ∧ text[((j : Nat) : Int).toNat]? = some x ∧ text.drop (j + 1) = r ∧ j < text.length := by
  cases h : text.drop j with
  | nil =>
    have := congrArg List.length h
    simp at this
    exact .inl ⟨by omega, rfl⟩
  | cons x r =>
    obtain ⟨h1, h2, h3⟩ := drop_at h
    exact .inr ⟨x, r, rfl, h1, h2, h3⟩
theorem eqI {x n : UInt8} {m : Int} (hm : (n.toNat : Int) = m) : ((x.toNat : Int) == m) = (x == n) := by
  subst hm
  by_cases e : x = n
  · subst e; simp
  · rw [beq_eq_false_iff_ne.2 e]
    exact beq_eq_false_iff_ne.2 fun h => e (UInt8.toNat_inj.1 (by omega))
theorem u8_of {x n : UInt8} {m : Int} (h : ((x.toNat : Int) == m) = true) (hm : (n.toNat : Int) = m) : x = n := by
  rw [eqI hm] at h; exact eq_of_beq h
theorem u8_ofn {x n : UInt8} {m : Int} (h : ((x.toNat : Int) != m) = false) (hm : (n.toNat : Int) = m) : x = n := by
  refine u8_of (m := m) ?_ hm
  simpa using h
theorem take_drop_succ {text : List UInt8} {a e : Nat} {x : UInt8} (h : text[e]? = some x) (ha : a ≤ e) : (text.take (e + 1)).drop a = (text.take e).drop a ++ [x] := by
  have hl : e < text.length := (List.getElem?_eq_some_iff.1 h).1
  rw [List.take_add_one, h]
  rw [List.drop_append_of_le_length (by rw [List.length_take]; omega)]
  rfl

theorem Split_c (text : List UInt8) (K : List Tok → Int → Int → Prop) (hk : text.length ≤ 65536 → K (lex text 1 []).1 (lex text 1 []).2.1 (lex text 1 []).2.2) (hlong : 65536 < text.length → K [] 0 3) : lex_Split_q text K := by
  unfold lex_Split_q
  refine IfB.intro (fun h => hlong (by simp at h; omega)) (fun h => ?_)
  have hlen : text.length ≤ 65536 := by simp at h; omega
  replace hk := hk hlen
  generalize hR0 : lex text 1 [] = R at hk
  refine LoopJ_inv (fun k y => ∃ (l : List Tok) (line e c0 : Int) (c1 : List UInt8) (c2 c3 c4 c5 : Int) (j : Nat), y = (l, (j : Int), line, e, c0, c1, c2, c3, c4, c5, ()) ∧ j ≤ text.length ∧ k = text.length - j ∧ l.length ≤ 4096 ∧ 1 ≤ line ∧ line ≤ j + 1 ∧ lex (text.drop j) line l = R) text.length ⟨[], 1, 0, 0, [], 0, 0, 0, 0, 0, rfl, by omega, by omega, by simp, by decide, by decide, hR0⟩ ?_
  rintro k y ⟨l, line, e, c0, c1, c2, c3, c4, c5, j, rfl, hj, rfl, hl, hl1, hl2, hR⟩ next hnx
  intro _
  dsimp only [lex_Split_l2000000]
  have go : ∀ (l' : List Tok) (line' e' d0 : Int) (d1 : List UInt8) (d2 d3 d4 d5 : Int) (i : Nat), j < i → i ≤ text.length → l'.length ≤ 4096 → 1 ≤ line' → line' ≤ i + 1 → lex (text.drop i) line' l' = R → next (l', (i : Int), line', e', d0, d1, d2, d3, d4, d5, ()) := by
    intro l' line' e' d0 d1 d2 d3 d4 d5 i h1 h2 h3 h4 h5 h6
    exact hnx (text.length - i) _ (by omega) ⟨l', line', e', d0, d1, d2, d3, d4, d5, i, rfl, h2, rfl, h3, h4, h5, h6⟩
  have w1 : ∀ i : Nat, i < text.length → IntKind.wrap .i64 ((i : Int) + 1) = ((i + 1 : Nat) : Int) := fun i hi => by rw [wr_i64 (by omega) (by omega)]; omega
  rcases drop_or text j hj with ⟨he, hd⟩ | ⟨c, r, hd, hat, hdr, hlt⟩
  · refine ifT (by simp [he]) ?_
    rw [hd, lex_nil] at hR
    subst hR; exact hk
  refine ifF (by simp; omega) ⟨by omega, AtN.of hat ?_⟩
  rw [hd, lex_cons] at hR
  refine IfB.intro (fun h10 => ?_) (fun h10 => ?_)
  · have h10 : c = 10 := u8_of h10 rfl
    rw [if_pos h10] at hR
    rw [w1 j hlt, wr_i64 (n := line + 1) (by omega) (by omega)]
    exact go l (line + 1) e c0 c1 c2 c3 c4 c5 (j + 1) (by omega) (by omega) hl (by omega) (by omega) (by rw [hdr]; exact hR)
  have h10 : c ≠ 10 := fun e => by subst e; simp at h10
  rw [if_neg h10] at hR
  have blank : (c = 32 ∨ c = 9) → next (l, (IntKind.wrap .i64 ((j : Int) + 1)), line, e, c0, c1, c2, c3, c4, c5, ()) := fun hb => by
    rw [if_pos hb] at hR
    rw [w1 j hlt]
    exact go _ _ _ _ _ _ _ _ _ (j + 1) (by omega) (by omega) hl (by omega) (by omega) (by rw [hdr]; exact hR)
  refine IfB.intro (fun h32 => ?_) (fun h32 => ?_)
  · exact ifT rfl (blank (.inl (u8_of h32 rfl)))
  have h32 : c ≠ 32 := fun e => by subst e; simp at h32
  unfold lex_Split_j0
  refine IfB.intro (fun h9 => ?_) (fun h9 => ?_)
  · exact blank (.inr (u8_of h9 rfl))
  have h9 : c ≠ 9 := fun e => by subst e; simp at h9
  rw [if_neg (by rintro (h | h); exact h32 h; exact h9 h)] at hR
  refine IfB.intro (fun h35 => ?_) (fun h35 => ?_)
  · -- a remark
    have h35 : c = 35 := u8_of h35 rfl
    rw [if_pos h35] at hR
    have hcn : notLf c = true := by rw [h35]; rfl
    have hdw : r.dropWhile notLf = (text.drop j).dropWhile notLf := by rw [hd, List.dropWhile_cons, if_pos hcn]
    rw [hdw, ← hd] at hR
    refine LoopJ_inv (fun k' y' => ∃ i : Nat, y' = ((i : Int), ()) ∧ j ≤ i ∧ i ≤ text.length ∧ k' = text.length - i ∧ (text.drop i).dropWhile notLf = (text.drop j).dropWhile notLf ∧ ((text.drop i).takeWhile notLf).all isMay = ((text.drop j).takeWhile notLf).all isMay) (text.length - j) ⟨j, rfl, by omega, hj, rfl, rfl, rfl⟩ ?_
    rintro k' y' ⟨i, rfl, hi1, hi2, rfl, hi3, hi4⟩ nx hx0
    intro _
    dsimp only [lex_Split_l16]
    have leave : (text.drop i).takeWhile notLf = [] → (text.drop i).dropWhile notLf = text.drop i → next (l, (i : Int), line, e, c0, c1, c2, c3, c4, c5, ()) := fun h1 h2 => by
      rw [← hi4, h1, ← hi3, h2] at hR
      simp only [List.all_nil, if_true] at hR
      refine go _ _ _ _ _ _ _ _ _ i ?_ hi2 hl hl1 (by omega) hR
      rcases Nat.lt_or_ge j i with h | h
      · exact h
      · obtain rfl : i = j := by omega
        rw [hd, List.takeWhile_cons, if_pos hcn] at h1; cases h1
    rcases drop_or text i hi2 with ⟨he, hdi⟩ | ⟨x, u, hdi, hxi, hui, hilt⟩
    · refine ifF (decide_eq_false (by omega)) ?_
      exact ifF rfl (leave (by rw [hdi]; rfl) (by rw [hdi]; rfl))
    · refine ifT (decide_eq_true (by omega)) ⟨by omega, AtN.of hxi ?_⟩
      unfold lex_Split_j1
      refine IfB.intro (fun hx => ?_) (fun hx => leave ?_ ?_)
      · have hx : x ≠ 10 := fun e => by subst e; simp at hx
        have hxn : notLf x = true := by unfold notLf; rw [beq_eq_false_iff_ne.2 hx]; rfl
        refine ⟨by omega, AtN.of hxi fun _ => may_c x _ fun _ => IfB.intro (fun hm => ?_) (fun hm => ?_)⟩
        · have hm : isMay x = false := by simpa using hm
          have : ((text.drop j).takeWhile notLf).all isMay = false := by rw [← hi4, hdi, List.takeWhile_cons, if_pos hxn, List.all_cons, hm, Bool.false_and]
          rw [this] at hR
          unfold lex_Split_j2
          subst hR; exact hk
        · have hm : isMay x = true := by simpa using hm
          rw [w1 i hilt]
          refine hx0 (text.length - (i + 1)) _ (by omega) ⟨i + 1, rfl, by omega, by omega, rfl, ?_, ?_⟩
          · rw [hui, ← hi3, hdi, List.dropWhile_cons, if_pos hxn]
          · rw [hui, ← hi4, hdi, List.takeWhile_cons, if_pos hxn, List.all_cons, hm, Bool.true_and]
      · have hx : x = 10 := u8_ofn hx rfl
        rw [hdi, hx]; rfl
      · have hx : x = 10 := u8_ofn hx rfl
        rw [hdi, hx]; rfl
  have h35 : c ≠ 35 := fun e => by subst e; simp at h35
  rw [if_neg h35] at hR
  intro _
  unfold strings_IndexByte_q
  intro _
  rw [sign_i]
  have push : ∀ (t : Tok) (i : Nat), j < i → i ≤ text.length → pushT l line (lex (text.drop i) line) t = R → ∀ (e' : Int) (d1 : Unit), IfB (((l.length : Int) : Int) == 4096) (K [] line 3) (l.length + ([(t.1, t.2.1, t.2.2.1, t.2.2.2.1, t.2.2.2.2.1, line)] : List Tok).length ≤ 2513169434820 ∧ ∀ d0 d1 d2 d3 d4 d5, next (l ++ [(t.1, t.2.1, t.2.2.1, t.2.2.2.1, t.2.2.2.2.1, line)], (i : Int), line, e', d0, d1, d2, d3, d4, d5, ())) := by
    intro t i h1 h2 h3 e' _
    unfold pushT at h3
    refine IfB.intro (fun h => ?_) (fun h => ⟨?_, fun d0 d1 d2 d3 d4 d5 => ?_⟩)
    · rw [if_pos (by simp at h; omega)] at h3
      subst h3; exact hk
    · simp only [List.length_singleton]; omega
    · rw [if_neg (by simp at h; omega)] at h3
      refine go _ _ _ _ _ _ _ _ _ i h1 h2 ?_ hl1 (by omega) h3
      rw [List.length_append, List.length_singleton]
      simp at h; omega
  refine IfB.intro (fun hs => ?_) (fun hs => ?_)
  · rw [if_pos hs, ← hdr] at hR
    rw [w1 j hlt]
    refine ⟨by omega, by omega, by omega, by omega, ?_⟩
    unfold lex_Split_j3
    have ew : (text.take (((j + 1 : Nat) : Int).toNat)).drop ((j : Int).toNat) = [c] := by
      rw [Int.toNat_natCast, Int.toNat_natCast, take_drop_succ (by simpa using hat) (Nat.le_refl _)]
      simp
    rw [ew]
    refine ifF rfl ((push _ (j + 1) (by omega) (by omega) hR _ ()).mono (fun h => h) fun h => ⟨h.1, h.2 _ _ _ _ _ _⟩)
  rw [if_neg (by rw [hs]; decide)] at hR
  refine fun _ => part_c c _ fun _ => IfB.intro (fun hp => ?_) (fun hp => ?_)
  · rw [if_pos hp] at hR
    have hdw : r.dropWhile isPart = (text.drop j).dropWhile isPart := by rw [hd, List.dropWhile_cons, if_pos hp]
    rw [hdw, ← hd] at hR
    refine LoopJ_inv (fun k' y' => ∃ i : Nat, y' = ((i : Int), ()) ∧ j ≤ i ∧ i ≤ text.length ∧ k' = text.length - i ∧ (text.drop i).dropWhile isPart = (text.drop j).dropWhile isPart ∧ (text.take i).drop j ++ (text.drop i).takeWhile isPart = (text.drop j).takeWhile isPart) (text.length - j) ⟨j, rfl, by omega, hj, rfl, rfl, by simp⟩ ?_
    rintro k' y' ⟨i, rfl, hi1, hi2, rfl, hi3, hi4⟩ nx hx0
    intro _
    dsimp only [lex_Split_l23]
    have leave : (text.drop i).takeWhile isPart = [] → (text.drop i).dropWhile isPart = text.drop i → lex_Split_j4 text l c0 c1 c2 c3 c4 c5 (j : Int) line (i : Int) next nx false K := fun h1 h2 => by
      rw [h1, List.append_nil] at hi4
      rw [← hi4, ← hi3, h2] at hR
      have hji : j < i := by
        rcases Nat.lt_or_ge j i with h | h
        · exact h
        · obtain rfl : i = j := by omega
          rw [hd, List.takeWhile_cons, if_pos hp] at h1; cases h1
      unfold lex_Split_j4
      refine ifF rfl ⟨by omega, by omega, by omega, by omega, ?_⟩
      rw [Int.toNat_natCast, Int.toNat_natCast]
      generalize (text.take i).drop j = w at hR hi4 ⊢
      have hwl : w.length ≤ 100000 := by
        rw [hi4]
        have := (List.takeWhile_sublist (l := text.drop j) isPart).length_le
        simp at this; omega
      refine fun _ => read_c w _ hwl (fun t ht _ => ?_) (fun hw t _ => ?_)
      · rw [ht] at hR
        refine ifF rfl ?_
        simp only [ofI_u32]
        exact (push t i hji hi2 hR _ ()).mono (fun h => h) fun h => ⟨h.1, h.2 _ _ _ _ _ _⟩
      · rw [hw] at hR
        unfold lex_Split_j2
        subst hR
        exact ifT rfl hk
    rcases drop_or text i hi2 with ⟨he, hdi⟩ | ⟨x, u, hdi, hxi, hui, hilt⟩
    · refine ifF (decide_eq_false (by omega)) ?_
      exact leave (by rw [hdi]; rfl) (by rw [hdi]; rfl)
    · refine ifT (decide_eq_true (by omega)) ⟨by omega, AtN.of hxi fun _ => part_c x _ fun _ => ?_⟩
      cases hx : isPart x with
      | false => exact leave (by rw [hdi, List.takeWhile_cons, hx]; rfl) (by rw [hdi, List.dropWhile_cons, hx]; rfl)
      | true =>
        unfold lex_Split_j4
        refine ifT rfl ?_
        rw [w1 i hilt]
        refine hx0 (text.length - (i + 1)) _ (by omega) ⟨i + 1, rfl, by omega, by omega, rfl, ?_, ?_⟩
        · rw [hui, ← hi3, hdi, List.dropWhile_cons, if_pos hx]
        · rw [hui, take_drop_succ (by simpa using hxi) hi1, ← hi4, hdi, List.takeWhile_cons, if_pos hx]
          simp
  · rw [if_neg (by rw [hp]; decide)] at hR
    unfold lex_Split_j3
    subst hR
    exact ifT rfl hk

end Go.Proofs.YtaeiblfdmlapoaaDoor
