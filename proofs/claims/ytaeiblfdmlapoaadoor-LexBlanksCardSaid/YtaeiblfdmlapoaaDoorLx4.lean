/-
  The document's splitting.
-/
import Derived.Test.YtaeiblfdmlapoaaDoorLx3
set_option linter.unusedSectionVars false
set_option linter.unusedSimpArgs false
set_option linter.unusedVariables false
namespace Go.Proofs.YtaeiblfdmlapoaaDoor
open Go.Sh

theorem ref_Split_c (text : List UInt8) (K : List Tok → Int → Int → Prop) (hk : text.length ≤ 65536 → K (lex text 1 []).1 (lex text 1 []).2.1 (lex text 1 []).2.2) (hlong : 65536 < text.length → K [] 0 3) : ref24_Split_q text K := by
  unfold ref24_Split_q
  refine IfB.intro (fun h => hlong (by simp at h; omega)) (fun h => ?_)
  have hlen : text.length ≤ 65536 := by simp at h; omega
  replace hk := hk hlen
  generalize hR0 : lex text 1 [] = R at hk
  refine LoopJ_inv (fun k y => ∃ (l : List Tok) (line : Int) (j : Nat), y = (l, line, (j : Int), ()) ∧ j ≤ text.length ∧ k = text.length - j ∧ l.length ≤ 4096 ∧ 1 ≤ line ∧ line ≤ j + 1 ∧ lex (text.drop j) line l = R) text.length ⟨[], 1, 0, rfl, by omega, by omega, by simp, by decide, by decide, hR0⟩ ?_
  rintro k y ⟨l, line, j, rfl, hj, rfl, hl, hl1, hl2, hR⟩ next hnx
  intro _
  dsimp only [ref24_Split_l6]
  have go : ∀ (l' : List Tok) (line' : Int) (i : Nat), j < i → i ≤ text.length → l'.length ≤ 4096 → 1 ≤ line' → line' ≤ i + 1 → lex (text.drop i) line' l' = R → next (l', line', (i : Int), ()) := by
    intro l' line' i h1 h2 h3 h4 h5 h6
    exact hnx (text.length - i) _ (by omega) ⟨l', line', i, rfl, h2, rfl, h3, h4, h5, h6⟩
  have w1 : ∀ i : Nat, i < text.length → IntKind.wrap .i64 ((i : Int) + 1) = ((i + 1 : Nat) : Int) := fun i hi => by rw [wr_i64 (by omega) (by omega)]; omega
  rcases drop_or text j hj with ⟨he, hd⟩ | ⟨c, r, hd, hat, hdr, hlt⟩
  · refine ifF (decide_eq_false (by omega)) ?_
    rw [hd, lex_nil] at hR
    subst hR; exact hk
  refine ifT (decide_eq_true (by omega)) ⟨by omega, AtN.of hat ?_⟩
  rw [hd, lex_cons] at hR
  refine IfB.intro (fun h10 => ?_) (fun h10 => ?_)
  · have h10 : c = 10 := u8_of h10 rfl
    rw [if_pos h10] at hR
    rw [w1 j hlt, wr_i64 (n := line + 1) (by omega) (by omega)]
    exact go l (line + 1) (j + 1) (by omega) (by omega) hl (by omega) (by omega) (by rw [hdr]; exact hR)
  have h10 : c ≠ 10 := fun e => by subst e; simp at h10
  rw [if_neg h10] at hR
  have blank : (c = 32 ∨ c = 9) → next (l, line, (IntKind.wrap .i64 ((j : Int) + 1)), ()) := fun hb => by
    rw [if_pos hb] at hR
    rw [w1 j hlt]
    exact go _ _ (j + 1) (by omega) (by omega) hl (by omega) (by omega) (by rw [hdr]; exact hR)
  refine IfB.intro (fun h32 => ?_) (fun h32 => ?_)
  · exact ifT rfl (blank (.inl (u8_of h32 rfl)))
  have h32 : c ≠ 32 := fun e => by subst e; simp at h32
  unfold ref24_Split_j0
  refine IfB.intro (fun h9 => ?_) (fun h9 => ?_)
  · exact blank (.inr (u8_of h9 rfl))
  have h9 : c ≠ 9 := fun e => by subst e; simp at h9
  rw [if_neg (by rintro (h | h); exact h32 h; exact h9 h)] at hR
  refine IfB.intro (fun h35 => ?_) (fun h35 => ?_)
  · -- a remark
    have h35 : c = 35 := u8_of h35 rfl
    rw [if_pos h35] at hR
    have hcn : notLf c = true := by rw [h35]; rfl
    have hdw : r.dropWhile notLf = (text.drop j).dropWhile notLf := by rw [hd, List.dropWhile_cons, if_pos hcn]
    rw [hdw, ← hd] at hR
    refine LoopJ_inv (fun k' y' => ∃ i : Nat, y' = ((i : Int), ()) ∧ j ≤ i ∧ i ≤ text.length ∧ k' = text.length - i ∧ (text.drop i).dropWhile notLf = (text.drop j).dropWhile notLf ∧ ((text.drop i).takeWhile notLf).all isMay = ((text.drop j).takeWhile notLf).all isMay) (text.length - j) ⟨j, rfl, by omega, hj, rfl, rfl, rfl⟩ ?_
    rintro k' y' ⟨i, rfl, hi1, hi2, rfl, hi3, hi4⟩ nx hx0
    intro _
    dsimp only [ref24_Split_l14]
    have leave : (text.drop i).takeWhile notLf = [] → (text.drop i).dropWhile notLf = text.drop i → next (l, line, (i : Int), ()) := fun h1 h2 => by
      rw [← hi4, h1, ← hi3, h2] at hR
      simp only [List.all_nil, if_true] at hR
      refine go _ _ i ?_ hi2 hl hl1 (by omega) hR
      rcases Nat.lt_or_ge j i with h | h
      · exact h
      · obtain rfl : i = j := by omega
        rw [hd, List.takeWhile_cons, if_pos hcn] at h1; cases h1
    rcases drop_or text i hi2 with ⟨he, hdi⟩ | ⟨x, u, hdi, hxi, hui, hilt⟩
    · refine ifF (decide_eq_false (by omega)) ?_
      exact ifF rfl (leave (by rw [hdi]; rfl) (by rw [hdi]; rfl))
    · refine ifT (decide_eq_true (by omega)) ⟨by omega, AtN.of hxi ?_⟩
      unfold ref24_Split_j1
      refine IfB.intro (fun hx => ?_) (fun hx => leave ?_ ?_)
      · have hx : x ≠ 10 := fun e => by subst e; simp at hx
        have hxn : notLf x = true := by unfold notLf; rw [beq_eq_false_iff_ne.2 hx]; rfl
        have bad : isMay x = false → K [] line 240 := fun hm => by
          have : ((text.drop j).takeWhile notLf).all isMay = false := by rw [← hi4, hdi, List.takeWhile_cons, if_pos hxn, List.all_cons, hm, Bool.false_and]
          rw [this] at hR
          subst hR; exact hk
        have good : isMay x = true → ref24_Split_j3 text l line (i : Int) next nx K := fun hm => by
          unfold ref24_Split_j3
          rw [w1 i hilt]
          refine hx0 (text.length - (i + 1)) _ (by omega) ⟨i + 1, rfl, by omega, by omega, rfl, ?_, ?_⟩
          · rw [hui, ← hi3, hdi, List.dropWhile_cons, if_pos hxn]
          · rw [hui, ← hi4, hdi, List.takeWhile_cons, if_pos hxn, List.all_cons, hm, Bool.true_and]
        have nine : ¬ (32 ≤ x.toNat ∧ x.toNat ≤ 126) → ref24_Split_j2 text l line (i : Int) next nx (((x.toNat : Int) : Int) != 9) K := fun hno => by
          have hm : isMay x = (x == 9) := by
            unfold isMay
            have : (decide (32 ≤ x.toNat) && decide (x.toNat ≤ 126)) = false := by
              by_cases h1 : 32 ≤ x.toNat
              · rw [decide_eq_false (show ¬ x.toNat ≤ 126 from fun h2 => hno ⟨h1, h2⟩), Bool.and_false]
              · rw [decide_eq_false h1, Bool.false_and]
            rw [this, Bool.false_or]
          unfold ref24_Split_j2
          refine IfB.intro (fun h => bad ?_) (fun h => good ?_)
          · rw [hm]
            refine beq_eq_false_iff_ne.2 fun e => ?_
            subst e; simp at h
          · rw [hm, u8_ofn (n := 9) h rfl]; rfl
        refine ⟨by omega, AtN.of hxi (IfB.intro (fun h1 => ⟨by omega, AtN.of hxi (nine ?_)⟩) (fun h1 => ⟨by omega, AtN.of hxi (IfB.intro (fun h2 => ⟨by omega, AtN.of hxi (nine ?_)⟩) (fun h2 => ?_))⟩))⟩
        · simp at h1; omega
        · simp at h2; omega
        · unfold ref24_Split_j2
          refine ifF rfl (good ?_)
          simp at h1 h2
          unfold isMay
          rw [decide_eq_true (show 32 ≤ x.toNat by omega), decide_eq_true (show x.toNat ≤ 126 by omega)]; rfl
      · have hx : x = 10 := u8_ofn hx rfl
        rw [hdi, hx]; rfl
      · have hx : x = 10 := u8_ofn hx rfl
        rw [hdi, hx]; rfl
  have h35 : c ≠ 35 := fun e => by subst e; simp at h35
  rw [if_neg h35] at hR
  have push : ∀ (t : Tok) (i : Nat), j < i → i ≤ text.length → pushT l line (lex (text.drop i) line) t = R → IfB (decide (((l.length : Int) : Int) ≥ 4096)) (K [] line 3) (l.length + ([(t.1, t.2.1, t.2.2.1, t.2.2.2.1, t.2.2.2.2.1, line)] : List Tok).length ≤ 2513169434820 ∧ next (l ++ [(t.1, t.2.1, t.2.2.1, t.2.2.2.1, t.2.2.2.2.1, line)], line, (i : Int), ())) := by
    intro t i h1 h2 h3
    unfold pushT at h3
    refine IfB.intro (fun h => ?_) (fun h => ⟨?_, ?_⟩)
    · rw [if_pos (by simp at h; omega)] at h3
      subst h3; exact hk
    · simp only [List.length_singleton]; omega
    · rw [if_neg (by simp at h; omega)] at h3
      refine go _ _ i h1 h2 ?_ hl1 (by omega) h3
      rw [List.length_append, List.length_singleton]
      simp at h; omega
  rw [w1 j hlt]
  have ew : (text.take (((j + 1 : Nat) : Int).toNat)).drop ((j : Int).toNat) = [c] := by
    rw [Int.toNat_natCast, Int.toNat_natCast, take_drop_succ (by simpa using hat) (Nat.le_refl _)]
    simp
  rw [ew]
  refine ⟨by omega, by omega, by omega, by omega, fun _ => ref_sign_c c _ fun _ => IfB.intro (fun hs => ?_) (fun hs => ?_)⟩
  · have hs : isSign c = false := by simpa using hs
    rw [if_neg (by rw [hs]; decide)] at hR
    have hR2 : (match (text.drop j).takeWhile isPart with
      | [] => ([], line, 240)
      | w => (match word w with
        | some t => pushT l line (lex ((text.drop j).dropWhile isPart) line) t
        | none => ([], line, 240))) = R := by
      rw [← hR, hd, List.takeWhile_cons, List.dropWhile_cons]
      cases hp : isPart c with
      | true => rfl
      | false => rfl
    clear hR
    refine LoopJ_inv (fun k' y' => ∃ n : Nat, y' = ((n : Int), ()) ∧ j + n ≤ text.length ∧ k' = text.length - (j + n) ∧ (text.drop (j + n)).dropWhile isPart = (text.drop j).dropWhile isPart ∧ (text.take (j + n)).drop j ++ (text.drop (j + n)).takeWhile isPart = (text.drop j).takeWhile isPart) (text.length - j) ⟨0, rfl, hj, rfl, rfl, by simp⟩ ?_
    rintro k' y' ⟨n, rfl, hi2, rfl, hi3, hi4⟩ nx hx0
    intro _
    dsimp only [ref24_Split_l22]
    have wn : IntKind.wrap .i64 ((j : Int) + (n : Int)) = ((j + n : Nat) : Int) := by rw [wr_i64 (by omega) (by omega)]; omega
    rw [wn]
    have leave : (text.drop (j + n)).takeWhile isPart = [] → (text.drop (j + n)).dropWhile isPart = text.drop (j + n) → ref24_Split_j4 text l line (j : Int) (n : Int) next nx false K := fun h1 h2 => by
      rw [h1, List.append_nil] at hi4
      rw [← hi4, ← hi3, h2] at hR2
      unfold ref24_Split_j4
      have hwn : ((text.take (j + n)).drop j).length = n := by rw [List.length_drop, List.length_take]; omega
      refine ifF rfl (IfB.intro (fun h0 => ?_) (fun h0 => ?_))
      · have h0 : n = 0 := by simp at h0; omega
        have : (text.take (j + n)).drop j = [] := List.eq_nil_of_length_eq_zero (by rw [hwn, h0])
        rw [this] at hR2
        subst hR2; exact hk
      · have h0 : 0 < n := by simp at h0; omega
        rw [wn]
        refine ⟨by omega, by omega, by omega, by omega, ?_⟩
        rw [Int.toNat_natCast, Int.toNat_natCast]
        generalize (text.take (j + n)).drop j = w at hR2 hi4 hwn ⊢
        have hwl : w.length ≤ 100000 := by omega
        have hR3 : (match word w with
          | some t => pushT l line (lex (text.drop (j + n)) line) t
          | none => ([], line, 240)) = R := by
          cases w with
          | nil => simp at hwn; omega
          | cons => exact hR2
        refine fun _ => Word_c w _ hwl (fun t ht _ => ?_) (fun hw t _ => ?_)
        · rw [ht] at hR3
          refine ifF rfl ?_
          simp only [ofI_u32]
          exact push t (j + n) (by omega) hi2 hR3
        · rw [hw] at hR3
          subst hR3
          exact ifT rfl hk
    rcases drop_or text (j + n) hi2 with ⟨he, hdi⟩ | ⟨x, u, hdi, hxi, hui, hilt⟩
    · refine ifF (decide_eq_false (by omega)) ?_
      exact leave (by rw [hdi]; rfl) (by rw [hdi]; rfl)
    · refine ifT (decide_eq_true (by omega)) ⟨by omega, AtN.of hxi fun _ => ref_part_c x _ fun _ => ?_⟩
      cases hx : isPart x with
      | false => exact leave (by rw [hdi, List.takeWhile_cons, hx]; rfl) (by rw [hdi, List.dropWhile_cons, hx]; rfl)
      | true =>
        unfold ref24_Split_j4
        refine ifT rfl ?_
        rw [wr_i64 (n := (n : Int) + 1) (by omega) (by omega)]
        refine hx0 (text.length - (j + (n + 1))) _ (by omega) ⟨n + 1, by simp, by omega, rfl, ?_, ?_⟩
        · rw [← Nat.add_assoc, hui, ← hi3, hdi, List.dropWhile_cons, if_pos hx]
        · rw [← Nat.add_assoc, hui, take_drop_succ (by rw [Int.toNat_natCast] at hxi; exact hxi) (by omega), ← hi4, hdi, List.takeWhile_cons, if_pos hx]
          simp
  · have hs : isSign c = true := by simpa using hs
    rw [if_pos hs, ← hdr] at hR
    exact push _ (j + 1) (by omega) (by omega) hR

end Go.Proofs.YtaeiblfdmlapoaaDoor
