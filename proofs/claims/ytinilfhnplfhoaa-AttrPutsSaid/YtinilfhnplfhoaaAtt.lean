/-
  Attributes (layer 20): what the program's functions and the document's find.
-/
import Derived.Test.YtinilfhnplfhoaaPth
namespace Go.Proofs.Ytinilfhnplfhoaa
open Go.Sh

abbrev Raw := Int × List UInt8
abbrev Attrs := Int × List Seg × UInt32 × Bool × UInt32 × Bool × UInt32 × Bool × Bool × UInt32 × UInt32 × List UInt32 × List Raw
abbrev Attrs.origin (a : Attrs) : Int := a.1
abbrev Attrs.path (a : Attrs) : List Seg := a.2.1
abbrev Attrs.next (a : Attrs) : UInt32 := a.2.2.1
abbrev Attrs.hasMed (a : Attrs) : Bool := a.2.2.2.1
abbrev Attrs.med (a : Attrs) : UInt32 := a.2.2.2.2.1
abbrev Attrs.hasLocal (a : Attrs) : Bool := a.2.2.2.2.2.1
abbrev Attrs.loc (a : Attrs) : UInt32 := a.2.2.2.2.2.2.1
abbrev Attrs.atomic (a : Attrs) : Bool := a.2.2.2.2.2.2.2.1
abbrev Attrs.hasMaker (a : Attrs) : Bool := a.2.2.2.2.2.2.2.2.1
abbrev Attrs.makerAS (a : Attrs) : UInt32 := a.2.2.2.2.2.2.2.2.2.1
abbrev Attrs.maker (a : Attrs) : UInt32 := a.2.2.2.2.2.2.2.2.2.2.1
abbrev Attrs.comms (a : Attrs) : List UInt32 := a.2.2.2.2.2.2.2.2.2.2.2.1
abbrev Attrs.others (a : Attrs) : List Raw := a.2.2.2.2.2.2.2.2.2.2.2.2

def knownK (k : Int) : Bool := k == 1 || k == 2 || k == 3 || k == 4 || k == 5 || k == 6 || k == 7 || k == 8 || k == 17 || k == 18
def flagOf (k : Int) : Int := if k = 1 ∨ k = 2 ∨ k = 3 ∨ k = 5 ∨ k = 6 then 64 else if k = 4 then 128 else if k = 7 ∨ k = 8 ∨ k = 17 ∨ k = 18 then 192 else 0

theorem attr_hop_c (n : Int) (K : Bool → Prop) (h : K (decide (n ≠ 0 ∧ n < 3758096384))) : attr_hop_q n K := by
  unfold attr_hop_q
  refine IfB.intro (fun h1 => of_eq h ?_) (fun h1 => of_eq h ?_) <;> simp_all

theorem attr_known_c (k : Int) (K : Int → Bool → Prop) (h : K (flagOf k) (knownK k)) : attr_known_q k K := by
  by_cases h1 : k = 1; · subst h1; exact h
  by_cases h2 : k = 2; · subst h2; exact h
  by_cases h3 : k = 3; · subst h3; exact h
  by_cases h5 : k = 5; · subst h5; exact h
  by_cases h6 : k = 6; · subst h6; exact h
  by_cases h4 : k = 4; · subst h4; exact h
  by_cases h7 : k = 7; · subst h7; exact h
  by_cases h8 : k = 8; · subst h8; exact h
  by_cases h17 : k = 17; · subst h17; exact h
  by_cases h18 : k = 18; · subst h18; exact h
  have e : ∀ n : Int, k ≠ n → (k == n) = false := fun n hn => by simpa using hn
  have ef : flagOf k = 0 := by simp [flagOf, h1, h2, h3, h4, h5, h6, h7, h8, h17, h18]
  have ek : knownK k = false := by simp [knownK, h1, h2, h3, h4, h5, h6, h7, h8, h17, h18]
  rw [ef, ek] at h
  simp only [attr_known_q, attr_known_j0, attr_known_j1, attr_known_j2, e 1 h1, e 2 h2, e 3 h3, e 4 h4, e 5 h5, e 6 h6, e 7 h7, e 8 h8, e 17 h17, e 18 h18, IfB]
  exact h
theorem ref20_known_c (k : Int) (K : Bool → Prop) (h : K (knownK k)) : ref20_known_q k K := by
  have e : knownK k = ((decide (k ≥ 1) && decide (k ≤ 8)) || k == 17 || k == 18) := by
    have : ∀ a b : Bool, (a = true ↔ b = true) → a = b := by decide
    apply this
    simp [knownK]
    omega
  rw [e] at h
  unfold ref20_known_q
  refine IfB.intro (fun h1 => IfB.intro (fun h2 => of_eq h ?_) (fun h2 => IfB.intro (fun h3 => of_eq h ?_) (fun h3 => of_eq h ?_))) (fun h1 => IfB.intro (fun h3 => of_eq h ?_) (fun h3 => of_eq h ?_))
  all_goals simp_all
  all_goals omega

/-- May others be, behind a kind? -/
def othersOk : Int → List Raw → Bool
  | _, [] => true
  | last, x :: l => (!knownK x.1 && decide (last < x.1) && decide (x.1 ≤ 255) && decide (x.2.length ≤ 255)) && othersOk x.1 l
def lastOf : Int → List Raw → Int
  | last, [] => last
  | _, x :: l => lastOf x.1 l
theorem othersOk_app : ∀ (l l' : List Raw) (last : Int), othersOk last (l ++ l') = (othersOk last l && othersOk (lastOf last l) l')
  | [], l', last => by simp [othersOk, lastOf]
  | x :: l, l', last => by simp only [List.cons_append, othersOk, lastOf, othersOk_app l l' x.1, Bool.and_assoc]
theorem lastOf_snoc : ∀ (l : List Raw) (x : Raw) (last : Int), lastOf last (l ++ [x]) = x.1
  | [], x, last => rfl
  | y :: l, x, last => by simp only [List.cons_append, lastOf]; exact lastOf_snoc l x y.1

theorem attr_others_c (l : List Raw) (K : Bool → Prop) (hl : l.length ≤ 9223372036854775807) (h : K (othersOk (-1) l && decide (l.length ≤ 8))) : attr_others_q l K := by
  unfold attr_others_q
  refine LoopJ.over l (fun pre => (lastOf (-1) pre, (pre.length : Int), ())) (fun pre => othersOk (-1) pre = true) rfl rfl (fun pre x post hp hn hP next hx => ?_) (fun hP next _ => ?_)
  · intro _
    dsimp only [attr_others_l3, attr_others_j0]
    have good : othersOk (lastOf (-1) pre) [x] = true → next (x.1, IntKind.wrap .i64 ((pre.length : Int) + 1), ()) := fun hg => by
      refine of_eq (hx (by rw [othersOk_app, hP, hg]; rfl)) ?_
      rw [lastOf_snoc, wr_i64 (by omega) (by omega)]; simp
    have bad : othersOk (lastOf (-1) pre) [x] = false → K false := fun hb => of_eq h (by
      have e : pre ++ x :: post = (pre ++ [x]) ++ post := by simp
      rw [hp, e, othersOk_app, othersOk_app, hb]; simp)
    refine ifT (decide_eq_true (by omega)) ⟨by omega, AtN.of (at_pre hp) fun _ _ => ?_⟩
    refine attr_known_c x.1 _ fun _ => IfB.intro (fun h1 => bad ?_) (fun h1 => IfB.intro (fun h2 => bad ?_) (fun h2 => IfB.intro (fun h3 => bad ?_) (fun h3 => IfB.intro (fun h4 => bad ?_) (fun h4 => good ?_))))
    · simp [othersOk, h1]
    · have h2 : ¬ lastOf (-1) pre < x.1 := by simp at h2; omega
      simp [othersOk, h2]
    · have h3 : ¬ x.1 ≤ 255 := by simp at h3; omega
      simp [othersOk, h3]
    · have h4 : ¬ x.2.length ≤ 255 := by simp at h4; omega
      simp [othersOk, h4]
    · have h2 : lastOf (-1) pre < x.1 := by simp at h2; omega
      have h3 : x.1 ≤ 255 := by simp at h3; omega
      have h4 : x.2.length ≤ 255 := by simp at h4; omega
      simp [othersOk, h1, h2, h3, h4]
  · dsimp only [attr_others_l3]
    refine ifF (decide_eq_false (by omega)) (of_eq h ?_)
    rw [hP, Bool.true_and]
    congr 1
    apply propext
    omega

/-- May attributes be? -/
def attrsOk (a : Attrs) : Bool := decide (0 ≤ a.origin) && decide (a.origin ≤ 2) && pathOk a.path && decide ((a.next.toNat : Int) ≠ 0 ∧ (a.next.toNat : Int) < 3758096384) && !(a.hasMaker && (a.makerAS.toNat : Int) == 0) && decide (a.comms.length ≤ 32) && (othersOk (-1) a.others && decide (a.others.length ≤ 8))
theorem errIf_ne (b : Bool) : (errIf b != 0) = !b := by cases b <;> rfl

theorem attr_Check_c (a : Attrs) (K : Int → Prop) (hl : a.path.length ≤ 9223372036854775807) (hc : cnt a.path ≤ 9223372036854775807) (ho : a.others.length ≤ 9223372036854775807) (h : K (errIf (attrsOk a))) : attr_Check_q a K := by
  obtain ⟨origin, path, nxt, hasMed, med, hasLocal, loc, atomic, hasMaker, makerAS, maker, comms, others⟩ := a
  have bad : attrsOk (origin, path, nxt, hasMed, med, hasLocal, loc, atomic, hasMaker, makerAS, maker, comms, others) = false → K 2 := fun hb => of_eq h (by rw [hb]; rfl)
  unfold attr_Check_q
  simp only [attrsOk, Attrs.origin, Attrs.path, Attrs.next, Attrs.hasMaker, Attrs.makerAS, Attrs.comms, Attrs.others] at *
  refine IfB.intro (fun h1 => bad ?_) (fun h1 => IfB.intro (fun h2 => bad ?_) (fun h2 => ?_))
  · have : ¬ 0 ≤ origin := by simp at h1; omega
    simp [this]
  · have : ¬ origin ≤ 2 := by simp at h2; omega
    simp [this]
  have h1 : 0 ≤ origin := by simp at h1; omega
  have h2 : origin ≤ 2 := by simp at h2; omega
  intro _
  refine path_Check_c path _ hl hc fun _ => ?_
  dsimp only [attr_Check_j0]
  rw [errIf_ne]
  refine IfB.intro (fun h3 => bad ?_) (fun h3 _ => ?_)
  · have : pathOk path = false := by simpa using h3
    simp [this]
  have h3 : pathOk path = true := by simpa using h3
  refine attr_hop_c _ _ fun _ => ?_
  refine IfB.intro (fun h4 => bad ?_) (fun h4 => ?_)
  · have : decide ((nxt.toNat : Int) ≠ 0 ∧ (nxt.toNat : Int) < 3758096384) = false := by simpa only [Bool.not_eq_true', Bool.not_eq_false'] using h4
    simp only [this, Bool.and_false, Bool.false_and]
  have h4 : decide ((nxt.toNat : Int) ≠ 0 ∧ (nxt.toNat : Int) < 3758096384) = true := by simpa only [Bool.not_eq_true', Bool.not_eq_false'] using h4
  have rest : (hasMaker && (makerAS.toNat : Int) == 0) = false → attr_Check_j1 (origin, path, nxt, hasMed, med, hasLocal, loc, atomic, hasMaker, makerAS, maker, comms, others) false K := fun h5 => by
    dsimp only [attr_Check_j1, attr_Check_j2]
    refine ifF rfl (IfB.intro (fun h6 => bad ?_) (fun h6 _ => attr_others_c others _ ho fun _ => ?_))
    · have : ¬ comms.length ≤ 32 := by simp at h6; omega
      simp [this]
    · have h6 : comms.length ≤ 32 := by simp at h6; omega
      refine of_eq (next := fun b => IfB (!b) (K 2) (K 0)) ?_ rfl
      refine IfB.intro (fun h7 => bad ?_) (fun h7 => of_eq h ?_)
      · have h7 : (othersOk (-1) others && decide (others.length ≤ 8)) = false := by simpa only [Bool.not_eq_true', Bool.not_eq_false'] using h7
        rw [h7, Bool.and_false]
      · have h7 : (othersOk (-1) others && decide (others.length ≤ 8)) = true := by simpa only [Bool.not_eq_true', Bool.not_eq_false'] using h7
        rw [h7, h3, h4, h5, decide_eq_true h1, decide_eq_true h2, decide_eq_true h6]; rfl
  refine IfB.intro (fun h5 => ?_) (fun h5 => rest ?_)
  · cases h6 : ((makerAS.toNat : Int) == 0) with
    | true =>
      dsimp only [attr_Check_j1]
      refine ifT rfl (bad ?_)
      have : (hasMaker && (makerAS.toNat : Int) == 0) = true := by rw [h6, Bool.and_true]; exact h5
      simp only [this, Bool.not_true, Bool.and_false, Bool.false_and]
    | false => exact rest (by rw [h6, Bool.and_false])
  · have h5 : hasMaker = false := h5
    rw [h5, Bool.false_and]

end Go.Proofs.Ytinilfhnplfhoaa
