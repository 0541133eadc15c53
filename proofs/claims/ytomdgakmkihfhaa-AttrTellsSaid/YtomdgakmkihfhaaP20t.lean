/-
  Paths and attributes as data.
  Paths (layer 19): what the program's functions and the document's find.
  Attributes (layer 20): what the program's functions and the document's find.
  Attributes (layer 20): what the program puts.
  Attributes (layer 20): what the program puts, and what the document does.
  Attributes (layer 20): what the document puts; the copies.
  Attributes (layer 20): copies.
  Attributes (layer 20): attributes with few members.
  The law: any attributes are put as the document says, or refused.
  When attributes are the same: plainly.
  When attributes are the same: what the program finds.
  When attributes are the same: what the document finds.
-/
import Derived.Test.YtomdgakmkihfhaaHm1
import Derived.Test.YtomdgakmkihfhaaQ
namespace Go.Proofs.Ytomdgakmkihfhaa
open Go.Sh

abbrev Seg := Bool × List UInt32
abbrev Raw := Int × List UInt8
abbrev Attrs := Int × List Seg × UInt32 × Bool × UInt32 × Bool × UInt32 × Bool × Bool × UInt32 × UInt32 × List UInt32 × List Raw
abbrev Attrs.origin (a : Attrs) : Int := a.1
abbrev Attrs.path (a : Attrs) : List Seg := a.2.1
abbrev Attrs.next (a : Attrs) : UInt32 := a.2.2.1
abbrev Attrs.hasMed (a : Attrs) : Bool := a.2.2.2.1
abbrev Attrs.med (a : Attrs) : UInt32 := a.2.2.2.2.1
abbrev Attrs.hasLocal (a : Attrs) : Bool := a.2.2.2.2.2.1
abbrev Attrs.loc (a : Attrs) : UInt32 := a.2.2.2.2.2.2.1
abbrev Attrs.atomic (a : Attrs) : Bool := a.2.2.2.2.2.2.2.1
abbrev Attrs.hasMaker (a : Attrs) : Bool := a.2.2.2.2.2.2.2.2.1
abbrev Attrs.makerAS (a : Attrs) : UInt32 := a.2.2.2.2.2.2.2.2.2.1
abbrev Attrs.maker (a : Attrs) : UInt32 := a.2.2.2.2.2.2.2.2.2.2.1
abbrev Attrs.comms (a : Attrs) : List UInt32 := a.2.2.2.2.2.2.2.2.2.2.2.1
abbrev Attrs.others (a : Attrs) : List Raw := a.2.2.2.2.2.2.2.2.2.2.2.2

end Go.Proofs.Ytomdgakmkihfhaa

namespace Go.Proofs.Ytomdgakmkihfhaa
open Go.Sh

/-- How many systems. -/
def cnt (p : List Seg) : Nat := (p.map (·.2.length)).sum
theorem cnt_snoc (p : List Seg) (s : Seg) : cnt (p ++ [s]) = cnt p + s.2.length := by simp [cnt]
theorem cnt_nil : cnt [] = 0 := rfl

theorem path_count_c (p : List Seg) (K : Int → Prop) (hl : p.length ≤ 9223372036854775807) (hc : cnt p ≤ 9223372036854775807) (h : K (cnt p)) : path_count_q p K := by
  unfold path_count_q
  refine LoopJ.list p (fun pre => ((cnt pre : Int), (pre.length : Int), ())) (fun _ => True) rfl trivial (fun pre s post hp _ next hn => ?_) (fun _ next _ => ?_)
  · intro _
    dsimp only [path_count_l3]
    refine ifT (by simp [hp]; omega) ⟨by omega, AtN.of (at_pre hp) fun _ => of_eq (hn trivial) ?_⟩
    have h1 : p.length = pre.length + 1 + post.length := by rw [hp]; simp; omega
    have h2 : cnt p = cnt pre + s.2.length + cnt post := by rw [hp]; simp [cnt]; omega
    rw [wr_i64 (by omega) (by omega), wr_i64 (by omega) (by omega), cnt_snoc]
    simp
  · dsimp only [path_count_l3]
    exact ifF (by simp) h

/-- The place of the first one. -/
theorem index_c (l : List UInt32) (v : Int) (K : Int → Prop) (hl : l.length ≤ 9223372036854775807) (h1 : ∀ i : Nat, (∃ x ∈ l, (x.toNat : Int) = v) → K i) (h2 : (∀ x ∈ l, (x.toNat : Int) ≠ v) → K (-1)) : slices_Indexasl_uint32_uint32_q l v K := by
  unfold slices_Indexasl_uint32_uint32_q
  refine LoopJ.list l (fun pre => ((pre.length : Int), ())) (fun pre => ∀ x ∈ pre, (x.toNat : Int) ≠ v) rfl (by simp) (fun pre x post hp hP next hn => ?_) (fun hP next _ => ?_)
  · intro _
    dsimp only [slices_Indexasl_uint32_uint32_l2]
    refine ifT (by simp [hp]; omega) ⟨by omega, AtN.of (at_pre hp) fun _ => ?_⟩
    refine IfB.intro (fun h => ?_) (fun h => ?_)
    · exact h1 pre.length ⟨x, by simp [hp], by simpa using (by simpa using h : v = (x.toNat : Int)).symm⟩
    · have hne : v ≠ (x.toNat : Int) := by simpa using h
      refine of_eq (hn fun y hy => ?_) ?_
      · rcases List.mem_append.1 hy with hy | hy
        · exact hP y hy
        · simp only [List.mem_singleton] at hy
          subst hy
          exact fun e => hne e.symm
      · have h1 : l.length = pre.length + 1 + post.length := by rw [hp]; simp; omega
        rw [wr_i64 (by omega) (by omega)]
        simp
  · dsimp only [slices_Indexasl_uint32_uint32_l2]
    exact ifF (by simp) (h2 hP)
theorem contains_c (l : List UInt32) (v : Int) (K : Bool → Prop) (hl : l.length ≤ 9223372036854775807) (h : K (l.any fun x => (x.toNat : Int) == v)) : slices_Containsasl_uint32_uint32_q l v K := by
  unfold slices_Containsasl_uint32_uint32_q
  intro _
  refine index_c l v _ hl (fun i hx _ => of_eq h ?_) (fun hx _ => of_eq h ?_)
  · obtain ⟨x, hx, hv⟩ := hx
    rw [List.any_eq_true.2 ⟨x, hx, by simp [hv]⟩]
    simp
  · have : (l.any fun x => (x.toNat : Int) == v) = false := by
      rw [List.any_eq_false]; intro x h; simpa using hx x h
    rw [this]; rfl

theorem u32_ne0 (x : UInt32) : (x != 0) = !((x.toNat : Int) == 0) := by
  by_cases h : x = 0
  · subst h; rfl
  · have : x.toNat ≠ 0 := fun e => h (UInt32.toNat_inj.1 e)
    have h2 : ((x.toNat : Int) == 0) = false := by simpa using this
    rw [h2]
    simp [h]
/-- May a segment be? -/
def partOk (s : Seg) : Bool := decide (0 < s.2.length) && decide (s.2.length ≤ 255) && s.2.all fun x => x != 0
theorem path_part_c (s : Seg) (K : Bool → Prop) (h : K (partOk s)) : path_part_q s K := by
  unfold path_part_q
  refine IfB.intro (fun h1 => IfB.intro (fun h2 => ?_) (fun h2 => of_eq h ?_)) (fun h1 => of_eq h ?_)
  · intro _
    have h1 : 0 < s.2.length := by simpa using h1
    have h2 : s.2.length ≤ 255 := by simp at h2; omega
    refine contains_c s.2 0 _ (by omega) (fun _ => of_eq h ?_)
    have e : (s.2.all fun x => x != 0) = !(s.2.any fun x => (x.toNat : Int) == 0) := by
      rw [List.not_any_eq_all_not]
      congr 1
      funext x
      exact u32_ne0 x
    simp [partOk, h1, h2, e]
  · have : ¬ s.2.length ≤ 255 := by simp at h2; omega
    simp [partOk, this]
  · have : ¬ 0 < s.2.length := by simp at h1; simp [h1]
    simp [partOk, this]
/-- May a path be? -/
def pathOk (p : List Seg) : Bool := p.all partOk && decide (cnt p ≤ 64)
def errIf (b : Bool) : Int := if b then 0 else 2
theorem path_Check_c (p : List Seg) (K : Int → Prop) (hl : p.length ≤ 9223372036854775807) (hc : cnt p ≤ 9223372036854775807) (h : K (errIf (pathOk p))) : path_Check_q p K := by
  unfold path_Check_q
  refine LoopJ.over p (fun pre => ((pre.length : Int), ())) (fun pre => pre.all partOk = true) rfl rfl (fun pre s post hp hn hP next hx => ?_) (fun hP next _ => ?_)
  · intro _
    dsimp only [path_Check_l2]
    refine ifT (decide_eq_true (by omega)) ⟨by omega, AtN.of (at_pre hp) fun _ _ => ?_⟩
    refine path_part_c s _ fun _ => IfB.intro (fun h1 => of_eq h ?_) (fun h1 => of_eq (hx ?_) ?_)
    · have : p.all partOk = false := by
        rw [hp]; simp at h1; simp [h1]
      simp [pathOk, this, errIf]
    · simp at h1
      simp [h1]
      simpa using hP
    · rw [wr_i64 (by omega) (by omega)]; simp
  · dsimp only [path_Check_l2]
    refine ifF (decide_eq_false (by omega)) fun _ => path_count_c p _ hl hc fun _ => IfB.intro (fun h1 => of_eq h ?_) (fun h1 => of_eq h ?_)
    · have : ¬ cnt p ≤ 64 := by simp at h1; omega
      simp [pathOk, this, errIf]
    · have : cnt p ≤ 64 := by simp at h1; omega
      rw [pathOk, hP, decide_eq_true this]; rfl
theorem pathOk_all {p pre post : List Seg} {s : Seg} (hp : p = pre ++ s :: post) (h : partOk s = false) : pathOk p = false := by
  have : p.all partOk = false := by rw [hp]; simp [h]
  simp [pathOk, this]
theorem pathOk_cnt {p : List Seg} (h : 64 < cnt p) : pathOk p = false := by
  have : ¬ cnt p ≤ 64 := by omega
  simp [pathOk, this]
theorem cnt_parts (pre post : List Seg) (s : Seg) : cnt (pre ++ s :: post) = cnt pre + s.2.length + cnt post := by simp [cnt]; omega

/-- A path's bytes. -/
def encAS (four : Bool) (x : UInt32) : List UInt8 := if four then be4 x.toNat else be2 (if x.toNat > 65535 then 23456 else x.toNat)
def encSeg (four : Bool) (s : Seg) : List UInt8 := [if s.1 then 1 else 2, UInt8.ofNat s.2.length] ++ s.2.flatMap (encAS four)
def encPath (four : Bool) (p : List Seg) : List UInt8 := p.flatMap (encSeg four)
theorem encAS_len (four : Bool) (x : UInt32) : (encAS four x).length ≤ 4 := by unfold encAS; split <;> simp [be4, be2]
theorem encASs_len (four : Bool) : ∀ l : List UInt32, (l.flatMap (encAS four)).length ≤ 4 * l.length
  | [] => by simp
  | x :: l => by
    have h1 := encAS_len four x
    have h2 := encASs_len four l
    simp only [List.flatMap_cons, List.length_append, List.length_cons]
    omega
theorem encPath_len (four : Bool) : ∀ p : List Seg, (encPath four p).length ≤ 2 * p.length + 4 * cnt p
  | [] => by simp [encPath]
  | s :: p => by
    have h1 := encASs_len four s.2
    have h2 := encPath_len four p
    have h3 : cnt (s :: p) = s.2.length + cnt p := by simp [cnt]
    have h4 : (encPath four (s :: p)).length = 2 + (s.2.flatMap (encAS four)).length + (encPath four p).length := by simp [encPath, encSeg]; omega
    simp only [List.length_cons]
    omega
theorem parts_len : ∀ p : List Seg, p.all partOk = true → p.length ≤ cnt p
  | [], _ => by simp
  | s :: p, h => by
    simp only [List.all_cons, Bool.and_eq_true] at h
    have h1 := parts_len p h.2
    have h2 : 0 < s.2.length := by have := h.1; simp only [partOk, Bool.and_eq_true, decide_eq_true_eq] at this; exact this.1.1
    have h3 : cnt (s :: p) = s.2.length + cnt p := by simp [cnt]
    simp only [List.length_cons]
    omega
theorem encPath_snoc (four : Bool) (p : List Seg) (s : Seg) : encPath four (p ++ [s]) = encPath four p ++ encSeg four s := by simp [encPath]
/-- What is written on the way is short. -/
theorem enc_short {four : Bool} {p pre post : List Seg} {s : Seg} (hp : p = pre ++ s :: post) (hok : pathOk p = true) : (encPath four pre).length + 4 * s.2.length + 10 ≤ 1000 := by
  simp only [pathOk, Bool.and_eq_true, decide_eq_true_eq] at hok
  have h1 := parts_len p hok.1
  have h2 := encPath_len four pre
  have h3 := cnt_parts pre post s
  rw [← hp] at h3
  have h4 : pre.length ≤ p.length := by rw [hp]; simp
  omega
theorem encAS_four (x : UInt32) : encAS true x = [UInt8.ofNat (x.toNat / 16777216), UInt8.ofNat (x.toNat / 65536), UInt8.ofNat (x.toNat / 256), UInt8.ofNat x.toNat] := rfl

theorem path_kind_c (s : Seg) (K : Int → Prop) (h : K (if s.1 then 1 else 2)) : path_kind_q s K := by
  unfold path_kind_q
  refine IfB.intro (fun h1 => of_eq h ?_) (fun h1 => of_eq h ?_) <;> simp [h1]

theorem path_Put_c (p : List Seg) (four : Bool) (K : List UInt8 → Int → Prop) (hl : p.length ≤ 9223372036854775807) (hc : cnt p ≤ 9223372036854775807) (h : K (if pathOk p then encPath four p else []) (errIf (pathOk p))) : path_Put_q p four K := by
  unfold path_Put_q
  intro _
  refine path_Check_c p _ hl hc fun _ => IfB.intro (fun h1 => ?_) (fun h1 => ?_)
  · have : pathOk p = false := by cases hb : pathOk p <;> simp [errIf, hb] at h1 ⊢
    rw [this] at h ⊢
    exact h
  · have hok : pathOk p = true := by cases hb : pathOk p <;> simp [errIf, hb] at h1 ⊢
    rw [hok] at h
    refine LoopJ.over p (fun pre => (encPath four pre, (pre.length : Int), ())) (fun _ => True) rfl trivial (fun pre s post hp hn _ next hx => ?_) (fun _ next _ => ?_)
    · intro _
      dsimp only [path_Put_l6]
      have hsh := enc_short (four := four) hp hok
      refine ifT (decide_eq_true (by omega)) ⟨by omega, AtN.of (at_pre hp) fun _ _ => path_kind_c s _ fun _ => ⟨by simp only [List.length_cons, List.length_nil]; omega, ?_⟩⟩
      refine LoopJ.over s.2 (fun l => (encPath four pre ++ [if s.1 then 1 else 2, UInt8.ofNat s.2.length] ++ l.flatMap (encAS four), (l.length : Int), ())) (fun _ => True) ?_ trivial (fun l x r hs hm _ next' hy => ?_) (fun _ next' _ => ?_)
      · rw [of8w]
        cases s.1 <;> simp [ofI]
      · intro _
        dsimp only [path_Put_l10]
        have h5 := encASs_len four l
        refine ifT (decide_eq_true (by omega)) ⟨by omega, AtN.of (at_pre hs) fun _ => IfB.intro (fun h1 => ?_) (fun h1 => IfB.intro (fun h2 => ?_) (fun h2 => ?_))⟩
        · refine ⟨by omega, by omega, by simp only [List.length_append, List.length_cons, List.length_nil]; omega, by decide, by simp only [List.length_append, List.length_cons, List.length_nil]; omega, ?_⟩
          dsimp only [path_Put_j1]
          refine of_eq (hy trivial) ?_
          rw [wr_i64 (by omega) (by omega), fdiv_1, fdiv_2, fdiv_3, of8w, of8w, of8w, of8w]
          simp [h1, encAS_four]
        · refine ⟨by decide, by simp only [List.length_append, List.length_cons, List.length_nil]; omega, ?_⟩
          dsimp only [path_Put_j1]
          refine of_eq (hy trivial) ?_
          have h2 : x.toNat > 65535 := by simp at h2; omega
          rw [wr_i64 (by omega) (by omega)]
          simp [h1, encAS, h2, be2]
          decide
        · refine ⟨by decide, by simp only [List.length_append, List.length_cons, List.length_nil]; omega, ?_⟩
          dsimp only [path_Put_j1]
          refine of_eq (hy trivial) ?_
          have h2 : ¬ x.toNat > 65535 := by simp at h2; omega
          rw [wr_i64 (by omega) (by omega), fdiv_1, of8w, of8w]
          simp [h1, encAS, h2, be2]
      · dsimp only [path_Put_l10]
        refine ifF (decide_eq_false (by omega)) (of_eq (hx trivial) ?_)
        rw [wr_i64 (by omega) (by omega), encPath_snoc]
        simp [encSeg]
    · dsimp only [path_Put_l6]
      exact ifF (decide_eq_false (by omega)) h

theorem ref19_Copy_c (p : List Seg) (K : List Seg → Prop) (hl : p.length < 1000000000) (hs : ∀ s ∈ p, s.2.length ≤ 35184372088736) (h : K p) : ref19_Copy_q p K := by
  unfold ref19_Copy_q
  refine LoopJ.over p (fun pre => (pre, (pre.length : Int), ())) (fun _ => True) rfl trivial (fun pre s post hp hn _ next hx => ?_) (fun _ next _ => ?_)
  · intro _
    dsimp only [ref19_Copy_l3]
    have := hs s (by simp [hp])
    refine ifT (decide_eq_true (by omega)) ⟨by omega, AtN.of (at_pre hp) fun _ => ⟨by omega, AtN.of (at_pre hp) fun _ => ⟨by simpa using this, by simp only [List.length_cons, List.length_nil]; omega, of_eq (hx trivial) ?_⟩⟩⟩
    rw [wr_i64 (by omega) (by omega)]; simp
  · dsimp only [ref19_Copy_l3]
    exact ifF (decide_eq_false (by omega)) h

end Go.Proofs.Ytomdgakmkihfhaa

namespace Go.Proofs.Ytomdgakmkihfhaa
open Go.Sh

def knownK (k : Int) : Bool := k == 1 || k == 2 || k == 3 || k == 4 || k == 5 || k == 6 || k == 7 || k == 8 || k == 17 || k == 18
def flagOf (k : Int) : Int := if k = 1 ∨ k = 2 ∨ k = 3 ∨ k = 5 ∨ k = 6 then 64 else if k = 4 then 128 else if k = 7 ∨ k = 8 ∨ k = 17 ∨ k = 18 then 192 else 0

theorem attr_hop_c (n : Int) (K : Bool → Prop) (h : K (decide (n ≠ 0 ∧ n < 3758096384))) : attr_hop_q n K := by
  unfold attr_hop_q
  refine IfB.intro (fun h1 => of_eq h ?_) (fun h1 => of_eq h ?_) <;> simp_all

theorem attr_known_c (k : Int) (K : Int → Bool → Prop) (h : K (flagOf k) (knownK k)) : attr_known_q k K := by
  by_cases h1 : k = 1; · subst h1; exact h
  by_cases h2 : k = 2; · subst h2; exact h
  by_cases h3 : k = 3; · subst h3; exact h
  by_cases h5 : k = 5; · subst h5; exact h
  by_cases h6 : k = 6; · subst h6; exact h
  by_cases h4 : k = 4; · subst h4; exact h
  by_cases h7 : k = 7; · subst h7; exact h
  by_cases h8 : k = 8; · subst h8; exact h
  by_cases h17 : k = 17; · subst h17; exact h
  by_cases h18 : k = 18; · subst h18; exact h
  have e : ∀ n : Int, k ≠ n → (k == n) = false := fun n hn => by simpa using hn
  have ef : flagOf k = 0 := by simp [flagOf, h1, h2, h3, h4, h5, h6, h7, h8, h17, h18]
  have ek : knownK k = false := by simp [knownK, h1, h2, h3, h4, h5, h6, h7, h8, h17, h18]
  rw [ef, ek] at h
  simp only [attr_known_q, attr_known_j0, attr_known_j1, attr_known_j2, e 1 h1, e 2 h2, e 3 h3, e 4 h4, e 5 h5, e 6 h6, e 7 h7, e 8 h8, e 17 h17, e 18 h18, IfB]
  exact h
/-- May others be, behind a kind? -/
def othersOk : Int → List Raw → Bool
  | _, [] => true
  | last, x :: l => (!knownK x.1 && decide (last < x.1) && decide (x.1 ≤ 255) && decide (x.2.length ≤ 255)) && othersOk x.1 l
def lastOf : Int → List Raw → Int
  | last, [] => last
  | _, x :: l => lastOf x.1 l
theorem othersOk_app : ∀ (l l' : List Raw) (last : Int), othersOk last (l ++ l') = (othersOk last l && othersOk (lastOf last l) l')
  | [], l', last => by simp [othersOk, lastOf]
  | x :: l, l', last => by simp only [List.cons_append, othersOk, lastOf, othersOk_app l l' x.1, Bool.and_assoc]
theorem lastOf_snoc : ∀ (l : List Raw) (x : Raw) (last : Int), lastOf last (l ++ [x]) = x.1
  | [], x, last => rfl
  | y :: l, x, last => by simp only [List.cons_append, lastOf]; exact lastOf_snoc l x y.1

theorem attr_others_c (l : List Raw) (K : Bool → Prop) (hl : l.length ≤ 9223372036854775807) (h : K (othersOk (-1) l && decide (l.length ≤ 8))) : attr_others_q l K := by
  unfold attr_others_q
  refine LoopJ.over l (fun pre => (lastOf (-1) pre, (pre.length : Int), ())) (fun pre => othersOk (-1) pre = true) rfl rfl (fun pre x post hp hn hP next hx => ?_) (fun hP next _ => ?_)
  · intro _
    dsimp only [attr_others_l3, attr_others_j0]
    have good : othersOk (lastOf (-1) pre) [x] = true → next (x.1, IntKind.wrap .i64 ((pre.length : Int) + 1), ()) := fun hg => by
      refine of_eq (hx (by rw [othersOk_app, hP, hg]; rfl)) ?_
      rw [lastOf_snoc, wr_i64 (by omega) (by omega)]; simp
    have bad : othersOk (lastOf (-1) pre) [x] = false → K false := fun hb => of_eq h (by
      have e : pre ++ x :: post = (pre ++ [x]) ++ post := by simp
      rw [hp, e, othersOk_app, othersOk_app, hb]; simp)
    refine ifT (decide_eq_true (by omega)) ⟨by omega, AtN.of (at_pre hp) fun _ _ => ?_⟩
    refine attr_known_c x.1 _ fun _ => IfB.intro (fun h1 => bad ?_) (fun h1 => IfB.intro (fun h2 => bad ?_) (fun h2 => IfB.intro (fun h3 => bad ?_) (fun h3 => IfB.intro (fun h4 => bad ?_) (fun h4 => good ?_))))
    · simp [othersOk, h1]
    · have h2 : ¬ lastOf (-1) pre < x.1 := by simp at h2; omega
      simp [othersOk, h2]
    · have h3 : ¬ x.1 ≤ 255 := by simp at h3; omega
      simp [othersOk, h3]
    · have h4 : ¬ x.2.length ≤ 255 := by simp at h4; omega
      simp [othersOk, h4]
    · have h2 : lastOf (-1) pre < x.1 := by simp at h2; omega
      have h3 : x.1 ≤ 255 := by simp at h3; omega
      have h4 : x.2.length ≤ 255 := by simp at h4; omega
      simp [othersOk, h1, h2, h3, h4]
  · dsimp only [attr_others_l3]
    refine ifF (decide_eq_false (by omega)) (of_eq h ?_)
    rw [hP, Bool.true_and]
    congr 1
    apply propext
    omega

/-- May attributes be? -/
def attrsOk (a : Attrs) : Bool := decide (0 ≤ a.origin) && decide (a.origin ≤ 2) && pathOk a.path && decide ((a.next.toNat : Int) ≠ 0 ∧ (a.next.toNat : Int) < 3758096384) && !(a.hasMaker && (a.makerAS.toNat : Int) == 0) && decide (a.comms.length ≤ 32) && (othersOk (-1) a.others && decide (a.others.length ≤ 8))
theorem errIf_ne (b : Bool) : (errIf b != 0) = !b := by cases b <;> rfl

theorem attr_Check_c (a : Attrs) (K : Int → Prop) (hl : a.path.length ≤ 9223372036854775807) (hc : cnt a.path ≤ 9223372036854775807) (ho : a.others.length ≤ 9223372036854775807) (h : K (errIf (attrsOk a))) : attr_Check_q a K := by
  obtain ⟨origin, path, nxt, hasMed, med, hasLocal, loc, atomic, hasMaker, makerAS, maker, comms, others⟩ := a
  have bad : attrsOk (origin, path, nxt, hasMed, med, hasLocal, loc, atomic, hasMaker, makerAS, maker, comms, others) = false → K 2 := fun hb => of_eq h (by rw [hb]; rfl)
  unfold attr_Check_q
  simp only [attrsOk, Attrs.origin, Attrs.path, Attrs.next, Attrs.hasMaker, Attrs.makerAS, Attrs.comms, Attrs.others] at *
  refine IfB.intro (fun h1 => bad ?_) (fun h1 => IfB.intro (fun h2 => bad ?_) (fun h2 => ?_))
  · have : ¬ 0 ≤ origin := by simp at h1; omega
    simp [this]
  · have : ¬ origin ≤ 2 := by simp at h2; omega
    simp [this]
  have h1 : 0 ≤ origin := by simp at h1; omega
  have h2 : origin ≤ 2 := by simp at h2; omega
  intro _
  refine path_Check_c path _ hl hc fun _ => ?_
  dsimp only [attr_Check_j0]
  rw [errIf_ne]
  refine IfB.intro (fun h3 => bad ?_) (fun h3 _ => ?_)
  · have : pathOk path = false := by simpa using h3
    simp [this]
  have h3 : pathOk path = true := by simpa using h3
  refine attr_hop_c _ _ fun _ => ?_
  refine IfB.intro (fun h4 => bad ?_) (fun h4 => ?_)
  · have : decide ((nxt.toNat : Int) ≠ 0 ∧ (nxt.toNat : Int) < 3758096384) = false := by simpa only [Bool.not_eq_true', Bool.not_eq_false'] using h4
    simp only [this, Bool.and_false, Bool.false_and]
  have h4 : decide ((nxt.toNat : Int) ≠ 0 ∧ (nxt.toNat : Int) < 3758096384) = true := by simpa only [Bool.not_eq_true', Bool.not_eq_false'] using h4
  have rest : (hasMaker && (makerAS.toNat : Int) == 0) = false → attr_Check_j1 (origin, path, nxt, hasMed, med, hasLocal, loc, atomic, hasMaker, makerAS, maker, comms, others) false K := fun h5 => by
    dsimp only [attr_Check_j1, attr_Check_j2]
    refine ifF rfl (IfB.intro (fun h6 => bad ?_) (fun h6 _ => attr_others_c others _ ho fun _ => ?_))
    · have : ¬ comms.length ≤ 32 := by simp at h6; omega
      simp [this]
    · have h6 : comms.length ≤ 32 := by simp at h6; omega
      refine of_eq (next := fun b => IfB (!b) (K 2) (K 0)) ?_ rfl
      refine IfB.intro (fun h7 => bad ?_) (fun h7 => of_eq h ?_)
      · have h7 : (othersOk (-1) others && decide (others.length ≤ 8)) = false := by simpa only [Bool.not_eq_true', Bool.not_eq_false'] using h7
        rw [h7, Bool.and_false]
      · have h7 : (othersOk (-1) others && decide (others.length ≤ 8)) = true := by simpa only [Bool.not_eq_true', Bool.not_eq_false'] using h7
        rw [h7, h3, h4, h5, decide_eq_true h1, decide_eq_true h2, decide_eq_true h6]; rfl
  refine IfB.intro (fun h5 => ?_) (fun h5 => rest ?_)
  · cases h6 : ((makerAS.toNat : Int) == 0) with
    | true =>
      dsimp only [attr_Check_j1]
      refine ifT rfl (bad ?_)
      have : (hasMaker && (makerAS.toNat : Int) == 0) = true := by rw [h6, Bool.and_true]; exact h5
      simp only [this, Bool.not_true, Bool.and_false, Bool.false_and]
    | false => exact rest (by rw [h6, Bool.and_false])
  · have h5 : hasMaker = false := h5
    rw [h5, Bool.false_and]

end Go.Proofs.Ytomdgakmkihfhaa

namespace Go.Proofs.Ytomdgakmkihfhaa
open Go.Sh

theorem grow_c (n : Int) (K : List UInt8 → Prop) (h0 : 0 ≤ n) (hn : n ≤ 1000000000) (h : K []) : slices_Growasl_byte_byte_at_nil_q n K := by
  unfold slices_Growasl_byte_byte_at_nil_q
  have e : IntKind.wrap .i64 (n - IntKind.wrap .i64 (0 - 0)) = n := by
    rw [wr_i64 (n := 0 - 0) (by omega) (by omega)]
    exact wr_i64 (by omega) (by omega) |>.trans (by omega)
  rw [e]
  refine ifF (decide_eq_false (by omega)) (IfB.intro (fun h1 => ?_) (fun _ => h))
  have h1 : 0 < n := by simpa using h1
  exact ⟨by omega, by omega, h1, hn, by omega, by omega, by simpa using h⟩

theorem sum_pre {pre post : List (List UInt8)} {x : List UInt8} : (pre ++ x :: post).flatten.length = pre.flatten.length + x.length + post.flatten.length := by simp; omega
theorem concat_c (l : List (List UInt8)) (K : List UInt8 → Prop) (hl : l.length ≤ 1000000000) (hf : l.flatten.length ≤ 1000000000) (h : K l.flatten) : slices_Concatasl_byte_byte_q l K := by
  unfold slices_Concatasl_byte_byte_q
  refine LoopJ.over l (fun pre => ((pre.flatten.length : Int), (pre.length : Int), ())) (fun _ => True) rfl trivial (fun pre x post hp hn _ next hx => ?_) (fun _ next _ => ?_)
  · intro _
    dsimp only [slices_Concatasl_byte_byte_l3]
    have hs := sum_pre (pre := pre) (x := x) (post := post)
    rw [← hp] at hs
    refine ifT (decide_eq_true (by omega)) ⟨by omega, AtN.of (at_pre hp) fun _ => ?_⟩
    rw [wr_i64 (n := (pre.flatten.length : Int) + x.length) (by omega) (by omega)]
    refine ifF (decide_eq_false (by omega)) (of_eq (hx trivial) ?_)
    rw [wr_i64 (by omega) (by omega)]
    simp
  · dsimp only [slices_Concatasl_byte_byte_l3]
    refine ifF (decide_eq_false (by omega)) fun _ => grow_c _ _ (by omega) (by omega) fun _ => ?_
    refine LoopJ.over l (fun pre => (pre.flatten, (pre.length : Int), ())) (fun _ => True) rfl trivial (fun pre x post hp hn _ next hx => ?_) (fun _ next _ => ?_)
    · intro _
      dsimp only [slices_Concatasl_byte_byte_l11]
      have hs := sum_pre (pre := pre) (x := x) (post := post)
      rw [← hp] at hs
      refine ifT (decide_eq_true (by omega)) ⟨by omega, AtN.of (at_pre hp) fun _ => ⟨by omega, of_eq (hx trivial) ?_⟩⟩
      rw [wr_i64 (by omega) (by omega)]
      simp
    · dsimp only [slices_Concatasl_byte_byte_l11]
      exact ifF (decide_eq_false (by omega)) h

/-- One attribute. -/
def attB (fl kind : Int) (data : List UInt8) : List UInt8 :=
  (if 255 < data.length then [ofI .u8 (fl + 16), ofI .u8 (IntKind.wrap .u8 kind), UInt8.ofNat (data.length / 256), UInt8.ofNat data.length] else [ofI .u8 fl, ofI .u8 (IntKind.wrap .u8 kind), UInt8.ofNat data.length]) ++ data
theorem attB_len (fl kind : Int) (data : List UInt8) : (attB fl kind data).length ≤ data.length + 4 := by
  unfold attB; split <;> simp
def okFl (fl : Int) : Prop := fl = 64 ∨ fl = 128 ∨ fl = 192 ∨ fl = 224
theorem or_16 {fl : Int} (h : okFl fl) : bitsOr .u8 fl 16 = fl + 16 := by
  rcases h with rfl | rfl | rfl | rfl <;> decide

theorem put_c (c : List UInt8) (fl kind : Int) (parts : List (List UInt8)) (K : List UInt8 → Prop) (hf : okFl fl) (hp : parts.length ≤ 1000) (hl : parts.flatten.length ≤ 100000) (hc : c.length ≤ 100000) (h : K (c ++ attB fl kind parts.flatten)) : attr_writer_put_q c fl kind parts K := by
  unfold attr_writer_put_q
  intro _
  refine concat_c parts _ (by omega) (by omega) fun _ => ?_
  rw [or_16 hf]
  refine IfB.intro (fun h1 => ?_) (fun h1 => ?_)
  · have h1 : 255 < parts.flatten.length := by simp only [decide_eq_true_eq] at h1; omega
    refine ⟨by decide, by simp only [List.length_cons, List.length_nil]; omega, ?_⟩
    refine ⟨by simp only [List.length_append, List.length_cons, List.length_nil]; omega, of_eq h ?_⟩
    rw [fdiv_1, of8w, of8w, attB, if_pos h1, List.append_assoc]
  · have h1 : ¬ 255 < parts.flatten.length := by simp only [decide_eq_false_iff_not] at h1; omega
    refine ⟨by simp only [List.length_cons, List.length_nil]; omega, ?_⟩
    refine ⟨by simp only [List.length_append, List.length_cons, List.length_nil]; omega, of_eq h ?_⟩
    rw [of8w, attB, if_neg h1, List.append_assoc]
theorem usual_c (c : List UInt8) (kind : Int) (parts : List (List UInt8)) (K : List UInt8 → Prop) (hf : okFl (flagOf kind)) (hp : parts.length ≤ 1000) (hl : parts.flatten.length ≤ 100000) (hc : c.length ≤ 100000) (h : K (c ++ attB (flagOf kind) kind parts.flatten)) : attr_writer_usual_q c kind parts K := by
  unfold attr_writer_usual_q
  intro _
  exact attr_known_c kind _ fun _ _ _ => put_c c _ kind parts _ hf hp hl hc fun _ _ => h
theorem num_c (n : Nat) (K : List UInt8 → Prop) (h : K (be4 n)) : attr_num_q (n : Int) K := by
  unfold attr_num_q
  refine ⟨by decide, by decide, by decide, of_eq h ?_⟩
  rw [fdiv_1, fdiv_2, fdiv_3, of8w, of8w, of8w, of8w]; rfl
theorem system_c (x : UInt32) (four : Bool) (K : List UInt8 → Prop) (h : K (encAS four x)) : attr_system_q (x.toNat : Int) four K := by
  unfold attr_system_q
  refine IfB.intro (fun h1 _ => num_c _ _ fun _ => of_eq h ?_) (fun h1 => IfB.intro (fun h2 => ?_) (fun h2 => ?_))
  · rw [h1]; rfl
  · have h2 : x.toNat > 65535 := by simp only [decide_eq_true_eq] at h2; omega
    dsimp only [attr_system_j0]
    exact fun _ => num_c 23456 _ fun _ => ⟨by decide, by decide, of_eq h (by simp [encAS, h1, h2, be2, be4])⟩
  · have h2 : ¬ x.toNat > 65535 := by simp only [decide_eq_false_iff_not] at h2; omega
    dsimp only [attr_system_j0]
    exact fun _ => num_c _ _ fun _ => ⟨by decide, by simp only [be4_length]; decide, of_eq h (by simp [encAS, h1, h2, be2, be4])⟩

/-- What there may be. -/
def perhB (four : Bool) (a : Attrs) : List UInt8 :=
  (if a.hasMed then attB 128 4 (be4 a.med.toNat) else []) ++ ((if a.atomic then attB 64 6 [] else []) ++ ((if a.hasMaker then attB 192 7 (encAS four a.makerAS ++ be4 a.maker.toNat) else []) ++ if 0 < a.comms.length then attB 192 8 (a.comms.flatMap fun x => be4 x.toNat) else []))
theorem be4s_len : ∀ l : List UInt32, (l.flatMap fun x => be4 x.toNat).length = 4 * l.length
  | [] => rfl
  | x :: l => by simp only [List.flatMap_cons, List.length_append, List.length_cons, be4s_len l, be4_length]; omega
theorem perhB_len (four : Bool) (a : Attrs) : (perhB four a).length ≤ 4 * a.comms.length + 100 := by
  unfold perhB
  have h1 := attB_len 128 4 (be4 a.med.toNat)
  have h2 := attB_len 64 6 []
  have h3 := attB_len 192 7 (encAS four a.makerAS ++ be4 a.maker.toNat)
  have h4 := attB_len 192 8 (a.comms.flatMap fun x => be4 x.toNat)
  have h5 := encAS_len four a.makerAS
  rw [be4s_len] at h4
  simp only [List.length_append, be4_length, List.length_nil] at *
  split <;> split <;> split <;> split <;> (try simp only [List.length_nil]) <;> omega

theorem perhaps_c (c : List UInt8) (a : Attrs) (four : Bool) (K : List UInt8 → Prop) (hc : c.length ≤ 10000) (hm : a.comms.length ≤ 100) (h : K (c ++ perhB four a)) : attr_writer_perhaps_q c a four K := by
  obtain ⟨origin, path, nxt, hasMed, med, hasLocal, loc, atomic, hasMaker, makerAS, maker, comms, others⟩ := a
  simp only [perhB, Attrs.hasMed, Attrs.med, Attrs.atomic, Attrs.hasMaker, Attrs.makerAS, Attrs.maker, Attrs.comms] at *
  have s3 : ∀ (c : List UInt8), c.length ≤ 20000 → K (c ++ if 0 < comms.length then attB 192 8 (comms.flatMap fun x => be4 x.toNat) else []) → attr_writer_perhaps_j2 (origin, path, nxt, hasMed, med, hasLocal, loc, atomic, hasMaker, makerAS, maker, comms, others) c K := fun c hc h => by
    dsimp only [attr_writer_perhaps_j2]
    refine IfB.intro (fun h1 => ?_) (fun h1 => of_eq h ?_)
    · have h1 : 0 < comms.length := by simpa using h1
      rw [if_pos h1] at h
      refine LoopJ.over comms (fun pre => (pre.map fun x => be4 x.toNat, (pre.length : Int), ())) (fun _ => True) rfl trivial (fun pre x post hp hn _ next hx => ?_) (fun _ next _ => ?_)
      · intro _
        dsimp only [attr_writer_perhaps_l10]
        refine ifT (decide_eq_true (by omega)) ⟨by omega, AtN.of (at_pre hp) fun _ _ => num_c _ _ fun _ => ⟨by simp only [List.length_map, List.length_cons, List.length_nil]; omega, of_eq (hx trivial) ?_⟩⟩
        rw [wr_i64 (by omega) (by omega)]
        simp
      · dsimp only [attr_writer_perhaps_l10]
        have e : (comms.map fun x => be4 x.toNat).flatten = comms.flatMap fun x => be4 x.toNat := by simp [List.flatMap]
        have hfl := be4s_len comms
        refine ifF (decide_eq_false (by omega)) fun _ _ => usual_c c 8 _ _ (.inr (.inr (.inl rfl))) (by simp; omega) (by rw [e]; omega) (by omega) fun _ _ => of_eq h ?_
        rw [e]; rfl
    · have h1 : ¬ 0 < comms.length := by simp at h1; simp [h1]
      rw [if_neg h1, List.append_nil]
  have s2 : ∀ (c : List UInt8), c.length ≤ 15000 → K (c ++ ((if hasMaker then attB 192 7 (encAS four makerAS ++ be4 maker.toNat) else []) ++ if 0 < comms.length then attB 192 8 (comms.flatMap fun x => be4 x.toNat) else [])) → attr_writer_perhaps_j1 four (origin, path, nxt, hasMed, med, hasLocal, loc, atomic, hasMaker, makerAS, maker, comms, others) c K := fun c hc h => by
    dsimp only [attr_writer_perhaps_j1]
    have hl := encAS_len four makerAS
    have hb := attB_len 192 7 (encAS four makerAS ++ be4 maker.toNat)
    simp only [List.length_append, be4_length] at hb
    refine IfB.intro (fun h1 _ => system_c _ _ _ fun _ _ => num_c _ _ fun _ _ _ => usual_c c 7 _ _ (.inr (.inr (.inl rfl))) (by simp) ?_ (by omega) fun _ _ => s3 _ ?_ (of_eq h ?_)) (fun h1 => s3 _ (by omega) (of_eq h ?_))
    · simp only [List.flatten_cons, List.flatten_nil, List.append_nil, List.length_append, be4_length]; omega
    · simp only [List.flatten_cons, List.flatten_nil, List.append_nil, List.length_append]
      have : flagOf 7 = 192 := rfl
      rw [this]; omega
    · rw [if_pos h1, ← List.append_assoc]; simp only [List.flatten_cons, List.flatten_nil, List.append_nil]; rfl
    · rw [h1]; simp
  have s1 : ∀ (c : List UInt8), c.length ≤ 12000 → K (c ++ ((if atomic then attB 64 6 [] else []) ++ ((if hasMaker then attB 192 7 (encAS four makerAS ++ be4 maker.toNat) else []) ++ if 0 < comms.length then attB 192 8 (comms.flatMap fun x => be4 x.toNat) else []))) → attr_writer_perhaps_j0 four (origin, path, nxt, hasMed, med, hasLocal, loc, atomic, hasMaker, makerAS, maker, comms, others) c K := fun c hc h => by
    dsimp only [attr_writer_perhaps_j0]
    have hb := attB_len 64 6 []
    simp only [List.length_nil] at hb
    refine IfB.intro (fun h1 _ _ => usual_c c 6 _ _ (.inl rfl) (by decide) (by decide) (by omega) fun _ _ => s2 _ ?_ (of_eq h ?_)) (fun h1 => s2 _ (by omega) (of_eq h ?_))
    · have : flagOf 6 = 64 := rfl
      rw [this]; simp only [List.length_append, List.flatten_nil]; omega
    · rw [if_pos h1, ← List.append_assoc]; rfl
    · rw [h1]; simp
  dsimp only [attr_writer_perhaps_q]
  have hb := attB_len 128 4 (be4 med.toNat)
  simp only [be4_length] at hb
  refine IfB.intro (fun h1 _ => num_c _ _ fun _ _ _ => usual_c c 4 _ _ (.inr (.inl rfl)) (by simp) ?_ (by omega) fun _ _ => s1 _ ?_ (of_eq h ?_)) (fun h1 => s1 _ (by omega) (of_eq h ?_))
  · simp [be4_length]
  · simp only [List.flatten_cons, List.flatten_nil, List.append_nil, List.length_append]
    have : flagOf 4 = 128 := rfl
    rw [this]; omega
  · rw [if_pos h1, ← List.append_assoc]; simp only [List.flatten_cons, List.flatten_nil, List.append_nil]; rfl
  · rw [h1]; simp

end Go.Proofs.Ytomdgakmkihfhaa

namespace Go.Proofs.Ytomdgakmkihfhaa
open Go.Sh

def bigAS (x : UInt32) : Bool := decide (65535 < x.toNat)
def greatP (p : List Seg) : Bool := p.any fun s => s.2.any bigAS
theorem big_eq (x : UInt32) : decide ((x.toNat : Int) > 65535) = bigAS x := by
  unfold bigAS
  congr 1
  apply propext
  omega

theorem idx1_c (l : List UInt32) (K : Int → Prop) (hl : l.length ≤ 9223372036854775807) (h1 : ∀ i : Nat, l.any bigAS = true → K i) (h2 : l.any bigAS = false → K (-1)) : slices_IndexFuncasl_uint32_uint32_at_attr_great_1_1_q l K := by
  unfold slices_IndexFuncasl_uint32_uint32_at_attr_great_1_1_q
  refine LoopJ.over l (fun pre => ((pre.length : Int), ())) (fun pre => pre.any bigAS = false) rfl rfl (fun pre x post hp hn hP next hx => ?_) (fun hP next _ => ?_)
  · intro _
    dsimp only [slices_IndexFuncasl_uint32_uint32_at_attr_great_1_1_l2, attr_great_1_1_q]
    refine ifT (decide_eq_true (by omega)) ⟨by omega, AtN.of (at_pre hp) fun _ _ _ => ?_⟩
    rw [big_eq]
    refine IfB.intro (fun h => h1 _ ?_) (fun h => of_eq (hx ?_) ?_)
    · rw [hp]; simp [h]
    · rw [List.any_append, hP]; simp [h]
    · rw [wr_i64 (by omega) (by omega)]; simp
  · dsimp only [slices_IndexFuncasl_uint32_uint32_at_attr_great_1_1_l2]
    exact ifF (decide_eq_false (by omega)) (h2 hP)
theorem great1_c (s : Seg) (K : Bool → Prop) (hl : s.2.length ≤ 9223372036854775807) (h : K (s.2.any bigAS)) : attr_great_1_q s K := by
  unfold attr_great_1_q
  intro _
  unfold slices_ContainsFuncasl_uint32_uint32_at_attr_great_1_1_q
  intro _
  refine idx1_c s.2 _ hl (fun i hi _ _ => of_eq h ?_) (fun hi _ _ => of_eq h ?_)
  · rw [hi, decide_eq_true (by omega)]
  · rw [hi]; rfl
theorem idx2_c (l : List Seg) (K : Int → Prop) (hl : l.length ≤ 9223372036854775807) (hs : ∀ s ∈ l, s.2.length ≤ 9223372036854775807) (h1 : ∀ i : Nat, greatP l = true → K i) (h2 : greatP l = false → K (-1)) : slices_IndexFuncasl_api_Segment_api_Segment_at_attr_great_1_q l K := by
  unfold slices_IndexFuncasl_api_Segment_api_Segment_at_attr_great_1_q
  refine LoopJ.over l (fun pre => ((pre.length : Int), ())) (fun pre => greatP pre = false) rfl rfl (fun pre x post hp hn hP next hx => ?_) (fun hP next _ => ?_)
  · intro _
    dsimp only [slices_IndexFuncasl_api_Segment_api_Segment_at_attr_great_1_l2]
    refine ifT (decide_eq_true (by omega)) ⟨by omega, AtN.of (at_pre hp) fun _ _ => great1_c x _ (hs x (by simp [hp])) fun _ => ?_⟩
    refine IfB.intro (fun h => h1 _ ?_) (fun h => of_eq (hx ?_) ?_)
    · rw [hp]; simp only [greatP, List.any_append, List.any_cons, h, Bool.true_or, Bool.or_true]
    · simp only [greatP] at hP
      simp only [greatP, List.any_append, hP, List.any_cons, h, List.any_nil, Bool.or_false]
    · rw [wr_i64 (by omega) (by omega)]; simp
  · dsimp only [slices_IndexFuncasl_api_Segment_api_Segment_at_attr_great_1_l2]
    exact ifF (decide_eq_false (by omega)) (h2 hP)
theorem great_c (p : List Seg) (K : Bool → Prop) (hl : p.length ≤ 9223372036854775807) (hs : ∀ s ∈ p, s.2.length ≤ 9223372036854775807) (h : K (greatP p)) : attr_great_q p K := by
  unfold attr_great_q
  intro _
  unfold slices_ContainsFuncasl_api_Segment_api_Segment_at_attr_great_1_q
  intro _
  refine idx2_c p _ hl hs (fun i hi _ _ => of_eq h ?_) (fun hi _ _ => of_eq h ?_)
  · rw [hi, decide_eq_true (by omega)]
  · rw [hi]; rfl
/-- Attributes' bytes. -/
def headB (four : Bool) (a : Attrs) : List UInt8 := attB 64 1 [ofI .u8 (IntKind.wrap .u8 a.origin)] ++ (attB 64 2 (encPath four a.path) ++ attB 64 3 (be4 a.next.toNat))
def oldB (four : Bool) (a : Attrs) : List UInt8 :=
  (if !four && greatP a.path then attB 192 17 (encPath true a.path) else []) ++ if !four && (a.hasMaker && bigAS a.makerAS) then attB 192 18 (be4 a.makerAS.toNat ++ be4 a.maker.toNat) else []
def othersB (l : List Raw) : List UInt8 := l.flatMap fun x => attB 224 x.1 x.2
def attrsB (four : Bool) (a : Attrs) : List UInt8 := headB four a ++ (perhB four a ++ (oldB four a ++ othersB a.others))

theorem path_short {four : Bool} {p : List Seg} (hok : pathOk p = true) : (encPath four p).length ≤ 1000 := by
  simp only [pathOk, Bool.and_eq_true, decide_eq_true_eq] at hok
  have h1 := parts_len p hok.1
  have h2 := encPath_len four p
  omega
theorem headB_len {four : Bool} {a : Attrs} (h : pathOk a.path = true) : (headB four a).length ≤ 1100 := by
  unfold headB
  have h1 := attB_len 64 1 [ofI .u8 (IntKind.wrap .u8 a.origin)]
  have h2 := attB_len 64 2 (encPath four a.path)
  have h3 := attB_len 64 3 (be4 a.next.toNat)
  have h4 := path_short (four := four) h
  simp only [List.length_append, be4_length, List.length_cons, List.length_nil] at *
  omega
theorem oldB_len {four : Bool} {a : Attrs} (h : pathOk a.path = true) : (oldB four a).length ≤ 1100 := by
  unfold oldB
  have h1 := attB_len 192 17 (encPath true a.path)
  have h2 := attB_len 192 18 (be4 a.makerAS.toNat ++ be4 a.maker.toNat)
  have h4 := path_short (four := true) h
  simp only [List.length_append, be4_length] at *
  split <;> split <;> (try simp only [List.length_nil]) <;> omega
theorem othersB_len : ∀ (l : List Raw) (last : Int), othersOk last l = true → (othersB l).length ≤ 259 * l.length
  | [], _, _ => by simp [othersB]
  | x :: l, last, h => by
    simp only [othersOk, Bool.and_eq_true, decide_eq_true_eq] at h
    have h1 := othersB_len l x.1 h.2
    have h2 := attB_len 224 x.1 x.2
    have h3 : (othersB (x :: l)).length = (attB 224 x.1 x.2).length + (othersB l).length := by simp [othersB]
    have h4 := h.1.2
    simp only [List.length_cons]
    omega

theorem attr_Put_c (a : Attrs) (four : Bool) (K : List UInt8 → Int → Prop) (hl : a.path.length ≤ 9223372036854775807) (hc : cnt a.path ≤ 9223372036854775807) (hs : ∀ s ∈ a.path, s.2.length ≤ 9223372036854775807) (ho : a.others.length ≤ 9223372036854775807)
    (h : K (if attrsOk a then attrsB four a else []) (errIf (attrsOk a))) : attr_Put_q a four K := by
  unfold attr_Put_q
  simp only [ofI_u32]
  intro _
  refine attr_Check_c a _ hl hc ho fun _ => ?_
  rw [errIf_ne]
  refine IfB.intro (fun h1 => ?_) (fun h1 _ => path_Put_c a.path four _ hl hc fun _ _ => ?_)
  · have h1 : attrsOk a = false := by simpa using h1
    rw [h1] at h ⊢
    exact h
  have h1 : attrsOk a = true := by simpa using h1
  rw [h1] at h
  have hok := h1
  simp only [attrsOk, Bool.and_eq_true, decide_eq_true_eq, Bool.not_eq_true'] at hok
  obtain ⟨⟨⟨⟨⟨⟨_, _⟩, hpok⟩, _⟩, _⟩, hcm⟩, hoth, hol⟩ := hok
  rw [if_pos hpok]
  have hps := path_short (four := four) hpok
  have hpt := path_short (four := true) hpok
  -- what comes last
  have s4 : ∀ c : List UInt8, c.length ≤ 20000 → K (c ++ othersB a.others) 0 → attr_Put_j3 a c K := fun c hc h => by
    dsimp only [attr_Put_j3, attr_Put_j4]
    refine LoopJ.over a.others (fun pre => ((pre.length : Int), c ++ othersB pre, ())) (fun _ => True) (by simp [othersB]) trivial (fun pre x post hp hn _ next hx => ?_) (fun _ next _ => ?_)
    · intro _
      dsimp only [attr_Put_l16]
      have hpre : othersOk (-1) pre = true ∧ othersOk (lastOf (-1) pre) (x :: post) = true := by
        have := hoth
        rw [hp, othersOk_app, Bool.and_eq_true] at this
        exact this
      have hb := othersB_len pre _ hpre.1
      have hx2 : x.2.length ≤ 255 := by
        have := hpre.2
        simp only [othersOk, Bool.and_eq_true, decide_eq_true_eq] at this
        exact this.1.2
      refine ifT (decide_eq_true (show (pre.length : Int) < (a.others.length : Int) by omega)) ⟨by omega, AtN.of (at_pre hp) fun _ _ _ => ?_⟩
      refine put_c _ 224 x.1 [x.2] _ (.inr (.inr (.inr rfl))) (by simp) (by simp; omega) (by simp only [List.length_append]; omega) fun _ _ => of_eq (hx trivial) ?_
      rw [wr_i64 (by omega) (by omega)]
      simp [othersB]
    · dsimp only [attr_Put_l16]
      exact ifF (decide_eq_false (show ¬ (a.others.length : Int) < (a.others.length : Int) by omega)) h
  have s3 : ∀ (c : List UInt8) (b : Bool), c.length ≤ 10000 → K (c ++ ((if b then attB 192 18 (be4 a.makerAS.toNat ++ be4 a.maker.toNat) else []) ++ othersB a.others)) 0 → attr_Put_j2 a c b K := fun c b hc h => by
    dsimp only [attr_Put_j2]
    have hb := attB_len 192 18 (be4 a.makerAS.toNat ++ be4 a.maker.toNat)
    simp only [List.length_append, be4_length] at hb
    refine IfB.intro (fun h1 _ => num_c _ _ fun _ _ => num_c _ _ fun _ _ _ => usual_c c 18 _ _ (.inr (.inr (.inl rfl))) (by simp) ?_ (by omega) fun _ _ => s4 _ ?_ (of_eq2 h ?_)) (fun h1 => s4 _ (by omega) (of_eq2 h ?_))
    · simp only [List.flatten_cons, List.flatten_nil, List.append_nil, List.length_append, be4_length]; omega
    · simp only [List.flatten_cons, List.flatten_nil, List.append_nil, List.length_append]
      have : flagOf 18 = 192 := rfl
      rw [this]; (dsimp only [Attrs.origin, Attrs.path, Attrs.next, Attrs.hasMed, Attrs.med, Attrs.hasLocal, Attrs.loc, Attrs.atomic, Attrs.hasMaker, Attrs.makerAS, Attrs.maker, Attrs.comms, Attrs.others] at *; omega)
    · rw [if_pos h1, ← List.append_assoc]; simp only [List.flatten_cons, List.flatten_nil, List.append_nil]; rfl
    · rw [h1]; simp
  have s2 : ∀ (c : List UInt8), c.length ≤ 9000 → K (c ++ ((if !four && (a.hasMaker && bigAS a.makerAS) then attB 192 18 (be4 a.makerAS.toNat ++ be4 a.maker.toNat) else []) ++ othersB a.others)) 0 → attr_Put_j1 four a c K := fun c hc h => by
    dsimp only [attr_Put_j1]
    rw [big_eq]
    refine IfB.intro (fun h1 => IfB.intro (fun h2 => s3 _ _ (by omega) (of_eq2 h ?_)) (fun h2 => s3 _ _ (by omega) (of_eq2 h ?_))) (fun h1 => s3 _ _ (by omega) (of_eq2 h ?_))
    · have h2 : a.hasMaker = true := h2
      rw [h1, h2]; rfl
    · have h2 : a.hasMaker = false := h2
      rw [h1, h2]; rfl
    · rw [h1]; rfl
  have s1 : ∀ (c : List UInt8) (b : Bool), c.length ≤ 5000 → K (c ++ ((if b then attB 192 17 (encPath true a.path) else []) ++ ((if !four && (a.hasMaker && bigAS a.makerAS) then attB 192 18 (be4 a.makerAS.toNat ++ be4 a.maker.toNat) else []) ++ othersB a.others))) 0 → attr_Put_j0 four a c b K := fun c b hc' h => by
    dsimp only [attr_Put_j0]
    have hb := attB_len 192 17 (encPath true a.path)
    refine IfB.intro (fun h1 _ => path_Put_c a.path true _ hl hc fun _ _ _ => usual_c c 17 _ _ (.inr (.inr (.inl rfl))) (by simp) ?_ (by omega) fun _ _ => s2 _ ?_ (of_eq2 h ?_)) (fun h1 => s2 _ (by omega) (of_eq2 h ?_))
    · rw [if_pos hpok]; simp only [List.flatten_cons, List.flatten_nil, List.append_nil]; omega
    · rw [if_pos hpok]; simp only [List.flatten_cons, List.flatten_nil, List.append_nil, List.length_append]
      have : flagOf 17 = 192 := rfl
      rw [this]; (dsimp only [Attrs.origin, Attrs.path, Attrs.next, Attrs.hasMed, Attrs.med, Attrs.hasLocal, Attrs.loc, Attrs.atomic, Attrs.hasMaker, Attrs.makerAS, Attrs.maker, Attrs.comms, Attrs.others] at *; omega)
    · rw [if_pos h1, if_pos hpok, ← List.append_assoc]; simp only [List.flatten_cons, List.flatten_nil, List.append_nil]; rfl
    · rw [h1]; simp
  have hh := headB_len (four := four) hpok
  have hhd : headB four a = attB 64 1 [ofI .u8 (IntKind.wrap .u8 a.origin)] ++ (attB 64 2 (encPath four a.path) ++ attB 64 3 (be4 a.next.toNat)) := rfl
  have hhl : (headB four a).length = (attB 64 1 [ofI .u8 (IntKind.wrap .u8 a.origin)]).length + ((attB 64 2 (encPath four a.path)).length + (attB 64 3 (be4 a.next.toNat)).length) := by rw [hhd]; simp only [List.length_append]
  have hp := perhB_len four a
  have f1 : flagOf 1 = 64 := rfl
  have f2 : flagOf 2 = 64 := rfl
  have f3 : flagOf 3 = 64 := rfl
  have e1 : ∀ x : List UInt8, [x].flatten = x := fun x => by simp
  refine fun _ => usual_c [] 1 _ _ (.inl rfl) (by simp) (by simp) (by simp) fun _ _ _ => ?_
  rw [e1, f1, List.nil_append]
  refine fun _ => usual_c _ 2 _ _ (.inl rfl) (by simp) (by rw [e1]; (dsimp only [Attrs.origin, Attrs.path, Attrs.next, Attrs.hasMed, Attrs.med, Attrs.hasLocal, Attrs.loc, Attrs.atomic, Attrs.hasMaker, Attrs.makerAS, Attrs.maker, Attrs.comms, Attrs.others] at *; omega)) (by (dsimp only [Attrs.origin, Attrs.path, Attrs.next, Attrs.hasMed, Attrs.med, Attrs.hasLocal, Attrs.loc, Attrs.atomic, Attrs.hasMaker, Attrs.makerAS, Attrs.maker, Attrs.comms, Attrs.others] at *; omega)) fun _ _ _ => ?_
  rw [e1, f2]
  refine num_c _ _ fun _ _ _ => usual_c _ 3 _ _ (.inl rfl) (by simp) (by rw [e1, be4_length]; decide) (by simp only [List.length_append]; (dsimp only [Attrs.origin, Attrs.path, Attrs.next, Attrs.hasMed, Attrs.med, Attrs.hasLocal, Attrs.loc, Attrs.atomic, Attrs.hasMaker, Attrs.makerAS, Attrs.maker, Attrs.comms, Attrs.others] at *; omega)) fun _ _ => ?_
  rw [e1, f3, List.append_assoc]
  rw [← hhd]
  refine fun _ _ => perhaps_c _ a four _ (by (dsimp only [Attrs.origin, Attrs.path, Attrs.next, Attrs.hasMed, Attrs.med, Attrs.hasLocal, Attrs.loc, Attrs.atomic, Attrs.hasMaker, Attrs.makerAS, Attrs.maker, Attrs.comms, Attrs.others] at *; omega)) (by (dsimp only [Attrs.origin, Attrs.path, Attrs.next, Attrs.hasMed, Attrs.med, Attrs.hasLocal, Attrs.loc, Attrs.atomic, Attrs.hasMaker, Attrs.makerAS, Attrs.maker, Attrs.comms, Attrs.others] at *; omega)) fun _ _ => ?_
  have hfin : K ((headB four a ++ perhB four a) ++ ((if !four && greatP a.path then attB 192 17 (encPath true a.path) else []) ++ ((if !four && (a.hasMaker && bigAS a.makerAS) then attB 192 18 (be4 a.makerAS.toNat ++ be4 a.maker.toNat) else []) ++ othersB a.others))) 0 := by
    have e : attrsB four a = (headB four a ++ perhB four a) ++ ((if !four && greatP a.path then attB 192 17 (encPath true a.path) else []) ++ ((if !four && (a.hasMaker && bigAS a.makerAS) then attB 192 18 (be4 a.makerAS.toNat ++ be4 a.maker.toNat) else []) ++ othersB a.others)) := by
      unfold attrsB oldB
      simp only [List.append_assoc]
    rw [← e]
    exact h
  refine IfB.intro (fun h1 _ => great_c a.path _ hl hs fun _ => s1 _ _ (by simp only [List.length_append]; (dsimp only [Attrs.origin, Attrs.path, Attrs.next, Attrs.hasMed, Attrs.med, Attrs.hasLocal, Attrs.loc, Attrs.atomic, Attrs.hasMaker, Attrs.makerAS, Attrs.maker, Attrs.comms, Attrs.others] at *; omega)) (of_eq2 hfin ?_)) (fun h1 => s1 _ _ (by simp only [List.length_append]; (dsimp only [Attrs.origin, Attrs.path, Attrs.next, Attrs.hasMed, Attrs.med, Attrs.hasLocal, Attrs.loc, Attrs.atomic, Attrs.hasMaker, Attrs.makerAS, Attrs.maker, Attrs.comms, Attrs.others] at *; omega)) (of_eq2 hfin ?_))
  · rw [h1]; rfl
  · rw [h1]; rfl

end Go.Proofs.Ytomdgakmkihfhaa

namespace Go.Proofs.Ytomdgakmkihfhaa
open Go.Sh

end Go.Proofs.Ytomdgakmkihfhaa

namespace Go.Proofs.Ytomdgakmkihfhaa
open Go.Sh

theorem rcopy_c (a : Attrs) (K : Attrs → Prop) (hl : a.path.length < 1000000000) (hs : ∀ s ∈ a.path, s.2.length ≤ 35184372088736) (hm : a.comms.length ≤ 35184372088736) (ho : a.others.length ≤ 4398046511008) (hd : ∀ x ∈ a.others, x.2.length ≤ 140737488355232) (h : K a) : ref20_Copy_q a K := by
  obtain ⟨origin, path, nxt, hasMed, med, hasLocal, loc, atomic, hasMaker, makerAS, maker, comms, others⟩ := a
  simp only [Attrs.path, Attrs.comms, Attrs.others] at *
  dsimp only [ref20_Copy_q]
  refine fun _ => ref19_Copy_c path _ hl hs fun _ => ⟨by simp only [List.length_nil]; omega, ?_⟩
  refine LoopJ.over others (fun pre => ((pre.length : Int), origin, path, (nxt.toNat : Int), hasMed, (med.toNat : Int), hasLocal, (loc.toNat : Int), atomic, hasMaker, (makerAS.toNat : Int), (maker.toNat : Int), comms, pre, ())) (fun _ => True) rfl trivial (fun pre x post hp hn _ next hx => ?_) (fun _ next _ => ?_)
  · intro _
    dsimp only [ref20_Copy_l6]
    have hx2 := hd x (by simp [hp])
    refine ifT (decide_eq_true (by omega)) ⟨by omega, AtN.of (at_pre hp) fun _ => ⟨by omega, AtN.of (at_pre hp) fun _ => ⟨by simp only [List.length_nil]; omega, by simp only [List.length_cons, List.length_nil]; omega, of_eq (hx trivial) ?_⟩⟩⟩
    rw [wr_i64 (by omega) (by omega)]
    simp
  · dsimp only [ref20_Copy_l6]
    refine ifF (decide_eq_false (by omega)) (of_eq h ?_)
    simp only [ofI_u32]

theorem min_nat (a b : Nat) : (min (a : Int) (b : Int)) = ((min a b : Nat) : Int) := by omega
theorem take_min {A : Type} (l : List A) (n : Nat) : l.take (min l.length n) = l.take n := by
  rcases Nat.le_total l.length n with h | h
  · rw [Nat.min_eq_left h, List.take_of_length_le (Nat.le_refl _), List.take_of_length_le h]
  · rw [Nat.min_eq_right h]

end Go.Proofs.Ytomdgakmkihfhaa

namespace Go.Proofs.Ytomdgakmkihfhaa
open Go.Sh

def cutS (s : Seg) : Seg := (s.1, s.2.take 260)
def cutR (x : Raw) : Raw := (x.1, x.2.take 260)
/-- Attributes with few members. -/
def fewA (a : Attrs) : Attrs := (a.origin, (a.path.take 8).map cutS, a.next, a.hasMed, a.med, a.hasLocal, a.loc, a.atomic, a.hasMaker, a.makerAS, a.maker, a.comms.take 40, (a.others.take 10).map cutR)

theorem few_c (a : Attrs) (K : Attrs → Prop) (hs : ∀ s ∈ a.path, s.2.length ≤ 35184372088736) (h : K (fewA a)) : law20_few_q a K := by
  obtain ⟨origin, path, nxt, hasMed, med, hasLocal, loc, atomic, hasMaker, makerAS, maker, comms, others⟩ := a
  simp only [fewA, Attrs.origin, Attrs.path, Attrs.next, Attrs.hasMed, Attrs.med, Attrs.hasLocal, Attrs.loc, Attrs.atomic, Attrs.hasMaker, Attrs.makerAS, Attrs.maker, Attrs.comms, Attrs.others] at *
  dsimp only [law20_few_q]
  have e8 : (min (path.length : Int) 8).toNat = min path.length 8 := by omega
  refine ⟨by omega, by omega, ?_⟩
  rw [e8, take_min]
  have h8 : (path.take 8).length ≤ 8 := by simp; omega
  have hs8 : ∀ s ∈ path.take 8, s.2.length ≤ 35184372088736 := fun s h => hs s (List.mem_of_mem_take h)
  generalize path.take 8 = p8 at *
  refine fun _ => ref19_Copy_c p8 _ (by omega) hs8 fun _ => ?_
  refine LoopJ.over p8 (fun pre => ((pre.length : Int), origin, pre.map cutS ++ p8.drop pre.length, (nxt.toNat : Int), hasMed, (med.toNat : Int), hasLocal, (loc.toNat : Int), atomic, hasMaker, (makerAS.toNat : Int), (maker.toNat : Int), comms, others, ())) (fun _ => True) (by simp) trivial (fun pre x post hp hn _ next hx => ?_) (fun _ next _ => ?_)
  · intro _
    dsimp only [law20_few_l3]
    have hdrop : p8.drop pre.length = x :: post := by rw [hp]; simp
    have hdrop1 : p8.drop (pre ++ [x]).length = post := by
      have : pre ++ x :: post = (pre ++ [x]) ++ post := by simp
      rw [hp, this, List.drop_left]
    rw [hdrop]
    have hlen : (pre.map cutS ++ x :: post).length = p8.length := by rw [hp]; simp
    have hget : (pre.map cutS ++ x :: post)[((pre.length : Nat) : Int).toNat]? = some x := by simp
    have e260 : (min (x.2.length : Int) 260).toNat = min x.2.length 260 := by omega
    refine ifT (decide_eq_true (by omega)) ⟨by omega, by omega, AtN.of hget fun _ => ⟨by omega, by omega, AtN.of hget fun _ => ⟨by omega, by omega, by omega, by omega, AtN.of hget fun _ => of_eq (hx trivial) ?_⟩⟩⟩
    rw [wr_i64 (by omega) (by omega), e260, take_min, hdrop1]
    simp [cutS, List.set_append]
  · dsimp only [law20_few_l3]
    have hdrop : p8.drop p8.length = [] := by simp
    rw [hdrop, List.append_nil, List.length_map]
    have e40 : (min (comms.length : Int) 40).toNat = min comms.length 40 := by omega
    refine ifF (decide_eq_false (by omega)) ⟨by omega, by omega, ?_⟩
    have h10 : (others.take 10).length ≤ 10 := by simp; omega
    have hfin : ∀ (i : Int) (next : (List Raw × Int × Unit) → Prop), law20_few_j0 origin (p8.map cutS) (nxt.toNat : Int) hasMed (med.toNat : Int) hasLocal (loc.toNat : Int) atomic hasMaker (makerAS.toNat : Int) (maker.toNat : Int) comms others ((others.take 10).map cutR) i next false K := fun i next => by
      dsimp only [law20_few_j0]
      refine ifF rfl ?_
      simp only [ofI_u32]
      rw [e40, take_min]
      refine fun _ => rcopy_c _ _ ?_ ?_ ?_ ?_ ?_ fun _ => ?_
      · simp only [Attrs.path, List.length_map]; omega
      · intro s hs
        simp only [Attrs.path, List.mem_map] at hs
        obtain ⟨s', _, rfl⟩ := hs
        simp only [cutS, List.length_take]
        omega
      · simp only [Attrs.comms, List.length_take]; omega
      · simp only [Attrs.others, List.length_map]; omega
      · intro x hx
        simp only [Attrs.others, List.mem_map] at hx
        obtain ⟨x', _, rfl⟩ := hx
        simp only [cutR, List.length_take]
        omega
      · simp only [ofI_u32]
        exact h
    refine LoopJ.over (others.take 10) (fun pre => (pre.map cutR, (pre.length : Int), ())) (fun _ => True) rfl trivial (fun pre x post hp hn _ next' hy => ?_) (fun _ next' _ => ?_)
    · intro _
      dsimp only [law20_few_l9]
      have hlt : pre.length < others.length := by
        have : (others.take 10).length ≤ others.length := by rw [List.length_take]; omega
        omega
      have hget : others[((pre.length : Nat) : Int).toNat]? = some x := by
        have h1 := at_pre hp
        rw [List.getElem?_take_of_lt (by simp; omega)] at h1
        exact h1
      have e260 : (min (x.2.length : Int) 260).toNat = min x.2.length 260 := by omega
      refine ifT (decide_eq_true (by omega)) ?_
      dsimp only [law20_few_j0]
      refine ifT (decide_eq_true (by omega)) ⟨by omega, AtN.of hget fun _ => ⟨by omega, AtN.of hget fun _ => ⟨by omega, AtN.of hget fun _ => ⟨by omega, by omega, by simp only [List.length_map, List.length_cons, List.length_nil]; omega, of_eq (hy trivial) ?_⟩⟩⟩⟩
      rw [wr_i64 (by omega) (by omega), e260, take_min]
      simp [cutR]
    · dsimp only [law20_few_l9]
      refine IfB.intro (fun h1 => ?_) (fun _ => hfin _ _)
      have h1 : ((others.take 10).length : Int) < (others.length : Int) := by simpa only [decide_eq_true_eq] using h1
      have h2 : (others.take 10).length = min 10 others.length := List.length_take
      rw [decide_eq_false (by omega)]
      exact hfin _ _

end Go.Proofs.Ytomdgakmkihfhaa

namespace Go.Proofs.Ytomdgakmkihfhaa
open Go.Sh

theorem few_path (a : Attrs) : (fewA a).path.length ≤ 8 ∧ ∀ s ∈ (fewA a).path, s.2.length ≤ 260 := by
  simp only [fewA, Attrs.path]
  refine ⟨by simp only [List.length_map, List.length_take]; omega, fun s hs => ?_⟩
  simp only [List.mem_map] at hs
  obtain ⟨s', _, rfl⟩ := hs
  simp only [cutS, List.length_take]
  omega
theorem cnt_le : ∀ (p : List Seg) (n : Nat), (∀ s ∈ p, s.2.length ≤ n) → cnt p ≤ n * p.length
  | [], _, _ => by simp [cnt]
  | s :: p, n, h => by
    have h1 := cnt_le p n fun s hs => h s (by simp [hs])
    have h2 := h s (by simp)
    have h3 : cnt (s :: p) = s.2.length + cnt p := by simp [cnt]
    rw [List.length_cons, Nat.mul_succ]
    omega
theorem few_others (a : Attrs) : (fewA a).others.length ≤ 10 := by
  simp only [fewA, Attrs.others, List.length_map, List.length_take]; omega
theorem few_few (a : Attrs) : fewA (fewA a) = fewA a := by
  obtain ⟨origin, path, nxt, hasMed, med, hasLocal, loc, atomic, hasMaker, makerAS, maker, comms, others⟩ := a
  have e1 : ∀ s : Seg, cutS (cutS s) = cutS s := fun s => by simp only [cutS, List.take_take, Nat.min_self]
  have e2 : ∀ x : Raw, cutR (cutR x) = cutR x := fun x => by simp only [cutR, List.take_take, Nat.min_self]
  simp only [fewA, Attrs.origin, Attrs.path, Attrs.next, Attrs.hasMed, Attrs.med, Attrs.hasLocal, Attrs.loc, Attrs.atomic, Attrs.hasMaker, Attrs.makerAS, Attrs.maker, Attrs.comms, Attrs.others, List.take_take, Nat.min_self, ← List.map_take, List.map_map]
  simp only [Function.comp_def, e1, e2]

/-- The chapter's example. -/
theorem works_c (K : Bool → Prop) (h : K true) : law20_works_q K := by
  unfold law20_works_q
  have hok : attrsOk (0, [(false, [ofI .u32 65001])], ofI .u32 167772161, false, ofI .u32 0, false, ofI .u32 0, false, false, ofI .u32 0, ofI .u32 0, [], []) = true := by decide
  refine fun _ => attr_Put_c _ false _ (by decide) (by decide) (by decide) (by decide) fun _ => ?_
  rw [hok]
  exact fun _ _ => of_eq h (by decide)

end Go.Proofs.Ytomdgakmkihfhaa

set_option linter.unusedVariables false
set_option linter.unusedSimpArgs false
namespace Go.Proofs.Ytomdgakmkihfhaa
open Go.Sh

theorem mism {A : Type} [BEq A] [LawfulBEq A] {s t pre post : List A} {x y : A} (hs : s = pre ++ x :: post) (ht : t[pre.length]? = some y) (h : x ≠ y) : (s == t) = false := by
  refine beq_eq_false_iff_ne.2 fun e => h ?_
  have h1 : s[pre.length]? = some x := by rw [hs]; simp
  rw [e, ht] at h1
  cases h1; rfl
theorem take_snoc {A : Type} {t pre : List A} {x : A} (hP : pre = t.take pre.length) (ht : t[pre.length]? = some x) : pre ++ [x] = t.take (pre ++ [x]).length := by
  rw [List.length_append, List.length_singleton, List.take_add_one, ht, ← hP]; rfl
theorem take_all {A : Type} [BEq A] [LawfulBEq A] {s t : List A} (hP : s = t.take s.length) (hl : s.length = t.length) : (s == t) = true := by
  rw [hl, List.take_length] at hP
  exact beq_iff_eq.2 hP
theorem at_len {A : Type} {t : List A} {n : Nat} (h : n < t.length) : t[((n : Nat) : Int).toNat]? = some t[n] := by
  rw [Int.toNat_natCast]; exact List.getElem?_eq_getElem h
theorem ne32 (x y : UInt32) : ((x.toNat : Int) != (y.toNat : Int)) = !(x == y) := by
  by_cases h : x = y
  · subst h; simp
  · have h1 : (x.toNat : Int) ≠ y.toNat := fun e => h (UInt32.toNat_inj.1 (by omega))
    have h2 : (x == y) = false := beq_eq_false_iff_ne.2 h
    rw [h2, bne_iff_ne.2 h1]; rfl
theorem eq32 (x y : UInt32) : ((x.toNat : Int) == (y.toNat : Int)) = (x == y) := by
  have := ne32 x y
  simp only [bne] at this
  cases h1 : ((x.toNat : Int) == (y.toNat : Int)) <;> cases h2 : (x == y) <;> simp_all
theorem ne8 (x y : UInt8) : ((x.toNat : Int) != (y.toNat : Int)) = !(x == y) := by
  by_cases h : x = y
  · subst h; simp
  · have h1 : (x.toNat : Int) ≠ y.toNat := fun e => h (UInt8.toNat_inj.1 (by omega))
    have h2 : (x == y) = false := beq_eq_false_iff_ne.2 h
    rw [h2, bne_iff_ne.2 h1]; rfl

theorem lens_ne {A : Type} [BEq A] [LawfulBEq A] {s t : List A} (h : ((s.length : Int) != (t.length : Int)) = true) : (s == t) = false := by
  refine beq_eq_false_iff_ne.2 fun e => ?_
  subst e
  simp at h
theorem lens_eq {A : Type} {s t : List A} (h : ((s.length : Int) != (t.length : Int)) = false) : s.length = t.length := by
  simp at h; omega

def perh (i w s : Bool) : Bool := i == w && (!i || s)
def sameA (a b : Attrs) : Bool :=
  a.origin == b.origin && (a.next == b.next && (a.atomic == b.atomic && (perh a.hasMed b.hasMed (a.med == b.med) && (perh a.hasLocal b.hasLocal (a.loc == b.loc) &&
    (perh a.hasMaker b.hasMaker (a.makerAS == b.makerAS && a.maker == b.maker) && (a.path == b.path && (a.comms == b.comms && a.others == b.others)))))))
theorem perh_refl {i s : Bool} (h : s = true) : perh i i s = true := by subst h; cases i <;> rfl
theorem sameA_refl (a : Attrs) : sameA a a = true := by
  unfold sameA
  simp only [beq_self_eq_true, Bool.true_and, Bool.and_true, perh_refl rfl]

end Go.Proofs.Ytomdgakmkihfhaa

set_option linter.unusedVariables false
set_option linter.unusedSimpArgs false
namespace Go.Proofs.Ytomdgakmkihfhaa
open Go.Sh

theorem eq8_c (s t : List UInt8) (K : Bool → Prop) (hl : s.length ≤ 9223372036854775807) (h : K (s == t)) : slices_Equalasl_byte_byte_q s t K := by
  unfold slices_Equalasl_byte_byte_q
  refine IfB.intro (fun h1 => of_eq h (lens_ne h1)) (fun h1 => ?_)
  have h1 := lens_eq h1
  refine LoopJ.over s (fun pre => ((pre.length : Int), ())) (fun pre => pre = t.take pre.length) rfl rfl (fun pre x post hp hn hP next hx => ?_) (fun hP next _ => ?_)
  · intro _
    dsimp only [slices_Equalasl_byte_byte_l4]
    have hlt : pre.length < t.length := by omega
    refine ifT (decide_eq_true (by omega)) ⟨by omega, AtN.of (at_pre hp) fun _ => ⟨by omega, AtN.of (at_len hlt) fun _ => ?_⟩⟩
    rw [ne8]
    refine IfB.intro (fun h2 => of_eq h (mism hp (List.getElem?_eq_getElem hlt) (by simpa using h2))) (fun h2 => of_eq (hx ?_) ?_)
    · exact take_snoc hP (by rw [List.getElem?_eq_getElem hlt]; congr 1; simpa using (by simpa using h2 : x = t[pre.length]).symm)
    · rw [wr_i64 (by omega) (by omega)]; simp
  · dsimp only [slices_Equalasl_byte_byte_l4]
    exact ifF (decide_eq_false (by omega)) (of_eq h (take_all hP h1))
theorem eqU32_c (s t : List UInt32) (K : Bool → Prop) (hl : s.length ≤ 9223372036854775807) (h : K (s == t)) : slices_Equalasl_uint32_uint32_q s t K := by
  unfold slices_Equalasl_uint32_uint32_q
  refine IfB.intro (fun h1 => of_eq h (lens_ne h1)) (fun h1 => ?_)
  have h1 := lens_eq h1
  refine LoopJ.over s (fun pre => ((pre.length : Int), ())) (fun pre => pre = t.take pre.length) rfl rfl (fun pre x post hp hn hP next hx => ?_) (fun hP next _ => ?_)
  · intro _
    dsimp only [slices_Equalasl_uint32_uint32_l4]
    have hlt : pre.length < t.length := by omega
    refine ifT (decide_eq_true (by omega)) ⟨by omega, AtN.of (at_pre hp) fun _ => ⟨by omega, AtN.of (at_len hlt) fun _ => ?_⟩⟩
    rw [ne32]
    refine IfB.intro (fun h2 => of_eq h (mism hp (List.getElem?_eq_getElem hlt) (by simpa using h2))) (fun h2 => of_eq (hx ?_) ?_)
    · exact take_snoc hP (by rw [List.getElem?_eq_getElem hlt]; congr 1; simpa using (by simpa using h2 : x = t[pre.length]).symm)
    · rw [wr_i64 (by omega) (by omega)]; simp
  · dsimp only [slices_Equalasl_uint32_uint32_l4]
    exact ifF (decide_eq_false (by omega)) (of_eq h (take_all hP h1))
theorem same1_c (x y : Seg) (K : Bool → Prop) (hl : x.2.length ≤ 9223372036854775807) (h : K (x == y)) : path_Same_1_q x y K := by
  unfold path_Same_1_q
  have e : (x == y) = (x.1 == y.1 && x.2 == y.2) := rfl
  rw [e] at h
  refine IfB.intro (fun h1 _ => eqU32_c _ _ _ hl fun _ => ?_) (fun h1 => ?_)
  · rw [h1] at h; exact h
  · rw [h1] at h; exact h
theorem raw1_c (x y : Raw) (K : Bool → Prop) (hl : x.2.length ≤ 9223372036854775807) (h : K (x == y)) : attr_Same_1_q x y K := by
  unfold attr_Same_1_q
  have e : (x == y) = (x.1 == y.1 && x.2 == y.2) := rfl
  rw [e] at h
  refine IfB.intro (fun h1 _ => eq8_c _ _ _ hl fun _ => ?_) (fun h1 => ?_)
  · rw [h1] at h; exact h
  · rw [h1] at h; exact h
theorem psame_c (s t : List Seg) (K : Bool → Prop) (hl : s.length ≤ 9223372036854775807) (hs : ∀ x ∈ s, x.2.length ≤ 9223372036854775807) (h : K (s == t)) : path_Same_q s t K := by
  unfold path_Same_q
  intro _
  unfold slices_EqualFuncasl_api_Segment_sl_api_Segment_api_Segment_api_Segment_at_path_Same_1_q
  refine IfB.intro (fun h1 _ => of_eq h (lens_ne h1)) (fun h1 => ?_)
  have h1 := lens_eq h1
  refine LoopJ.over s (fun pre => ((pre.length : Int), ())) (fun pre => pre = t.take pre.length) rfl rfl (fun pre x post hp hn hP next hx => ?_) (fun hP next _ => ?_)
  · intro _
    dsimp only [slices_EqualFuncasl_api_Segment_sl_api_Segment_api_Segment_api_Segment_at_path_Same_1_l4]
    have hlt : pre.length < t.length := by omega
    refine ifT (decide_eq_true (by omega)) ⟨by omega, AtN.of (at_pre hp) fun _ => ⟨by omega, AtN.of (at_len hlt) fun _ _ => same1_c _ _ _ (hs x (by simp [hp])) fun _ => ?_⟩⟩
    refine IfB.intro (fun h2 _ => of_eq h (mism hp (List.getElem?_eq_getElem hlt) (by simpa using h2))) (fun h2 => of_eq (hx ?_) ?_)
    · exact take_snoc hP (by rw [List.getElem?_eq_getElem hlt]; congr 1; simpa using (by simpa using h2 : x = t[pre.length]).symm)
    · rw [wr_i64 (by omega) (by omega)]; simp
  · dsimp only [slices_EqualFuncasl_api_Segment_sl_api_Segment_api_Segment_api_Segment_at_path_Same_1_l4]
    exact ifF (decide_eq_false (by omega)) fun _ => of_eq h (take_all hP h1)
theorem rsame_c (s t : List Raw) (K : Bool → Prop) (hl : s.length ≤ 9223372036854775807) (hs : ∀ x ∈ s, x.2.length ≤ 9223372036854775807) (h : K (s == t)) : slices_EqualFuncasl_api_Raw_sl_api_Raw_api_Raw_api_Raw_at_attr_Same_1_q s t K := by
  unfold slices_EqualFuncasl_api_Raw_sl_api_Raw_api_Raw_api_Raw_at_attr_Same_1_q
  refine IfB.intro (fun h1 => of_eq h (lens_ne h1)) (fun h1 => ?_)
  have h1 := lens_eq h1
  refine LoopJ.over s (fun pre => ((pre.length : Int), ())) (fun pre => pre = t.take pre.length) rfl rfl (fun pre x post hp hn hP next hx => ?_) (fun hP next _ => ?_)
  · intro _
    dsimp only [slices_EqualFuncasl_api_Raw_sl_api_Raw_api_Raw_api_Raw_at_attr_Same_1_l4]
    have hlt : pre.length < t.length := by omega
    refine ifT (decide_eq_true (by omega)) ⟨by omega, AtN.of (at_pre hp) fun _ => ⟨by omega, AtN.of (at_len hlt) fun _ _ => raw1_c _ _ _ (hs x (by simp [hp])) fun _ => ?_⟩⟩
    refine IfB.intro (fun h2 => of_eq h (mism hp (List.getElem?_eq_getElem hlt) (by simpa using h2))) (fun h2 => of_eq (hx ?_) ?_)
    · exact take_snoc hP (by rw [List.getElem?_eq_getElem hlt]; congr 1; simpa using (by simpa using h2 : x = t[pre.length]).symm)
    · rw [wr_i64 (by omega) (by omega)]; simp
  · dsimp only [slices_EqualFuncasl_api_Raw_sl_api_Raw_api_Raw_api_Raw_at_attr_Same_1_l4]
    exact ifF (decide_eq_false (by omega)) (of_eq h (take_all hP h1))

/-- Two that may be there. -/
theorem perh_c (i w s : Bool) (K : Bool → Prop) (h : K (perh i w s)) : attr_perhaps_q i w s K := by
  unfold attr_perhaps_q
  cases i <;> cases w <;> exact h
theorem same_j2 (a b : Attrs) (j : Bool) (K : Bool → Prop) (hl : a.path.length ≤ 9223372036854775807) (hs : ∀ x ∈ a.path, x.2.length ≤ 9223372036854775807) (hc : a.comms.length ≤ 9223372036854775807) (ho : a.others.length ≤ 9223372036854775807) (hr : ∀ x ∈ a.others, x.2.length ≤ 9223372036854775807)
    (h : K (!j && (a.path == b.path && (a.comms == b.comms && a.others == b.others)))) : attr_Same_j2 a b j K := by
  unfold attr_Same_j2
  refine IfB.intro (fun h1 => by rw [h1] at h; exact h) (fun h1 _ => psame_c _ _ _ hl hs fun _ => ?_)
  rw [h1] at h
  simp only [Bool.not_false, Bool.true_and] at h
  refine IfB.intro (fun h2 _ => eqU32_c _ _ _ hc fun _ => ?_) (fun h2 => ?_)
  · rw [h2] at h
    refine IfB.intro (fun h3 _ => rsame_c _ _ _ ho hr fun _ => ?_) (fun h3 => ?_)
    · rw [h3] at h; exact h
    · rw [h3] at h; exact h
  · rw [h2] at h; exact h
theorem same_j1 (a b : Attrs) (j : Bool) (K : Bool → Prop) (hl : a.path.length ≤ 9223372036854775807) (hs : ∀ x ∈ a.path, x.2.length ≤ 9223372036854775807) (hc : a.comms.length ≤ 9223372036854775807) (ho : a.others.length ≤ 9223372036854775807) (hr : ∀ x ∈ a.others, x.2.length ≤ 9223372036854775807)
    (h : K (!j && (perh a.hasMaker b.hasMaker (a.makerAS == b.makerAS && a.maker == b.maker) && (a.path == b.path && (a.comms == b.comms && a.others == b.others))))) : attr_Same_j1 a b j K := by
  unfold attr_Same_j1
  refine IfB.intro (fun h1 => by rw [h1] at h; exact h) (fun h1 => ?_)
  rw [h1] at h
  simp only [Bool.not_false, Bool.true_and] at h
  rw [eq32, eq32]
  refine IfB.intro (fun h2 _ => perh_c _ _ _ _ fun _ => same_j2 a b _ K hl hs hc ho hr ?_) (fun h2 _ => perh_c _ _ _ _ fun _ => same_j2 a b _ K hl hs hc ho hr ?_)
  · have h2' : (a.makerAS == b.makerAS) = true := h2
    rw [h2'] at h
    rw [Bool.not_not]; exact h
  · have h2' : (a.makerAS == b.makerAS) = false := h2
    rw [h2'] at h
    rw [Bool.not_not]; exact h
theorem same_j0 (a b : Attrs) (j : Bool) (K : Bool → Prop) (hl : a.path.length ≤ 9223372036854775807) (hs : ∀ x ∈ a.path, x.2.length ≤ 9223372036854775807) (hc : a.comms.length ≤ 9223372036854775807) (ho : a.others.length ≤ 9223372036854775807) (hr : ∀ x ∈ a.others, x.2.length ≤ 9223372036854775807)
    (h : K (!j && (perh a.hasMed b.hasMed (a.med == b.med) && (perh a.hasLocal b.hasLocal (a.loc == b.loc) && (perh a.hasMaker b.hasMaker (a.makerAS == b.makerAS && a.maker == b.maker) && (a.path == b.path && (a.comms == b.comms && a.others == b.others))))))) : attr_Same_j0 a b j K := by
  unfold attr_Same_j0
  refine IfB.intro (fun h1 => by rw [h1] at h; exact h) (fun h1 _ => ?_)
  rw [h1] at h
  simp only [Bool.not_false, Bool.true_and] at h
  rw [eq32, eq32]
  refine perh_c _ _ _ _ fun _ => IfB.intro (fun h2 => same_j1 a b true K hl hs hc ho hr ?_) (fun h2 _ => perh_c _ _ _ _ fun _ => same_j1 a b _ K hl hs hc ho hr ?_)
  · have h2' : perh a.hasMed b.hasMed (a.med == b.med) = false := by simpa using h2
    rw [h2'] at h; exact h
  · have h2' : perh a.hasMed b.hasMed (a.med == b.med) = true := by simpa using h2
    rw [h2'] at h
    rw [Bool.not_not]; exact h
theorem attr_Same_c (a b : Attrs) (K : Bool → Prop) (hl : a.path.length ≤ 9223372036854775807) (hs : ∀ x ∈ a.path, x.2.length ≤ 9223372036854775807) (hc : a.comms.length ≤ 9223372036854775807) (ho : a.others.length ≤ 9223372036854775807) (hr : ∀ x ∈ a.others, x.2.length ≤ 9223372036854775807)
    (h : K (sameA a b)) : attr_Same_q a b K := by
  unfold attr_Same_q
  unfold sameA at h
  rw [ne32]
  refine IfB.intro (fun h1 => same_j0 a b true K hl hs hc ho hr ?_) (fun h1 => IfB.intro (fun h2 => same_j0 a b true K hl hs hc ho hr ?_) (fun h2 => same_j0 a b _ K hl hs hc ho hr ?_))
  · have h1' : (a.origin == b.origin) = false := by simpa [bne] using h1
    rw [h1'] at h; exact h
  · have h1' : (a.origin == b.origin) = true := by simpa [bne] using h1
    have h2' : (a.next == b.next) = false := by simpa using h2
    rw [h1', h2'] at h; exact h
  · have h1' : (a.origin == b.origin) = true := by simpa [bne] using h1
    have h2' : (a.next == b.next) = true := by simpa using h2
    rw [h1', h2'] at h
    rw [Bool.not_not]; exact h

end Go.Proofs.Ytomdgakmkihfhaa

set_option linter.unusedVariables false
set_option linter.unusedSimpArgs false
namespace Go.Proofs.Ytomdgakmkihfhaa
open Go.Sh

theorem rpsame_c (s t : List Seg) (K : Bool → Prop) (hl : s.length ≤ 9223372036854775807) (hs : ∀ x ∈ s, x.2.length ≤ 9223372036854775807) (h : K (s == t)) : ref19_Same_q s t K := by
  unfold ref19_Same_q
  refine IfB.intro (fun h1 => of_eq h (lens_ne h1)) (fun h1 => ?_)
  have h1 := lens_eq h1
  refine LoopJ.over s (fun pre => ((pre.length : Int), ())) (fun pre => pre = t.take pre.length) rfl rfl (fun pre x post hp hn hP next hx => ?_) (fun hP next _ => ?_)
  · intro _
    dsimp only [ref19_Same_l4]
    have hlt : pre.length < t.length := by omega
    have hty : t[pre.length]? = some t[pre.length] := List.getElem?_eq_getElem hlt
    have hat := at_len hlt
    have hxl := hs x (by simp [hp])
    generalize t[pre.length] = y at hty hat
    have hne : ∀ (g : x ≠ y), K false := fun g => of_eq h (mism hp hty g)
    have hj : ∀ j : Bool, (j = true → x ≠ y) → (j = false → x.1 = y.1 ∧ x.2.length = y.2.length) → ref19_Same_j0 s t (pre.length : Int) next j K := fun j k1 k2 => by
      unfold ref19_Same_j0
      refine IfB.intro (fun g => hne (k1 g)) (fun g => ?_)
      obtain ⟨q1, q2⟩ := k2 g
      refine LoopJ.over x.2 (fun l => ((l.length : Int), ())) (fun l => l = y.2.take l.length) rfl rfl (fun l z r hz hm hL next' hy => ?_) (fun hL next' _ => ?_)
      · intro _
        dsimp only [ref19_Same_l9]
        have hlt2 : l.length < y.2.length := by omega
        refine ⟨by omega, AtN.of (at_pre hp) fun _ => ifT (decide_eq_true (by omega)) ⟨by omega, AtN.of (at_pre hp) fun _ => ⟨by omega, AtN.of (at_pre hz) fun _ => ⟨by omega, AtN.of hat fun _ => ⟨by omega, AtN.of (at_len hlt2) fun _ => ?_⟩⟩⟩⟩⟩
        rw [ne32]
        refine IfB.intro (fun g2 => hne fun e => ?_) (fun g2 => of_eq (hy ?_) ?_)
        · have g3 := mism hz (List.getElem?_eq_getElem hlt2) (by simpa using g2)
          rw [e] at g3; simp at g3
        · exact take_snoc hL (by rw [List.getElem?_eq_getElem hlt2]; congr 1; simpa using (by simpa using g2 : z = y.2[l.length]).symm)
        · rw [wr_i64 (by omega) (by omega)]; simp
      · dsimp only [ref19_Same_l9]
        refine ⟨by omega, AtN.of (at_pre hp) fun _ => ifF (decide_eq_false (by omega)) (of_eq (hx ?_) ?_)⟩
        · have e2 : x.2 = y.2 := beq_iff_eq.1 (take_all hL q2)
          exact take_snoc hP (by rw [hty]; congr 1; exact Prod.ext q1.symm e2.symm)
        · rw [wr_i64 (by omega) (by omega)]; simp
    refine ifT (decide_eq_true (by omega)) ⟨by omega, AtN.of (at_pre hp) fun _ => ⟨by omega, AtN.of hat fun _ => ?_⟩⟩
    refine IfB.intro (fun g => hj true (fun _ e => by rw [e] at g; simp at g) (fun g => by cases g)) (fun g => ⟨by omega, AtN.of (at_pre hp) fun _ => ⟨by omega, AtN.of hat fun _ => hj _ (fun g2 e => by rw [e] at g2; simp at g2) (fun g2 => ⟨by simpa using g, lens_eq g2⟩)⟩⟩)
  · dsimp only [ref19_Same_l4]
    exact ifF (decide_eq_false (by omega)) (of_eq h (take_all hP h1))

theorem rj0_f (a b : Attrs) (K : Bool → Prop) (hc : a.comms.length ≤ 9223372036854775807) (ho : a.others.length ≤ 9223372036854775807) (h1 : a.comms.length = b.comms.length) (h2 : a.others.length = b.others.length) (h : K (a.comms == b.comms && a.others == b.others)) : ref20_Same_j0 a b false K := by
  obtain ⟨origin, path, nxt, hasMed, med, hasLocal, loc, atomic, hasMaker, makerAS, maker, comms, others⟩ := a
  obtain ⟨origin', path', nxt', hasMed', med', hasLocal', loc', atomic', hasMaker', makerAS', maker', comms', others'⟩ := b
  simp only [Attrs.comms, Attrs.others] at *
  unfold ref20_Same_j0
  refine ifF rfl ?_
  refine LoopJ.over comms (fun pre => ((pre.length : Int), ())) (fun pre => pre = comms'.take pre.length) rfl rfl (fun pre x post hp hn hP next hx => ?_) (fun hP next _ => ?_)
  · intro _
    dsimp only [ref20_Same_l4]
    have hlt : pre.length < comms'.length := by omega
    refine ifT (decide_eq_true (by omega)) ⟨by omega, AtN.of (at_pre hp) fun _ => ⟨by omega, AtN.of (at_len hlt) fun _ => ?_⟩⟩
    rw [ne32]
    refine IfB.intro (fun g => of_eq h (by rw [mism hp (List.getElem?_eq_getElem hlt) (by simpa using g), Bool.false_and])) (fun g => of_eq (hx ?_) ?_)
    · exact take_snoc hP (by rw [List.getElem?_eq_getElem hlt]; congr 1; simpa using (by simpa using g : x = comms'[pre.length]).symm)
    · rw [wr_i64 (by omega) (by omega)]; simp
  · dsimp only [ref20_Same_l4]
    refine ifF (decide_eq_false (by omega)) ?_
    rw [take_all hP h1, Bool.true_and] at h
    refine LoopJ.over others (fun pre => ((pre.length : Int), ())) (fun pre => pre = others'.take pre.length) rfl rfl (fun pre x post hp hn hP next hx => ?_) (fun hP next _ => ?_)
    · intro _
      dsimp only [ref20_Same_l9]
      have hlt : pre.length < others'.length := by omega
      have hty : others'[pre.length]? = some others'[pre.length] := List.getElem?_eq_getElem hlt
      have hat := at_len hlt
      generalize others'[pre.length] = y at hty hat
      have hj : ∀ j : Bool, (j = true → x ≠ y) → (j = false → x = y) → ref20_Same_j1 (origin, path, nxt, hasMed, med, hasLocal, loc, atomic, hasMaker, makerAS, maker, comms, others) (origin', path', nxt', hasMed', med', hasLocal', loc', atomic', hasMaker', makerAS', maker', comms', others') (pre.length : Int) next j K := fun j k1 k2 => by
        unfold ref20_Same_j1
        refine IfB.intro (fun g => of_eq h (mism hp hty (k1 g))) (fun g => of_eq (hx ?_) ?_)
        · exact take_snoc hP (by rw [hty, k2 g])
        · rw [wr_i64 (by omega) (by omega)]; simp
      refine ifT (decide_eq_true (by omega)) ⟨by omega, AtN.of (at_pre hp) fun _ => ⟨by omega, AtN.of hat fun _ => ?_⟩⟩
      refine IfB.intro (fun g => hj true (fun _ e => by rw [e] at g; simp at g) (fun g => by cases g)) (fun g => ⟨by omega, AtN.of (at_pre hp) fun _ => ⟨by omega, AtN.of hat fun _ => hj _ (fun g2 e => by rw [e] at g2; simp at g2) (fun g2 => Prod.ext (by simpa using g) (by simpa using g2))⟩⟩)
    · dsimp only [ref20_Same_l9]
      exact ifF (decide_eq_false (by omega)) (of_eq h (take_all hP h2))
theorem stg {i w : Bool} {x y : UInt32} {J X : Prop} (h1 : perh i w (x == y) = false → J) (h2 : perh i w (x == y) = true → X) : IfB (!(i == w)) J (IfB i (IfB ((x.toNat : Int) != (y.toNat : Int)) J X) X) := by
  rw [ne32]
  cases i <;> cases w <;> cases hxy : (x == y) <;> simp_all [IfB, perh]
theorem stg2 {i w : Bool} {x y u v : UInt32} {J X : Prop} (h1 : perh i w (x == y && u == v) = false → J) (h2 : perh i w (x == y && u == v) = true → X) : IfB (!(i == w)) J (IfB i (IfB ((x.toNat : Int) != (y.toNat : Int)) J (IfB ((u.toNat : Int) != (v.toNat : Int)) J X)) X) := by
  rw [ne32, ne32]
  cases i <;> cases w <;> cases hxy : (x == y) <;> cases huv : (u == v) <;> simp_all [IfB, perh]
theorem ref20_Same_c (a b : Attrs) (K : Bool → Prop) (hl : a.path.length ≤ 9223372036854775807) (hs : ∀ x ∈ a.path, x.2.length ≤ 9223372036854775807) (hc : a.comms.length ≤ 9223372036854775807) (ho : a.others.length ≤ 9223372036854775807) (h : K (sameA a b)) : ref20_Same_q a b K := by
  have no : sameA a b = false → ref20_Same_j0 a b true K := fun e => by
    unfold ref20_Same_j0
    exact ifT rfl (of_eq h e)
  unfold ref20_Same_q
  rw [ne32]
  refine IfB.intro (fun g => no (by simp at g; simp [sameA, g])) (fun g1 _ => rpsame_c _ _ _ hl hs fun _ => ?_)
  refine IfB.intro (fun g => no (by simp at g; simp [sameA, g])) (fun g2 => ?_)
  refine IfB.intro (fun g => no (by simp at g; simp [sameA, g])) (fun g3 => ?_)
  refine stg (fun g => no (by simp [sameA, g])) (fun g4 => ?_)
  refine stg (fun g => no (by simp [sameA, g])) (fun g5 => ?_)
  refine IfB.intro (fun g => no (by simp at g; simp [sameA, g])) (fun g6 => ?_)
  refine stg2 (fun g => no (by simp [sameA, g])) (fun g7 => ?_)
  have e1 : (a.origin == b.origin) = true := by simpa using g1
  have e2 : (a.path == b.path) = true := by simpa using g2
  have e3 : (a.next == b.next) = true := by simpa using g3
  have e6 : (a.atomic == b.atomic) = true := by simpa using g6
  refine IfB.intro (fun g => no (by have := lens_ne g; simp [sameA, this])) (fun g8 => ?_)
  have q1 := lens_eq g8
  have key : ∀ j, ((a.others.length : Int) != (b.others.length : Int)) = j → ref20_Same_j0 a b j K := fun j g9 => by
    cases j with
    | true =>
      have := lens_ne g9
      exact no (by simp [sameA, this])
    | false =>
      refine rj0_f a b K hc ho q1 (lens_eq g9) (of_eq h ?_)
      unfold sameA
      rw [e1, e2, e3, e6, g4, g5, g7]
      simp only [Bool.true_and]
  exact key _ rfl

end Go.Proofs.Ytomdgakmkihfhaa
