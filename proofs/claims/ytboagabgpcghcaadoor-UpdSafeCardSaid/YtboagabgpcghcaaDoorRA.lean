/-
  Paths and attributes as data.
  Paths (layer 19): what the program's functions and the document's find.
  Attributes (layer 20): what the program's functions and the document's find.
  Attributes (layer 20): what the program puts.
  Attributes (layer 20): what the program puts, and what the document does.
  Attributes (layer 20): what the document puts; the copies.
  Attributes (layer 20): copies.
  Attributes (layer 20): attributes with few members.
  The law: any attributes are put as the document says, or refused.
  Reading paths and attributes, plainly (no program in sight): what is read, and that what was put is read back.
  Reading attributes, plainly: the whole, and that what was put is read back.
  Attributes that were put are read back, plainly.
  Attributes that were put are read back, as a whole, plainly.
  Attributes that are read twice, one behind the other, plainly.
  What was read and found to be fine, or to have something dropped, may be put again, plainly.
  Reading paths: what the program finds.
  Paths merged: what the program finds.
  Pieces of attributes, and numbers in four bytes: what the program finds, and the document.
  SOME FUNCTIONS IN PLAIN LOGIC: printed by a program of ours over this translation.
  PIECES OF FUNCTIONS IN PLAIN LOGIC: printed by a program of ours over this translation.
  SOME FUNCTIONS IN PLAIN LOGIC: printed by a program of ours over this translation.
-/
import Derived.Test.YtboagabgpcghcaaDoorHm1
import Derived.Test.YtboagabgpcghcaaDoorQ
import Derived.Test.YtboagabgpcghcaaDoorHm2
import Derived.Test.YtboagabgpcghcaaDoorNum
import Derived.Test.YtboagabgpcghcaaDoorRows
import Derived.Test.YtboagabgpcghcaaDoorSh16
set_option linter.all false
section
namespace Go.Proofs.YtboagabgpcghcaaDoor
open Go.Sh
abbrev Seg := Bool × List UInt32
abbrev Raw := Int × List UInt8
abbrev Attrs := Int × List Seg × UInt32 × Bool × UInt32 × Bool × UInt32 × Bool × Bool × UInt32 × UInt32 × List UInt32 × List Raw
abbrev Attrs.origin (a : Attrs) : Int := a.1
abbrev Attrs.path (a : Attrs) : List Seg := a.2.1
abbrev Attrs.next (a : Attrs) : UInt32 := a.2.2.1
abbrev Attrs.hasMed (a : Attrs) : Bool := a.2.2.2.1
abbrev Attrs.med (a : Attrs) : UInt32 := a.2.2.2.2.1
abbrev Attrs.hasLocal (a : Attrs) : Bool := a.2.2.2.2.2.1
abbrev Attrs.loc (a : Attrs) : UInt32 := a.2.2.2.2.2.2.1
abbrev Attrs.atomic (a : Attrs) : Bool := a.2.2.2.2.2.2.2.1
abbrev Attrs.hasMaker (a : Attrs) : Bool := a.2.2.2.2.2.2.2.2.1
abbrev Attrs.makerAS (a : Attrs) : UInt32 := a.2.2.2.2.2.2.2.2.2.1
abbrev Attrs.maker (a : Attrs) : UInt32 := a.2.2.2.2.2.2.2.2.2.2.1
abbrev Attrs.comms (a : Attrs) : List UInt32 := a.2.2.2.2.2.2.2.2.2.2.2.1
abbrev Attrs.others (a : Attrs) : List Raw := a.2.2.2.2.2.2.2.2.2.2.2.2
end Go.Proofs.YtboagabgpcghcaaDoor
namespace Go.Proofs.YtboagabgpcghcaaDoor
open Go.Sh
def cnt (p : List Seg) : Nat := (p.map (·.2.length)).sum
theorem cnt_snoc (p : List Seg) (s : Seg) : cnt (p ++ [s]) = cnt p + s.2.length := by simp [cnt]
theorem zz25_c (p : List Seg) (K : Int -> Prop) (hl : p.length <= 9223372036854775807) (hc : cnt p <= 9223372036854775807) (h : K (cnt p)) : zz25_q p K := by
  unfold zz25_q; refine LoopJ.list p (fun pre => ((cnt pre : Int), (pre.length : Int), ())) (fun _ => True) rfl trivial (fun pre s post hp _ next hn => ?_) (fun _ next _ => ?_)
  . intro _; dsimp only [zz25_l3]; refine ifT (by simp [hp]; omega) ⟨by omega, AtN.of (at_pre hp) fun _ => of_eq (hn trivial) ?_⟩
    have h1 : p.length = pre.length + 1 + post.length := by rw [hp]; simp; omega
    have h2 : cnt p = cnt pre + s.2.length + cnt post := by rw [hp]; simp [cnt]; omega
    rw [wr_i64 (by omega) (by omega), wr_i64 (by omega) (by omega), cnt_snoc]
    simp
  dsimp only [zz25_l3]; exact ifF (by simp) h
theorem index_c (l : List UInt32) (v : Int) (K : Int -> Prop) (hl : l.length <= 9223372036854775807) (h1 : ∀ i : Nat, (∃ x ∈ l, (x.toNat : Int) = v) -> K i) (h2 : (∀ x ∈ l, (x.toNat : Int) ≠ v) -> K (-1)) : zz27_q l v K := by
  unfold zz27_q; refine LoopJ.list l (fun pre => ((pre.length : Int), ())) (fun pre => ∀ x ∈ pre, (x.toNat : Int) ≠ v) rfl (by simp) (fun pre x post hp hP next hn => ?_) (fun hP next _ => ?_)
  . intro _; dsimp only [zz27_l2]; refine ifT (by simp [hp]; omega) ⟨by omega, AtN.of (at_pre hp) fun _ => ?_⟩
    refine IfB.intro (fun h => ?_) (fun h => ?_); exact h1 pre.length ⟨x, by simp [hp], by simpa using (by simpa using h : v = (x.toNat : Int)).symm⟩
    . have hne : v ≠ (x.toNat : Int) := by simpa using h
      refine of_eq (hn fun y hy => ?_) ?_; rcases List.mem_append.1 hy with hy | hy; exact hP y hy; simp only [List.mem_singleton] at hy; subst hy; exact fun e => hne e.symm
      . have h1 : l.length = pre.length + 1 + post.length := by rw [hp]; simp; omega
        rw [wr_i64 (by omega) (by omega)]
        simp
  dsimp only [zz27_l2]; exact ifF (by simp) (h2 hP)
theorem contains_c (l : List UInt32) (v : Int) (K : Bool -> Prop) (hl : l.length <= 9223372036854775807) (h : K (l.any fun x => (x.toNat : Int) == v)) : zz42_q l v K := by
  unfold zz42_q; intro _; refine index_c l v _ hl (fun i hx _ => of_eq h ?_) (fun hx _ => of_eq h ?_)
  . obtain ⟨x, hx, hv⟩ := hx; rw [List.any_eq_true.2 ⟨x, hx, by simp [hv]⟩]
    simp
  . have : (l.any fun x => (x.toNat : Int) == v) = false := by rw [List.any_eq_false]; intro x h; simpa using hx x h
    rw [this]; rfl
theorem u32_ne0 (x : UInt32) : (x != 0) = !((x.toNat : Int) == 0) := by
  by_cases h : x = 0; subst h; rfl
  . have : x.toNat ≠ 0 := fun e => h (UInt32.toNat_inj.1 e); have h2 : ((x.toNat : Int) == 0) = false := by simpa using this
    rw [h2]; simp [h]
def partOk (s : Seg) : Bool := decide (0 < s.2.length) && decide (s.2.length <= 255) && s.2.all fun x => x != 0
theorem zz38_c (s : Seg) (K : Bool -> Prop) (h : K (partOk s)) : zz38_q s K := by
  unfold zz38_q; refine IfB.intro (fun h1 => IfB.intro (fun h2 => ?_) (fun h2 => of_eq h ?_)) (fun h1 => of_eq h ?_)
  . intro _; have h1 : 0 < s.2.length := by simpa using h1
    have h2 : s.2.length <= 255 := by simp at h2; omega
    refine contains_c s.2 0 _ (by omega) (fun _ => of_eq h ?_)
    have e : (s.2.all fun x => x != 0) = !(s.2.any fun x => (x.toNat : Int) == 0) := by rw [List.not_any_eq_all_not]; congr 1; funext x; exact u32_ne0 x
    simp [partOk, h1, h2, e]
  . have : ¬ s.2.length <= 255 := by simp at h2; omega
    simp [partOk, this]
  . have : ¬ 0 < s.2.length := by simp at h1; simp [h1]
    simp [partOk, this]
def pathOk (p : List Seg) : Bool := p.all partOk && decide (cnt p <= 64)
def errIf (b : Bool) : Int := if b then 0 else 2
theorem zz8_c (p : List Seg) (K : Int -> Prop) (hl : p.length <= 9223372036854775807) (hc : cnt p <= 9223372036854775807) (h : K (errIf (pathOk p))) : zz8_q p K := by
  unfold zz8_q; refine LoopJ.over p (fun pre => ((pre.length : Int), ())) (fun pre => pre.all partOk = true) rfl rfl (fun pre s post hp hn hP next hx => ?_) (fun hP next _ => ?_)
  . intro _; dsimp only [zz8_l2]; refine ifT (decide_eq_true (by omega)) ⟨by omega, AtN.of (at_pre hp) fun _ _ => ?_⟩
    refine zz38_c s _ fun _ => IfB.intro (fun h1 => of_eq h ?_) (fun h1 => of_eq (hx ?_) ?_)
    . have : p.all partOk = false := by rw [hp]; simp at h1; simp [h1]
      simp [pathOk, this, errIf]
    simp at h1; simp [h1]; simpa using hP
    . rw [wr_i64 (by omega) (by omega)]; simp
  . dsimp only [zz8_l2]; refine ifF (decide_eq_false (by omega)) fun _ => zz25_c p _ hl hc fun _ => IfB.intro (fun h1 => of_eq h ?_) (fun h1 => of_eq h ?_)
    . have : ¬ cnt p <= 64 := by simp at h1; omega
      simp [pathOk, this, errIf]
    . have : cnt p <= 64 := by simp at h1; omega
      rw [pathOk, hP, decide_eq_true this]; rfl
theorem cnt_parts (pre post : List Seg) (s : Seg) : cnt (pre ++ s :: post) = cnt pre + s.2.length + cnt post := by simp [cnt]; omega
def encAS (four : Bool) (x : UInt32) : List UInt8 := if four then be4 x.toNat else be2 (if x.toNat > 65535 then 23456 else x.toNat)
def encSeg (four : Bool) (s : Seg) : List UInt8 := [if s.1 then 1 else 2, UInt8.ofNat s.2.length] ++ s.2.flatMap (encAS four)
def encPath (four : Bool) (p : List Seg) : List UInt8 := p.flatMap (encSeg four)
theorem encAS_len (four : Bool) (x : UInt32) : (encAS four x).length <= 4 := by unfold encAS; split <;> simp [be4, be2]
theorem encASs_len (four : Bool) : ∀ l : List UInt32, (l.flatMap (encAS four)).length <= 4 * l.length
  | [] => by simp
  | x :: l => by have h1 := encAS_len four x; have h2 := encASs_len four l; simp only [List.flatMap_cons, List.length_append, List.length_cons]; omega
theorem encPath_len (four : Bool) : ∀ p : List Seg, (encPath four p).length <= 2 * p.length + 4 * cnt p
  | [] => by simp [encPath]
  | s :: p => by
    have h1 := encASs_len four s.2; have h2 := encPath_len four p; have h3 : cnt (s :: p) = s.2.length + cnt p := by simp [cnt]
    have h4 : (encPath four (s :: p)).length = 2 + (s.2.flatMap (encAS four)).length + (encPath four p).length := by simp [encPath, encSeg]; omega
    simp only [List.length_cons]; omega
theorem parts_len : ∀ p : List Seg, p.all partOk = true -> p.length <= cnt p
  | [], _ => by simp
  | s :: p, h => by
    simp only [List.all_cons, Bool.and_eq_true] at h; have h1 := parts_len p h.2; have h2 : 0 < s.2.length := by have := h.1; simp only [partOk, Bool.and_eq_true, decide_eq_true_eq] at this; exact this.1.1
    have h3 : cnt (s :: p) = s.2.length + cnt p := by simp [cnt]
    simp only [List.length_cons]; omega
theorem encPath_snoc (four : Bool) (p : List Seg) (s : Seg) : encPath four (p ++ [s]) = encPath four p ++ encSeg four s := by simp [encPath]
theorem enc_short {four : Bool} {p pre post : List Seg} {s : Seg} (hp : p = pre ++ s :: post) (hok : pathOk p = true) : (encPath four pre).length + 4 * s.2.length + 10 <= 1000 := by
  simp only [pathOk, Bool.and_eq_true, decide_eq_true_eq] at hok; have h1 := parts_len p hok.1; have h2 := encPath_len four pre; have h3 := cnt_parts pre post s; rw [← hp] at h3; have h4 : pre.length <= p.length := by rw [hp]; simp
  omega
theorem encAS_four (x : UInt32) : encAS true x = [UInt8.ofNat (x.toNat / 16777216), UInt8.ofNat (x.toNat / 65536), UInt8.ofNat (x.toNat / 256), UInt8.ofNat x.toNat] := rfl
theorem zz39_c (s : Seg) (K : Int -> Prop) (h : K (if s.1 then 1 else 2)) : zz39_q s K := by unfold zz39_q; refine IfB.intro (fun h1 => of_eq h ?_) (fun h1 => of_eq h ?_) <;> simp [h1]
theorem zz6_c (p : List Seg) (four : Bool) (K : List UInt8 -> Int -> Prop) (hl : p.length <= 9223372036854775807) (hc : cnt p <= 9223372036854775807) (h : K (if pathOk p then encPath four p else []) (errIf (pathOk p))) : zz6_q p four K := by
  unfold zz6_q; intro _; refine zz8_c p _ hl hc fun _ => IfB.intro (fun h1 => ?_) (fun h1 => ?_)
  . have : pathOk p = false := by cases hb : pathOk p <;> simp [errIf, hb] at h1 ⊢
    rw [this] at h ⊢; exact h
  . have hok : pathOk p = true := by cases hb : pathOk p <;> simp [errIf, hb] at h1 ⊢
    rw [hok] at h; refine LoopJ.over p (fun pre => (encPath four pre, (pre.length : Int), ())) (fun _ => True) rfl trivial (fun pre s post hp hn _ next hx => ?_) (fun _ next _ => ?_)
    . intro _; dsimp only [zz6_l6]; have hsh := enc_short (four := four) hp hok; refine ifT (decide_eq_true (by omega)) ⟨by omega, AtN.of (at_pre hp) fun _ _ => zz39_c s _ fun _ => ⟨by simp only [List.length_cons, List.length_nil]; omega, ?_⟩⟩
      refine LoopJ.over s.2 (fun l => (encPath four pre ++ [if s.1 then 1 else 2, UInt8.ofNat s.2.length] ++ l.flatMap (encAS four), (l.length : Int), ())) (fun _ => True) ?_ trivial (fun l x r hs hm _ next' hy => ?_) (fun _ next' _ => ?_)
      rw [of8w]; cases s.1 <;> simp [ofI]
      . intro _; dsimp only [zz6_l10]; have h5 := encASs_len four l; refine ifT (decide_eq_true (by omega)) ⟨by omega, AtN.of (at_pre hs) fun _ => IfB.intro (fun h1 => ?_) (fun h1 => IfB.intro (fun h2 => ?_) (fun h2 => ?_))⟩
        . refine ⟨by omega, by omega, by simp only [List.length_append, List.length_cons, List.length_nil]; omega, by decide, by simp only [List.length_append, List.length_cons, List.length_nil]; omega, ?_⟩
          dsimp only [zz6_j1]; refine of_eq (hy trivial) ?_; rw [wr_i64 (by omega) (by omega), fdiv_1, fdiv_2, fdiv_3, of8w, of8w, of8w, of8w]
          simp [h1, encAS_four]
        . refine ⟨by decide, by simp only [List.length_append, List.length_cons, List.length_nil]; omega, ?_⟩
          dsimp only [zz6_j1]; refine of_eq (hy trivial) ?_; have h2 : x.toNat > 65535 := by simp at h2; omega
          rw [wr_i64 (by omega) (by omega)]
          simp [h1, encAS, h2, be2]; decide
        . refine ⟨by decide, by simp only [List.length_append, List.length_cons, List.length_nil]; omega, ?_⟩
          dsimp only [zz6_j1]; refine of_eq (hy trivial) ?_; have h2 : ¬ x.toNat > 65535 := by simp at h2; omega
          rw [wr_i64 (by omega) (by omega), fdiv_1, of8w, of8w]
          simp [h1, encAS, h2, be2]
      . dsimp only [zz6_l10]; refine ifF (decide_eq_false (by omega)) (of_eq (hx trivial) ?_)
        rw [wr_i64 (by omega) (by omega), encPath_snoc]
        simp [encSeg]
    dsimp only [zz6_l6]; exact ifF (decide_eq_false (by omega)) h
end Go.Proofs.YtboagabgpcghcaaDoor
namespace Go.Proofs.YtboagabgpcghcaaDoor
open Go.Sh
def knownK (k : Int) : Bool := k == 1 || k == 2 || k == 3 || k == 4 || k == 5 || k == 6 || k == 7 || k == 8 || k == 17 || k == 18
def flagOf (k : Int) : Int := if k = 1 ∨ k = 2 ∨ k = 3 ∨ k = 5 ∨ k = 6 then 64 else if k = 4 then 128 else if k = 7 ∨ k = 8 ∨ k = 17 ∨ k = 18 then 192 else 0
theorem zz30_c (n : Int) (K : Bool -> Prop) (h : K (decide (n ≠ 0 ∧ n < 3758096384))) : zz30_q n K := by unfold zz30_q; refine IfB.intro (fun h1 => of_eq h ?_) (fun h1 => of_eq h ?_) <;> simp_all
theorem zz5_c (k : Int) (K : Int -> Bool -> Prop) (h : K (flagOf k) (knownK k)) : zz5_q k K := by
  by_cases h1 : k = 1; · subst h1; exact h
  by_cases h2 : k = 2; · subst h2; exact h
  by_cases h3 : k = 3; · subst h3; exact h
  by_cases h5 : k = 5; · subst h5; exact h
  by_cases h6 : k = 6; · subst h6; exact h
  by_cases h4 : k = 4; · subst h4; exact h
  by_cases h7 : k = 7; · subst h7; exact h
  by_cases h8 : k = 8; · subst h8; exact h
  by_cases h17 : k = 17; · subst h17; exact h
  by_cases h18 : k = 18; · subst h18; exact h
  have e : ∀ n : Int, k ≠ n -> (k == n) = false := fun n hn => by simpa using hn
  have ef : flagOf k = 0 := by simp [flagOf, h1, h2, h3, h4, h5, h6, h7, h8, h17, h18]
  have ek : knownK k = false := by simp [knownK, h1, h2, h3, h4, h5, h6, h7, h8, h17, h18]
  rw [ef, ek] at h; simp only [zz5_q, zz5_j0, zz5_j1, zz5_j2, e 1 h1, e 2 h2, e 3 h3, e 4 h4, e 5 h5, e 6 h6, e 7 h7, e 8 h8, e 17 h17, e 18 h18, IfB]; exact h
def othersOk : Int -> List Raw -> Bool
  | _, [] => true
  | last, x :: l => (!knownK x.1 && decide (last < x.1) && decide (x.1 <= 255) && decide (x.2.length <= 255)) && othersOk x.1 l
def lastOf : Int -> List Raw -> Int
  | last, [] => last
  | _, x :: l => lastOf x.1 l
theorem othersOk_app : ∀ (l l' : List Raw) (last : Int), othersOk last (l ++ l') = (othersOk last l && othersOk (lastOf last l) l')
  | [], l', last => by simp [othersOk, lastOf]
  | x :: l, l', last => by simp only [List.cons_append, othersOk, lastOf, othersOk_app l l' x.1, Bool.and_assoc]
theorem lastOf_snoc : ∀ (l : List Raw) (x : Raw) (last : Int), lastOf last (l ++ [x]) = x.1
  | [], x, last => rfl
  | y :: l, x, last => by simp only [List.cons_append, lastOf]; exact lastOf_snoc l x y.1
theorem zz20_c (l : List Raw) (K : Bool -> Prop) (hl : l.length <= 9223372036854775807) (h : K (othersOk (-1) l && decide (l.length <= 8))) : zz20_q l K := by
  unfold zz20_q; refine LoopJ.over l (fun pre => (lastOf (-1) pre, (pre.length : Int), ())) (fun pre => othersOk (-1) pre = true) rfl rfl (fun pre x post hp hn hP next hx => ?_) (fun hP next _ => ?_)
  . intro _; dsimp only [zz20_l3, zz20_j0]; have good : othersOk (lastOf (-1) pre) [x] = true -> next (x.1, IntKind.wrap .i64 ((pre.length : Int) + 1), ()) := fun hg => by
      refine of_eq (hx (by rw [othersOk_app, hP, hg]; rfl)) ?_
      rw [lastOf_snoc, wr_i64 (by omega) (by omega)]; simp
    have bad : othersOk (lastOf (-1) pre) [x] = false -> K false := fun hb => of_eq h (by
      have e : pre ++ x :: post = (pre ++ [x]) ++ post := by simp
      rw [hp, e, othersOk_app, othersOk_app, hb]; simp)
    refine ifT (decide_eq_true (by omega)) ⟨by omega, AtN.of (at_pre hp) fun _ _ => ?_⟩
    refine zz5_c x.1 _ fun _ => IfB.intro (fun h1 => bad ?_) (fun h1 => IfB.intro (fun h2 => bad ?_) (fun h2 => IfB.intro (fun h3 => bad ?_) (fun h3 => IfB.intro (fun h4 => bad ?_) (fun h4 => good ?_)))); simp [othersOk, h1]
    . have h2 : ¬ lastOf (-1) pre < x.1 := by simp at h2; omega
      simp [othersOk, h2]
    . have h3 : ¬ x.1 <= 255 := by simp at h3; omega
      simp [othersOk, h3]
    . have h4 : ¬ x.2.length <= 255 := by simp at h4; omega
      simp [othersOk, h4]
    . have h2 : lastOf (-1) pre < x.1 := by simp at h2; omega
      have h3 : x.1 <= 255 := by simp at h3; omega
      have h4 : x.2.length <= 255 := by simp at h4; omega
      simp [othersOk, h1, h2, h3, h4]
  . dsimp only [zz20_l3]; refine ifF (decide_eq_false (by omega)) (of_eq h ?_)
    rw [hP, Bool.true_and]; congr 1; apply propext; omega
def attrsOk (a : Attrs) : Bool := decide (0 <= a.origin) && decide (a.origin <= 2) && pathOk a.path && decide ((a.next.toNat : Int) ≠ 0 ∧ (a.next.toNat : Int) < 3758096384) && !(a.hasMaker && (a.makerAS.toNat : Int) == 0) && decide (a.comms.length <= 32) && (othersOk (-1) a.others && decide (a.others.length <= 8))
theorem errIf_ne (b : Bool) : (errIf b != 0) = !b := by cases b <;> rfl
theorem zz14_c (a : Attrs) (K : Int -> Prop) (hl : a.path.length <= 9223372036854775807) (hc : cnt a.path <= 9223372036854775807) (ho : a.others.length <= 9223372036854775807) (h : K (errIf (attrsOk a))) : zz14_q a K := by
  obtain ⟨origin, path, nxt, hasMed, med, hasLocal, loc, atomic, hasMaker, makerAS, maker, comms, others⟩ := a; have bad : attrsOk (origin, path, nxt, hasMed, med, hasLocal, loc, atomic, hasMaker, makerAS, maker, comms, others) = false -> K 2 := fun hb => of_eq h (by rw [hb]; rfl)
  unfold zz14_q; simp only [attrsOk, Attrs.origin, Attrs.path, Attrs.next, Attrs.hasMaker, Attrs.makerAS, Attrs.comms, Attrs.others] at *; refine IfB.intro (fun h1 => bad ?_) (fun h1 => IfB.intro (fun h2 => bad ?_) (fun h2 => ?_))
  . have : ¬ 0 <= origin := by simp at h1; omega
    simp [this]
  . have : ¬ origin <= 2 := by simp at h2; omega
    simp [this]
  have h1 : 0 <= origin := by simp at h1; omega
  have h2 : origin <= 2 := by simp at h2; omega
  intro _; refine zz8_c path _ hl hc fun _ => ?_; dsimp only [zz14_j0]; rw [errIf_ne]; refine IfB.intro (fun h3 => bad ?_) (fun h3 _ => ?_)
  . have : pathOk path = false := by simpa using h3
    simp [this]
  have h3 : pathOk path = true := by simpa using h3
  refine zz30_c _ _ fun _ => ?_; refine IfB.intro (fun h4 => bad ?_) (fun h4 => ?_)
  . have : decide ((nxt.toNat : Int) ≠ 0 ∧ (nxt.toNat : Int) < 3758096384) = false := by simpa only [Bool.not_eq_true', Bool.not_eq_false'] using h4
    simp only [this, Bool.and_false, Bool.false_and]
  have h4 : decide ((nxt.toNat : Int) ≠ 0 ∧ (nxt.toNat : Int) < 3758096384) = true := by simpa only [Bool.not_eq_true', Bool.not_eq_false'] using h4
  have rest : (hasMaker && (makerAS.toNat : Int) == 0) = false -> zz14_j1 (origin, path, nxt, hasMed, med, hasLocal, loc, atomic, hasMaker, makerAS, maker, comms, others) false K := fun h5 => by
    dsimp only [zz14_j1, zz14_j2]; refine ifF rfl (IfB.intro (fun h6 => bad ?_) (fun h6 _ => zz20_c others _ ho fun _ => ?_))
    . have : ¬ comms.length <= 32 := by simp at h6; omega
      simp [this]
    . have h6 : comms.length <= 32 := by simp at h6; omega
      refine of_eq (next := fun b => IfB (!b) (K 2) (K 0)) ?_ rfl
      refine IfB.intro (fun h7 => bad ?_) (fun h7 => of_eq h ?_)
      . have h7 : (othersOk (-1) others && decide (others.length <= 8)) = false := by simpa only [Bool.not_eq_true', Bool.not_eq_false'] using h7
        rw [h7, Bool.and_false]
      . have h7 : (othersOk (-1) others && decide (others.length <= 8)) = true := by simpa only [Bool.not_eq_true', Bool.not_eq_false'] using h7
        rw [h7, h3, h4, h5, decide_eq_true h1, decide_eq_true h2, decide_eq_true h6]; rfl
  refine IfB.intro (fun h5 => ?_) (fun h5 => rest ?_)
  . cases h6 : ((makerAS.toNat : Int) == 0) with
    | true =>
      dsimp only [zz14_j1]; refine ifT rfl (bad ?_); have : (hasMaker && (makerAS.toNat : Int) == 0) = true := by rw [h6, Bool.and_true]; exact h5
      simp only [this, Bool.not_true, Bool.and_false, Bool.false_and]
    | false => exact rest (by rw [h6, Bool.and_false])
  have h5 : hasMaker = false := h5; rw [h5, Bool.false_and]
end Go.Proofs.YtboagabgpcghcaaDoor
namespace Go.Proofs.YtboagabgpcghcaaDoor
open Go.Sh
theorem grow_c (n : Int) (K : List UInt8 -> Prop) (h0 : 0 <= n) (hn : n <= 1000000000) (h : K []) : zz43_at_nil_q n K := by
  unfold zz43_at_nil_q; have e : IntKind.wrap .i64 (n - IntKind.wrap .i64 (0 - 0)) = n := by
    rw [wr_i64 (n := 0 - 0) (by omega) (by omega)]
    exact wr_i64 (by omega) (by omega) |>.trans (by omega)
  rw [e]; refine ifF (decide_eq_false (by omega)) (IfB.intro (fun h1 => ?_) (fun _ => h))
  have h1 : 0 < n := by simpa using h1
  exact ⟨by omega, by omega, h1, hn, by omega, by omega, by simpa using h⟩
theorem sum_pre {pre post : List (List UInt8)} {x : List UInt8} : (pre ++ x :: post).flatten.length = pre.flatten.length + x.length + post.flatten.length := by simp; omega
theorem concat_c (l : List (List UInt8)) (K : List UInt8 -> Prop) (hl : l.length <= 1000000000) (hf : l.flatten.length <= 1000000000) (h : K l.flatten) : zz10_q l K := by
  unfold zz10_q; refine LoopJ.over l (fun pre => ((pre.flatten.length : Int), (pre.length : Int), ())) (fun _ => True) rfl trivial (fun pre x post hp hn _ next hx => ?_) (fun _ next _ => ?_)
  . intro _; dsimp only [zz10_l3]; have hs := sum_pre (pre := pre) (x := x) (post := post); rw [← hp] at hs; refine ifT (decide_eq_true (by omega)) ⟨by omega, AtN.of (at_pre hp) fun _ => ?_⟩
    rw [wr_i64 (n := (pre.flatten.length : Int) + x.length) (by omega) (by omega)]
    refine ifF (decide_eq_false (by omega)) (of_eq (hx trivial) ?_)
    rw [wr_i64 (by omega) (by omega)]
    simp
  . dsimp only [zz10_l3]; refine ifF (decide_eq_false (by omega)) fun _ => grow_c _ _ (by omega) (by omega) fun _ => ?_
    refine LoopJ.over l (fun pre => (pre.flatten, (pre.length : Int), ())) (fun _ => True) rfl trivial (fun pre x post hp hn _ next hx => ?_) (fun _ next _ => ?_)
    . intro _; dsimp only [zz10_l11]; have hs := sum_pre (pre := pre) (x := x) (post := post); rw [← hp] at hs; refine ifT (decide_eq_true (by omega)) ⟨by omega, AtN.of (at_pre hp) fun _ => ⟨by omega, of_eq (hx trivial) ?_⟩⟩
      rw [wr_i64 (by omega) (by omega)]
      simp
    dsimp only [zz10_l11]; exact ifF (decide_eq_false (by omega)) h
def attB (fl kind : Int) (data : List UInt8) : List UInt8 :=
  (if 255 < data.length then [ofI .u8 (fl + 16), ofI .u8 (IntKind.wrap .u8 kind), UInt8.ofNat (data.length / 256), UInt8.ofNat data.length] else [ofI .u8 fl, ofI .u8 (IntKind.wrap .u8 kind), UInt8.ofNat data.length]) ++ data
theorem attB_len (fl kind : Int) (data : List UInt8) : (attB fl kind data).length <= data.length + 4 := by unfold attB; split <;> simp
def okFl (fl : Int) : Prop := fl = 64 ∨ fl = 128 ∨ fl = 192 ∨ fl = 224
theorem or_16 {fl : Int} (h : okFl fl) : bitsOr .u8 fl 16 = fl + 16 := by rcases h with rfl | rfl | rfl | rfl <;> decide
theorem put_c (c : List UInt8) (fl kind : Int) (parts : List (List UInt8)) (K : List UInt8 -> Prop) (hf : okFl fl) (hp : parts.length <= 1000) (hl : parts.flatten.length <= 100000) (hc : c.length <= 100000) (h : K (c ++ attB fl kind parts.flatten)) : zz15_q c fl kind parts K := by
  unfold zz15_q; intro _; refine concat_c parts _ (by omega) (by omega) fun _ => ?_
  rw [or_16 hf]; refine IfB.intro (fun h1 => ?_) (fun h1 => ?_)
  . have h1 : 255 < parts.flatten.length := by simp only [decide_eq_true_eq] at h1; omega
    refine ⟨by decide, by simp only [List.length_cons, List.length_nil]; omega, ?_⟩
    refine ⟨by simp only [List.length_append, List.length_cons, List.length_nil]; omega, of_eq h ?_⟩
    rw [fdiv_1, of8w, of8w, attB, if_pos h1, List.append_assoc]
  . have h1 : ¬ 255 < parts.flatten.length := by simp only [decide_eq_false_iff_not] at h1; omega
    refine ⟨by simp only [List.length_cons, List.length_nil]; omega, ?_⟩
    refine ⟨by simp only [List.length_append, List.length_cons, List.length_nil]; omega, of_eq h ?_⟩
    rw [of8w, attB, if_neg h1, List.append_assoc]
theorem usual_c (c : List UInt8) (kind : Int) (parts : List (List UInt8)) (K : List UInt8 -> Prop) (hf : okFl (flagOf kind)) (hp : parts.length <= 1000) (hl : parts.flatten.length <= 100000) (hc : c.length <= 100000) (h : K (c ++ attB (flagOf kind) kind parts.flatten)) : zz2_q c kind parts K := by unfold zz2_q; intro _; exact zz5_c kind _ fun _ _ _ => put_c c _ kind parts _ hf hp hl hc fun _ _ => h
theorem num_c (n : Nat) (K : List UInt8 -> Prop) (h : K (be4 n)) : zz9_q (n : Int) K := by
  unfold zz9_q; refine ⟨by decide, by decide, by decide, of_eq h ?_⟩
  rw [fdiv_1, fdiv_2, fdiv_3, of8w, of8w, of8w, of8w]; rfl
theorem system_c (x : UInt32) (four : Bool) (K : List UInt8 -> Prop) (h : K (encAS four x)) : zz32_q (x.toNat : Int) four K := by
  unfold zz32_q; refine IfB.intro (fun h1 _ => num_c _ _ fun _ => of_eq h ?_) (fun h1 => IfB.intro (fun h2 => ?_) (fun h2 => ?_)); rw [h1]; rfl
  . have h2 : x.toNat > 65535 := by simp only [decide_eq_true_eq] at h2; omega
    dsimp only [zz32_j0]; exact fun _ => num_c 23456 _ fun _ => ⟨by decide, by decide, of_eq h (by simp [encAS, h1, h2, be2, be4])⟩
  . have h2 : ¬ x.toNat > 65535 := by simp only [decide_eq_false_iff_not] at h2; omega
    dsimp only [zz32_j0]; exact fun _ => num_c _ _ fun _ => ⟨by decide, by simp only [be4_length]; decide, of_eq h (by simp [encAS, h1, h2, be2, be4])⟩
def perhB (four : Bool) (a : Attrs) : List UInt8 :=
  (if a.hasMed then attB 128 4 (be4 a.med.toNat) else []) ++ ((if a.atomic then attB 64 6 [] else []) ++ ((if a.hasMaker then attB 192 7 (encAS four a.makerAS ++ be4 a.maker.toNat) else []) ++ if 0 < a.comms.length then attB 192 8 (a.comms.flatMap fun x => be4 x.toNat) else []))
theorem be4s_len : ∀ l : List UInt32, (l.flatMap fun x => be4 x.toNat).length = 4 * l.length
  | [] => rfl
  | x :: l => by simp only [List.flatMap_cons, List.length_append, List.length_cons, be4s_len l, be4_length]; omega
theorem perhB_len (four : Bool) (a : Attrs) : (perhB four a).length <= 4 * a.comms.length + 100 := by unfold perhB; have h1 := attB_len 128 4 (be4 a.med.toNat); have h2 := attB_len 64 6 []; have h3 := attB_len 192 7 (encAS four a.makerAS ++ be4 a.maker.toNat); have h4 := attB_len 192 8 (a.comms.flatMap fun x => be4 x.toNat); have h5 := encAS_len four a.makerAS; rw [be4s_len] at h4; simp only [List.length_append, be4_length, List.length_nil] at *; split <;> split <;> split <;> split <;> (try simp only [List.length_nil]) <;> omega
theorem perhaps_c (c : List UInt8) (a : Attrs) (four : Bool) (K : List UInt8 -> Prop) (hc : c.length <= 10000) (hm : a.comms.length <= 100) (h : K (c ++ perhB four a)) : zz7_q c a four K := by
  obtain ⟨origin, path, nxt, hasMed, med, hasLocal, loc, atomic, hasMaker, makerAS, maker, comms, others⟩ := a; simp only [perhB, Attrs.hasMed, Attrs.med, Attrs.atomic, Attrs.hasMaker, Attrs.makerAS, Attrs.maker, Attrs.comms] at *; have s3 : ∀ (c : List UInt8), c.length <= 20000 -> K (c ++ if 0 < comms.length then attB 192 8 (comms.flatMap fun x => be4 x.toNat) else []) -> zz7_j2 (origin, path, nxt, hasMed, med, hasLocal, loc, atomic, hasMaker, makerAS, maker, comms, others) c K := fun c hc h => by
    dsimp only [zz7_j2]; refine IfB.intro (fun h1 => ?_) (fun h1 => of_eq h ?_)
    . have h1 : 0 < comms.length := by simpa using h1
      rw [if_pos h1] at h; refine LoopJ.over comms (fun pre => (pre.map fun x => be4 x.toNat, (pre.length : Int), ())) (fun _ => True) rfl trivial (fun pre x post hp hn _ next hx => ?_) (fun _ next _ => ?_)
      . intro _; dsimp only [zz7_l10]; refine ifT (decide_eq_true (by omega)) ⟨by omega, AtN.of (at_pre hp) fun _ _ => num_c _ _ fun _ => ⟨by simp only [List.length_map, List.length_cons, List.length_nil]; omega, of_eq (hx trivial) ?_⟩⟩
        rw [wr_i64 (by omega) (by omega)]
        simp
      . dsimp only [zz7_l10]; have e : (comms.map fun x => be4 x.toNat).flatten = comms.flatMap fun x => be4 x.toNat := by simp [List.flatMap]
        have hfl := be4s_len comms; refine ifF (decide_eq_false (by omega)) fun _ _ => usual_c c 8 _ _ (.inr (.inr (.inl rfl))) (by simp; omega) (by rw [e]; omega) (by omega) fun _ _ => of_eq h ?_
        rw [e]; rfl
    . have h1 : ¬ 0 < comms.length := by simp at h1; simp [h1]
      rw [if_neg h1, List.append_nil]
  have s2 : ∀ (c : List UInt8), c.length <= 15000 -> K (c ++ ((if hasMaker then attB 192 7 (encAS four makerAS ++ be4 maker.toNat) else []) ++ if 0 < comms.length then attB 192 8 (comms.flatMap fun x => be4 x.toNat) else [])) -> zz7_j1 four (origin, path, nxt, hasMed, med, hasLocal, loc, atomic, hasMaker, makerAS, maker, comms, others) c K := fun c hc h => by
    dsimp only [zz7_j1]; have hl := encAS_len four makerAS; have hb := attB_len 192 7 (encAS four makerAS ++ be4 maker.toNat); simp only [List.length_append, be4_length] at hb; refine IfB.intro (fun h1 _ => system_c _ _ _ fun _ _ => num_c _ _ fun _ _ _ => usual_c c 7 _ _ (.inr (.inr (.inl rfl))) (by simp) ?_ (by omega) fun _ _ => s3 _ ?_ (of_eq h ?_)) (fun h1 => s3 _ (by omega) (of_eq h ?_))
    simp only [List.flatten_cons, List.flatten_nil, List.append_nil, List.length_append, be4_length]; omega; simp only [List.flatten_cons, List.flatten_nil, List.append_nil, List.length_append]; have : flagOf 7 = 192 := rfl; rw [this]; omega; rw [if_pos h1, ← List.append_assoc]; simp only [List.flatten_cons, List.flatten_nil, List.append_nil]; rfl; rw [h1]; simp
  have s1 : ∀ (c : List UInt8), c.length <= 12000 -> K (c ++ ((if atomic then attB 64 6 [] else []) ++ ((if hasMaker then attB 192 7 (encAS four makerAS ++ be4 maker.toNat) else []) ++ if 0 < comms.length then attB 192 8 (comms.flatMap fun x => be4 x.toNat) else []))) -> zz7_j0 four (origin, path, nxt, hasMed, med, hasLocal, loc, atomic, hasMaker, makerAS, maker, comms, others) c K := fun c hc h => by
    dsimp only [zz7_j0]; have hb := attB_len 64 6 []; simp only [List.length_nil] at hb; refine IfB.intro (fun h1 _ _ => usual_c c 6 _ _ (.inl rfl) (by decide) (by decide) (by omega) fun _ _ => s2 _ ?_ (of_eq h ?_)) (fun h1 => s2 _ (by omega) (of_eq h ?_))
    have : flagOf 6 = 64 := rfl; rw [this]; simp only [List.length_append, List.flatten_nil]; omega; rw [if_pos h1, ← List.append_assoc]; rfl; rw [h1]; simp
  dsimp only [zz7_q]; have hb := attB_len 128 4 (be4 med.toNat); simp only [be4_length] at hb; refine IfB.intro (fun h1 _ => num_c _ _ fun _ _ _ => usual_c c 4 _ _ (.inr (.inl rfl)) (by simp) ?_ (by omega) fun _ _ => s1 _ ?_ (of_eq h ?_)) (fun h1 => s1 _ (by omega) (of_eq h ?_))
  simp [be4_length]; simp only [List.flatten_cons, List.flatten_nil, List.append_nil, List.length_append]; have : flagOf 4 = 128 := rfl; rw [this]; omega; rw [if_pos h1, ← List.append_assoc]; simp only [List.flatten_cons, List.flatten_nil, List.append_nil]; rfl; rw [h1]; simp
end Go.Proofs.YtboagabgpcghcaaDoor
namespace Go.Proofs.YtboagabgpcghcaaDoor
open Go.Sh
def bigAS (x : UInt32) : Bool := decide (65535 < x.toNat)
def greatP (p : List Seg) : Bool := p.any fun s => s.2.any bigAS
theorem big_eq (x : UInt32) : decide ((x.toNat : Int) > 65535) = bigAS x := by unfold bigAS; congr 1; apply propext; omega
theorem idx1_c (l : List UInt32) (K : Int -> Prop) (hl : l.length <= 9223372036854775807) (h1 : ∀ i : Nat, l.any bigAS = true -> K i) (h2 : l.any bigAS = false -> K (-1)) : zz28_at_zz1_q l K := by
  unfold zz28_at_zz1_q; refine LoopJ.over l (fun pre => ((pre.length : Int), ())) (fun pre => pre.any bigAS = false) rfl rfl (fun pre x post hp hn hP next hx => ?_) (fun hP next _ => ?_)
  . intro _; dsimp only [zz28_at_zz1_l2, zz1_q]; refine ifT (decide_eq_true (by omega)) ⟨by omega, AtN.of (at_pre hp) fun _ _ _ => ?_⟩
    rw [big_eq]; refine IfB.intro (fun h => h1 _ ?_) (fun h => of_eq (hx ?_) ?_); rw [hp]; simp [h]; rw [List.any_append, hP]; simp [h]
    . rw [wr_i64 (by omega) (by omega)]; simp
  dsimp only [zz28_at_zz1_l2]; exact ifF (decide_eq_false (by omega)) (h2 hP)
theorem great1_c (s : Seg) (K : Bool -> Prop) (hl : s.2.length <= 9223372036854775807) (h : K (s.2.any bigAS)) : zz0_q s K := by
  unfold zz0_q; intro _; unfold zz47_at_zz1_q; intro _; refine idx1_c s.2 _ hl (fun i hi _ _ => of_eq h ?_) (fun hi _ _ => of_eq h ?_); rw [hi, decide_eq_true (by omega)]
  rw [hi]; rfl
theorem idx2_c (l : List Seg) (K : Int -> Prop) (hl : l.length <= 9223372036854775807) (hs : ∀ s ∈ l, s.2.length <= 9223372036854775807) (h1 : ∀ i : Nat, greatP l = true -> K i) (h2 : greatP l = false -> K (-1)) : zz29_at_zz0_q l K := by
  unfold zz29_at_zz0_q; refine LoopJ.over l (fun pre => ((pre.length : Int), ())) (fun pre => greatP pre = false) rfl rfl (fun pre x post hp hn hP next hx => ?_) (fun hP next _ => ?_)
  . intro _; dsimp only [zz29_at_zz0_l2]; refine ifT (decide_eq_true (by omega)) ⟨by omega, AtN.of (at_pre hp) fun _ _ => great1_c x _ (hs x (by simp [hp])) fun _ => ?_⟩
    refine IfB.intro (fun h => h1 _ ?_) (fun h => of_eq (hx ?_) ?_); rw [hp]; simp only [greatP, List.any_append, List.any_cons, h, Bool.true_or, Bool.or_true]; simp only [greatP] at hP; simp only [greatP, List.any_append, hP, List.any_cons, h, List.any_nil, Bool.or_false]
    . rw [wr_i64 (by omega) (by omega)]; simp
  dsimp only [zz29_at_zz0_l2]; exact ifF (decide_eq_false (by omega)) (h2 hP)
theorem great_c (p : List Seg) (K : Bool -> Prop) (hl : p.length <= 9223372036854775807) (hs : ∀ s ∈ p, s.2.length <= 9223372036854775807) (h : K (greatP p)) : zz44_q p K := by
  unfold zz44_q; intro _; unfold zz48_at_zz0_q; intro _; refine idx2_c p _ hl hs (fun i hi _ _ => of_eq h ?_) (fun hi _ _ => of_eq h ?_); rw [hi, decide_eq_true (by omega)]
  rw [hi]; rfl
def headB (four : Bool) (a : Attrs) : List UInt8 := attB 64 1 [ofI .u8 (IntKind.wrap .u8 a.origin)] ++ (attB 64 2 (encPath four a.path) ++ attB 64 3 (be4 a.next.toNat))
def oldB (four : Bool) (a : Attrs) : List UInt8 :=
  (if !four && greatP a.path then attB 192 17 (encPath true a.path) else []) ++ if !four && (a.hasMaker && bigAS a.makerAS) then attB 192 18 (be4 a.makerAS.toNat ++ be4 a.maker.toNat) else []
def othersB (l : List Raw) : List UInt8 := l.flatMap fun x => attB 224 x.1 x.2
def attrsB (four : Bool) (a : Attrs) : List UInt8 := headB four a ++ (perhB four a ++ (oldB four a ++ othersB a.others))
theorem path_short {four : Bool} {p : List Seg} (hok : pathOk p = true) : (encPath four p).length <= 1000 := by simp only [pathOk, Bool.and_eq_true, decide_eq_true_eq] at hok; have h1 := parts_len p hok.1; have h2 := encPath_len four p; omega
theorem headB_len {four : Bool} {a : Attrs} (h : pathOk a.path = true) : (headB four a).length <= 1100 := by unfold headB; have h1 := attB_len 64 1 [ofI .u8 (IntKind.wrap .u8 a.origin)]; have h2 := attB_len 64 2 (encPath four a.path); have h3 := attB_len 64 3 (be4 a.next.toNat); have h4 := path_short (four := four) h; simp only [List.length_append, be4_length, List.length_cons, List.length_nil] at *; omega
theorem othersB_len : ∀ (l : List Raw) (last : Int), othersOk last l = true -> (othersB l).length <= 259 * l.length
  | [], _, _ => by simp [othersB]
  | x :: l, last, h => by
    simp only [othersOk, Bool.and_eq_true, decide_eq_true_eq] at h; have h1 := othersB_len l x.1 h.2; have h2 := attB_len 224 x.1 x.2; have h3 : (othersB (x :: l)).length = (attB 224 x.1 x.2).length + (othersB l).length := by simp [othersB]
    have h4 := h.1.2; simp only [List.length_cons]; omega
theorem zz4_c (a : Attrs) (four : Bool) (K : List UInt8 -> Int -> Prop) (hl : a.path.length <= 9223372036854775807) (hc : cnt a.path <= 9223372036854775807) (hs : ∀ s ∈ a.path, s.2.length <= 9223372036854775807) (ho : a.others.length <= 9223372036854775807)
    (h : K (if attrsOk a then attrsB four a else []) (errIf (attrsOk a))) : zz4_q a four K := by
  unfold zz4_q; simp only [ofI_u32]; intro _; refine zz14_c a _ hl hc ho fun _ => ?_; rw [errIf_ne]; refine IfB.intro (fun h1 => ?_) (fun h1 _ => zz6_c a.path four _ hl hc fun _ _ => ?_)
  . have h1 : attrsOk a = false := by simpa using h1
    rw [h1] at h ⊢; exact h
  have h1 : attrsOk a = true := by simpa using h1
  rw [h1] at h; have hok := h1; simp only [attrsOk, Bool.and_eq_true, decide_eq_true_eq, Bool.not_eq_true'] at hok; obtain ⟨⟨⟨⟨⟨⟨_, _⟩, hpok⟩, _⟩, _⟩, hcm⟩, hoth, hol⟩ := hok; rw [if_pos hpok]; have hps := path_short (four := four) hpok; have hpt := path_short (four := true) hpok; have s4 : ∀ c : List UInt8, c.length <= 20000 -> K (c ++ othersB a.others) 0 -> zz4_j3 a c K := fun c hc h => by
    dsimp only [zz4_j3, zz4_j4]; refine LoopJ.over a.others (fun pre => ((pre.length : Int), c ++ othersB pre, ())) (fun _ => True) (by simp [othersB]) trivial (fun pre x post hp hn _ next hx => ?_) (fun _ next _ => ?_)
    . intro _; dsimp only [zz4_l16]; have hpre : othersOk (-1) pre = true ∧ othersOk (lastOf (-1) pre) (x :: post) = true := by have := hoth; rw [hp, othersOk_app, Bool.and_eq_true] at this; exact this
      have hb := othersB_len pre _ hpre.1; have hx2 : x.2.length <= 255 := by have := hpre.2; simp only [othersOk, Bool.and_eq_true, decide_eq_true_eq] at this; exact this.1.2
      refine ifT (decide_eq_true (show (pre.length : Int) < (a.others.length : Int) by omega)) ⟨by omega, AtN.of (at_pre hp) fun _ _ _ => ?_⟩
      refine put_c _ 224 x.1 [x.2] _ (.inr (.inr (.inr rfl))) (by simp) (by simp; omega) (by simp only [List.length_append]; omega) fun _ _ => of_eq (hx trivial) ?_
      rw [wr_i64 (by omega) (by omega)]
      simp [othersB]
    dsimp only [zz4_l16]; exact ifF (decide_eq_false (show ¬ (a.others.length : Int) < (a.others.length : Int) by omega)) h
  have s3 : ∀ (c : List UInt8) (b : Bool), c.length <= 10000 -> K (c ++ ((if b then attB 192 18 (be4 a.makerAS.toNat ++ be4 a.maker.toNat) else []) ++ othersB a.others)) 0 -> zz4_j2 a c b K := fun c b hc h => by
    dsimp only [zz4_j2]; have hb := attB_len 192 18 (be4 a.makerAS.toNat ++ be4 a.maker.toNat); simp only [List.length_append, be4_length] at hb; refine IfB.intro (fun h1 _ => num_c _ _ fun _ _ => num_c _ _ fun _ _ _ => usual_c c 18 _ _ (.inr (.inr (.inl rfl))) (by simp) ?_ (by omega) fun _ _ => s4 _ ?_ (of_eq2 h ?_)) (fun h1 => s4 _ (by omega) (of_eq2 h ?_))
    simp only [List.flatten_cons, List.flatten_nil, List.append_nil, List.length_append, be4_length]; omega
    . simp only [List.flatten_cons, List.flatten_nil, List.append_nil, List.length_append]; have : flagOf 18 = 192 := rfl; rw [this]; (dsimp only [Attrs.origin, Attrs.path, Attrs.next, Attrs.hasMed, Attrs.med, Attrs.hasLocal, Attrs.loc, Attrs.atomic, Attrs.hasMaker, Attrs.makerAS, Attrs.maker, Attrs.comms, Attrs.others] at *; omega)
    rw [if_pos h1, ← List.append_assoc]; simp only [List.flatten_cons, List.flatten_nil, List.append_nil]; rfl; rw [h1]; simp
  have s2 : ∀ (c : List UInt8), c.length <= 9000 -> K (c ++ ((if !four && (a.hasMaker && bigAS a.makerAS) then attB 192 18 (be4 a.makerAS.toNat ++ be4 a.maker.toNat) else []) ++ othersB a.others)) 0 -> zz4_j1 four a c K := fun c hc h => by
    dsimp only [zz4_j1]; rw [big_eq]; refine IfB.intro (fun h1 => IfB.intro (fun h2 => s3 _ _ (by omega) (of_eq2 h ?_)) (fun h2 => s3 _ _ (by omega) (of_eq2 h ?_))) (fun h1 => s3 _ _ (by omega) (of_eq2 h ?_))
    have h2 : a.hasMaker = true := h2; rw [h1, h2]; rfl; have h2 : a.hasMaker = false := h2; rw [h1, h2]; rfl; rw [h1]; rfl
  have s1 : ∀ (c : List UInt8) (b : Bool), c.length <= 5000 -> K (c ++ ((if b then attB 192 17 (encPath true a.path) else []) ++ ((if !four && (a.hasMaker && bigAS a.makerAS) then attB 192 18 (be4 a.makerAS.toNat ++ be4 a.maker.toNat) else []) ++ othersB a.others))) 0 -> zz4_j0 four a c b K := fun c b hc' h => by
    dsimp only [zz4_j0]; have hb := attB_len 192 17 (encPath true a.path); refine IfB.intro (fun h1 _ => zz6_c a.path true _ hl hc fun _ _ _ => usual_c c 17 _ _ (.inr (.inr (.inl rfl))) (by simp) ?_ (by omega) fun _ _ => s2 _ ?_ (of_eq2 h ?_)) (fun h1 => s2 _ (by omega) (of_eq2 h ?_))
    rw [if_pos hpok]; simp only [List.flatten_cons, List.flatten_nil, List.append_nil]; omega
    . rw [if_pos hpok]; simp only [List.flatten_cons, List.flatten_nil, List.append_nil, List.length_append]; have : flagOf 17 = 192 := rfl; rw [this]; (dsimp only [Attrs.origin, Attrs.path, Attrs.next, Attrs.hasMed, Attrs.med, Attrs.hasLocal, Attrs.loc, Attrs.atomic, Attrs.hasMaker, Attrs.makerAS, Attrs.maker, Attrs.comms, Attrs.others] at *; omega)
    rw [if_pos h1, if_pos hpok, ← List.append_assoc]; simp only [List.flatten_cons, List.flatten_nil, List.append_nil]; rfl; rw [h1]; simp
  have hh := headB_len (four := four) hpok; have hhd : headB four a = attB 64 1 [ofI .u8 (IntKind.wrap .u8 a.origin)] ++ (attB 64 2 (encPath four a.path) ++ attB 64 3 (be4 a.next.toNat)) := rfl; have hhl : (headB four a).length = (attB 64 1 [ofI .u8 (IntKind.wrap .u8 a.origin)]).length + ((attB 64 2 (encPath four a.path)).length + (attB 64 3 (be4 a.next.toNat)).length) := by rw [hhd]; simp only [List.length_append]
  have hp := perhB_len four a; have f1 : flagOf 1 = 64 := rfl; have f2 : flagOf 2 = 64 := rfl; have f3 : flagOf 3 = 64 := rfl; have e1 : ∀ x : List UInt8, [x].flatten = x := fun x => by simp
  refine fun _ => usual_c [] 1 _ _ (.inl rfl) (by simp) (by simp) (by simp) fun _ _ _ => ?_
  rw [e1, f1, List.nil_append]; refine fun _ => usual_c _ 2 _ _ (.inl rfl) (by simp) (by rw [e1]; (dsimp only [Attrs.origin, Attrs.path, Attrs.next, Attrs.hasMed, Attrs.med, Attrs.hasLocal, Attrs.loc, Attrs.atomic, Attrs.hasMaker, Attrs.makerAS, Attrs.maker, Attrs.comms, Attrs.others] at *; omega)) (by (dsimp only [Attrs.origin, Attrs.path, Attrs.next, Attrs.hasMed, Attrs.med, Attrs.hasLocal, Attrs.loc, Attrs.atomic, Attrs.hasMaker, Attrs.makerAS, Attrs.maker, Attrs.comms, Attrs.others] at *; omega)) fun _ _ _ => ?_
  rw [e1, f2]; refine num_c _ _ fun _ _ _ => usual_c _ 3 _ _ (.inl rfl) (by simp) (by rw [e1, be4_length]; decide) (by simp only [List.length_append]; (dsimp only [Attrs.origin, Attrs.path, Attrs.next, Attrs.hasMed, Attrs.med, Attrs.hasLocal, Attrs.loc, Attrs.atomic, Attrs.hasMaker, Attrs.makerAS, Attrs.maker, Attrs.comms, Attrs.others] at *; omega)) fun _ _ => ?_
  rw [e1, f3, List.append_assoc]; rw [← hhd]; refine fun _ _ => perhaps_c _ a four _ (by (dsimp only [Attrs.origin, Attrs.path, Attrs.next, Attrs.hasMed, Attrs.med, Attrs.hasLocal, Attrs.loc, Attrs.atomic, Attrs.hasMaker, Attrs.makerAS, Attrs.maker, Attrs.comms, Attrs.others] at *; omega)) (by (dsimp only [Attrs.origin, Attrs.path, Attrs.next, Attrs.hasMed, Attrs.med, Attrs.hasLocal, Attrs.loc, Attrs.atomic, Attrs.hasMaker, Attrs.makerAS, Attrs.maker, Attrs.comms, Attrs.others] at *; omega)) fun _ _ => ?_
  have hfin : K ((headB four a ++ perhB four a) ++ ((if !four && greatP a.path then attB 192 17 (encPath true a.path) else []) ++ ((if !four && (a.hasMaker && bigAS a.makerAS) then attB 192 18 (be4 a.makerAS.toNat ++ be4 a.maker.toNat) else []) ++ othersB a.others))) 0 := by
    have e : attrsB four a = (headB four a ++ perhB four a) ++ ((if !four && greatP a.path then attB 192 17 (encPath true a.path) else []) ++ ((if !four && (a.hasMaker && bigAS a.makerAS) then attB 192 18 (be4 a.makerAS.toNat ++ be4 a.maker.toNat) else []) ++ othersB a.others)) := by unfold attrsB oldB; simp only [List.append_assoc]
    rw [← e]; exact h
  refine IfB.intro (fun h1 _ => great_c a.path _ hl hs fun _ => s1 _ _ (by simp only [List.length_append]; (dsimp only [Attrs.origin, Attrs.path, Attrs.next, Attrs.hasMed, Attrs.med, Attrs.hasLocal, Attrs.loc, Attrs.atomic, Attrs.hasMaker, Attrs.makerAS, Attrs.maker, Attrs.comms, Attrs.others] at *; omega)) (of_eq2 hfin ?_)) (fun h1 => s1 _ _ (by simp only [List.length_append]; (dsimp only [Attrs.origin, Attrs.path, Attrs.next, Attrs.hasMed, Attrs.med, Attrs.hasLocal, Attrs.loc, Attrs.atomic, Attrs.hasMaker, Attrs.makerAS, Attrs.maker, Attrs.comms, Attrs.others] at *; omega)) (of_eq2 hfin ?_))
  rw [h1]; rfl; rw [h1]; rfl
end Go.Proofs.YtboagabgpcghcaaDoor
namespace Go.Proofs.YtboagabgpcghcaaDoor
open Go.Sh
end Go.Proofs.YtboagabgpcghcaaDoor
namespace Go.Proofs.YtboagabgpcghcaaDoor
open Go.Sh
end Go.Proofs.YtboagabgpcghcaaDoor
namespace Go.Proofs.YtboagabgpcghcaaDoor
open Go.Sh
end Go.Proofs.YtboagabgpcghcaaDoor
namespace Go.Proofs.YtboagabgpcghcaaDoor
open Go.Sh
end Go.Proofs.YtboagabgpcghcaaDoor
end
section
namespace Go.Proofs.YtboagabgpcghcaaDoor
open Go.Sh
def numB (l : List UInt8) : Nat := l.foldl (fun a x => a * 256 + x.toNat) 0
def decN (size : Nat) : Nat -> List UInt8 -> List UInt32
  | 0, _ => []
  | k + 1, b => UInt32.ofNat (numB (b.take size)) :: decN size k (b.drop size)
theorem decN_len (size : Nat) : ∀ (k : Nat) (b : List UInt8), (decN size k b).length = k
  | 0, _ => rfl
  | k + 1, b => by simp [decN, decN_len size k]
def sizeB (four : Bool) : Nat := if four then 4 else 2
def segsF (size : Nat) : Nat -> List UInt8 -> Option (List Seg)
  | _, [] => some []
  | 0, _ :: _ => none
  | _ + 1, [_] => none
  | f + 1, k :: n :: r => if (k = 1 ∨ k = 2) ∧ n.toNat * size <= r.length then (segsF size f (r.drop (n.toNat * size))).map fun t => (k == 1, decN size n.toNat r) :: t else none
theorem segsF_fuel (size : Nat) : ∀ (f g : Nat) (b : List UInt8), b.length <= f -> b.length <= g -> segsF size f b = segsF size g b
  | 0, 0, _, _, _ => rfl
  | 0, _ + 1, [], _, _ => rfl
  | 0, _ + 1, _ :: _, h, _ => by simp at h
  | _ + 1, 0, [], _, _ => rfl
  | _ + 1, 0, _ :: _, _, h => by simp at h
  | _ + 1, _ + 1, [], _, _ => rfl
  | _ + 1, _ + 1, [_], _, _ => rfl
  | f + 1, g + 1, k :: n :: r, hf, hg => by simp only [List.length_cons] at hf hg; simp only [segsF]; rw [segsF_fuel size f g _ (by simp only [List.length_drop]; omega) (by simp only [List.length_drop]; omega)]
def readP (four : Bool) (b : List UInt8) : Option (List Seg) := match segsF (sizeB four) b.length b with
  | some p => if pathOk p = true then some p else none
  | none => none
theorem readP_ok {four : Bool} {b : List UInt8} {p : List Seg} (h : readP four b = some p) : pathOk p = true := by unfold readP at h; split at h; split at h; rename_i hp; cases h; exact hp; cases h; cases h
def lenP (p : List Seg) : Nat := (p.map fun s => if s.1 then 1 else s.2.length).sum
def frontP : List Seg -> Nat -> List Seg
  | _, 0 => []
  | [], _ => []
  | s :: r, n + 1 => if s.1 then s :: frontP r n else (s.1, s.2.take (n + 1)) :: frontP r (n + 1 - min (n + 1) s.2.length)
def glueP (out rest : List Seg) : List Seg := match out.getLast?, rest with
  | some l, r :: rest' => if !l.1 && !r.1 then out.dropLast ++ (l.1, l.2 ++ r.2) :: rest' else out ++ rest
  | _, _ => out ++ rest
def mergeP (two four : List Seg) : List Seg := if lenP two < lenP four then two else glueP (frontP two (lenP two - lenP four)) four
def nextF : List UInt8 -> Option (Nat × Nat × List UInt8 × Nat)
  | fl :: kd :: n1 :: r =>
    if fl.toNat / 16 % 2 = 1 then match r with
      | n2 :: r' => if n1.toNat * 256 + n2.toNat <= r'.length then some (fl.toNat / 64 * 64, kd.toNat, r'.take (n1.toNat * 256 + n2.toNat), 4 + (n1.toNat * 256 + n2.toNat)) else none
      | [] => none
    else if n1.toNat <= r.length then some (fl.toNat / 64 * 64, kd.toNat, r.take n1.toNat, 3 + n1.toNat) else none
  | _ => none
theorem nextF_size {b : List UInt8} {fl kd : Nat} {d : List UInt8} {n : Nat} (h : nextF b = some (fl, kd, d, n)) : 3 <= n ∧ n <= b.length ∧ kd < 256 ∧ d.length + 3 <= n := by unfold nextF at h; split at h; rename_i f k n1 r; have hk := UInt8.toNat_lt k; split at h; split at h; rename_i n2 r'; split at h; rename_i hle; simp only [Option.some.injEq, Prod.mk.injEq] at h; obtain ⟨rfl, rfl, rfl, rfl⟩ := h; simp only [List.length_cons, List.length_take]; omega; cases h; cases h; split at h; rename_i hle; simp only [Option.some.injEq, Prod.mk.injEq] at h; obtain ⟨rfl, rfl, rfl, rfl⟩ := h; simp only [List.length_cons, List.length_take]; omega; cases h; cases h
def twoF (fl : Int) : Nat := fl.toNat / 64 * 64
end Go.Proofs.YtboagabgpcghcaaDoor
namespace Go.Proofs.YtboagabgpcghcaaDoor
open Go.Sh
structure RdS where
  a : Attrs
  worst : Nat
  seen : List Nat
  p4 : Option (List Seg)
  m4 : Option (UInt32 × UInt32)
def attrs0 : Attrs := (0, [], 0, false, 0, false, 0, false, false, 0, 0, [], [])
def rd0 : RdS := ⟨attrs0, 0, [], none, none⟩
def RdS.found (s : RdS) (w : Nat) : RdS := ⟨s.a, max s.worst w, s.seen, s.p4, s.m4⟩
def RdS.put (s : RdS) (a : Attrs) : RdS := ⟨a, s.worst, s.seen, s.p4, s.m4⟩
def RdS.see (s : RdS) (k : Nat) : RdS := ⟨s.a, s.worst, k :: s.seen, s.p4, s.m4⟩
def u32B (d : List UInt8) : UInt32 := UInt32.ofNat (numB d)
def oneF (four : Bool) (kind : Nat) (d : List UInt8) (s : RdS) : RdS :=
  let (origin, path, nxt, hasMed, med, hasLocal, loc, atomic, hasMaker, makerAS, maker, comms, others) := s.a
  if kind = 1 then (if d.length = 1 ∧ (d.headD 0).toNat <= 2 then s.put (((d.headD 0).toNat : Int), path, nxt, hasMed, med, hasLocal, loc, atomic, hasMaker, makerAS, maker, comms, others) else s.found 2)
  else if kind = 2 then (match readP four d with
    | some p => s.put (origin, p, nxt, hasMed, med, hasLocal, loc, atomic, hasMaker, makerAS, maker, comms, others)
    | none => s.found 2)
  else if kind = 3 then (if d.length = 4 ∧ numB d ≠ 0 ∧ numB d < 3758096384 then s.put (origin, path, u32B d, hasMed, med, hasLocal, loc, atomic, hasMaker, makerAS, maker, comms, others) else s.found 2)
  else if kind = 4 then (if d.length = 4 then s.put (origin, path, nxt, true, u32B d, hasLocal, loc, atomic, hasMaker, makerAS, maker, comms, others) else s.found 2)
  else if kind = 6 then (if d.length = 0 then s.put (origin, path, nxt, hasMed, med, hasLocal, loc, true, hasMaker, makerAS, maker, comms, others) else s.found 1)
  else if kind = 7 then (if d.length = sizeB four + 4 ∧ numB (d.take (sizeB four)) ≠ 0 then s.put (origin, path, nxt, hasMed, med, hasLocal, loc, atomic, true, u32B (d.take (sizeB four)), u32B (d.drop (sizeB four)), comms, others) else s.found 1)
  else if kind = 8 then (if d.length ≠ 0 ∧ d.length % 4 = 0 ∧ d.length / 4 <= 32 then s.put (origin, path, nxt, hasMed, med, hasLocal, loc, atomic, hasMaker, makerAS, maker, comms ++ decN 4 (d.length / 4) d, others) else s.found 2)
  else if kind = 17 then (if four then s else match readP true d with
    | some p => ⟨s.a, s.worst, s.seen, some p, s.m4⟩
    | none => s.found 1)
  else if kind = 18 then (if four then s else if d.length = 8 ∧ numB (d.take 4) ≠ 0 then ⟨s.a, s.worst, s.seen, s.p4, some (u32B (d.take 4), u32B (d.drop 4))⟩ else s.found 1)
  else s
def insO (k : Int) (d : List UInt8) : List Raw -> List Raw
  | [] => [(k, d)]
  | x :: r => if x.1 < k then x :: insO k d r else (k, d) :: x :: r
def otherF (kind : Nat) (d : List UInt8) (s : RdS) : RdS :=
  let (origin, path, nxt, hasMed, med, hasLocal, loc, atomic, hasMaker, makerAS, maker, comms, others) := s.a
  if 8 <= others.length ∨ 255 < d.length then s.found 1 else s.put (origin, path, nxt, hasMed, med, hasLocal, loc, atomic, hasMaker, makerAS, maker, comms, insO kind d others)
def takeF (four : Bool) (fl kind : Nat) (d : List UInt8) (s : RdS) : Option RdS :=
  if kind ∈ s.seen then some (s.found 1)
  else if knownK kind = true then (if (fl : Int) = flagOf kind then some (oneF four kind d (s.see kind)) else some ((s.see kind).found 2))
  else if fl < 128 then none else if fl = 192 then some (otherF kind d (s.see kind)) else some (s.see kind)
def loopF (four : Bool) : Nat -> List UInt8 -> RdS -> RdS × Option (List UInt8)
  | _, [], s => (s, none)
  | 0, _ :: _, s => (s, none)
  | f + 1, x :: b, s => match nextF (x :: b) with
    | none => (s.found 2, none)
    | some (fl, kd, d, n) => match takeF four fl kd d s with
      | none => (s, some ((x :: b).take n))
      | some s' => loopF four f ((x :: b).drop n) s'
theorem loopF_fuel (four : Bool) : ∀ (f g : Nat) (b : List UInt8) (s : RdS), b.length <= f -> b.length <= g -> loopF four f b s = loopF four g b s
  | 0, 0, _, _, _, _ => rfl
  | 0, _ + 1, [], _, _, _ => rfl
  | 0, _ + 1, _ :: _, _, h, _ => by simp at h
  | _ + 1, 0, [], _, _, _ => rfl
  | _ + 1, 0, _ :: _, _, _, h => by simp at h
  | _ + 1, _ + 1, [], _, _, _ => rfl
  | f + 1, g + 1, x :: b, s, hf, hg => by
    simp only [loopF]; cases hn : nextF (x :: b) with
    | none => rfl
    | some r =>
      obtain ⟨fl, kd, d, n⟩ := r; obtain ⟨h1, _⟩ := nextF_size hn; simp only; cases takeF four fl kd d s with
      | none => rfl
      | some s' =>
        simp only [List.length_cons] at hf hg; exact loopF_fuel four f g _ s' (by simp only [List.length_drop, List.length_cons]; omega) (by simp only [List.length_drop, List.length_cons]; omega)
def mergeA (s : RdS) : Attrs :=
  let (origin, path, nxt, hasMed, med, hasLocal, loc, atomic, hasMaker, makerAS, maker, comms, others) := s.a
  if hasMaker = true ∧ makerAS ≠ 23456 then s.a else
    let m : UInt32 × UInt32 := match hasMaker, s.m4 with
      | true, some m => m
      | _, _ => (makerAS, maker)
    let p : List Seg := match s.p4 with
      | some q => if pathOk (mergeP path q) = true then mergeP path q else path
      | none => path
    (origin, p, nxt, hasMed, med, hasLocal, loc, atomic, hasMaker, m.1, m.2, comms, others)
def readA (four told : Bool) (b : List UInt8) : Attrs × Nat × Option (List UInt8) :=
  match loopF four b.length b rd0 with
  | (_, some w) => (attrs0, 3, some w)
  | (s, none) =>
    let s' := if told = true ∧ ¬ (1 ∈ s.seen ∧ 2 ∈ s.seen ∧ 3 ∈ s.seen) then s.found 2 else s
    if 2 <= s'.worst then (attrs0, s'.worst, none) else (mergeA s', s'.worst, none)
def stepP (four : Bool) (s : Option RdS) (p : Int × Nat × List UInt8) : Option RdS := s.bind (takeF four (twoF p.1) p.2.1 p.2.2)
end Go.Proofs.YtboagabgpcghcaaDoor
namespace Go.Proofs.YtboagabgpcghcaaDoor
open Go.Sh
structure Sg (s : RdS) (a : Attrs) (m : Nat) (p4 : Option (List Seg)) (m4 : Option (UInt32 × UInt32)) : Prop where
  a : s.a = a
  w : s.worst = 0
  le : ∀ k ∈ s.seen, k <= m
  kn : ∀ k ∈ s.seen, knownK (k : Int) = true
  s1 : 1 ∈ s.seen
  s2 : 2 ∈ s.seen
  s3 : 3 ∈ s.seen
  p : s.p4 = p4
  q : s.m4 = m4
theorem Sg.see {s : RdS} {a : Attrs} {m : Nat} {p4 : Option (List Seg)} {m4 : Option (UInt32 × UInt32)} (h : Sg s a m p4 m4) {k : Nat} (hm : m < k) (hk : knownK (k : Int) = true) : Sg (s.see k) a k p4 m4 :=
  ⟨h.a, h.w, fun j hj => by rcases List.mem_cons.1 hj with rfl | hj; exact Nat.le_refl _; have := h.le j hj; omega, fun j hj => by rcases List.mem_cons.1 hj with rfl | hj; exact hk; exact h.kn j hj,
    List.mem_cons_of_mem _ h.s1, List.mem_cons_of_mem _ h.s2, List.mem_cons_of_mem _ h.s3, h.p, h.q⟩
theorem Sg.put {s : RdS} {a : Attrs} {m : Nat} {p4 : Option (List Seg)} {m4 : Option (UInt32 × UInt32)} (h : Sg s a m p4 m4) (b : Attrs) : Sg (s.put b) b m p4 m4 := ⟨rfl, h.w, h.le, h.kn, h.s1, h.s2, h.s3, h.p, h.q⟩
theorem Sg.mono {s : RdS} {a : Attrs} {m m' : Nat} {p4 : Option (List Seg)} {m4 : Option (UInt32 × UInt32)} (h : Sg s a m p4 m4) (hm : m <= m') : Sg s a m' p4 m4 :=
  ⟨h.a, h.w, fun k hk => Nat.le_trans (h.le k hk) hm, h.kn, h.s1, h.s2, h.s3, h.p, h.q⟩
end Go.Proofs.YtboagabgpcghcaaDoor
namespace Go.Proofs.YtboagabgpcghcaaDoor
open Go.Sh
end Go.Proofs.YtboagabgpcghcaaDoor
namespace Go.Proofs.YtboagabgpcghcaaDoor
open Go.Sh
def Mn (s r : RdS) : Prop := s.worst <= r.worst ∧ r.seen = s.seen
theorem Mn.put (s : RdS) (a : Attrs) : Mn s (s.put a) := ⟨Nat.le_refl _, rfl⟩
theorem Mn.found (s : RdS) (w : Nat) : Mn s (s.found w) := ⟨Nat.le_max_left _ _, rfl⟩
theorem Mn.ite {c : Prop} [Decidable c] {s a b : RdS} (h1 : Mn s a) (h2 : Mn s b) : Mn s (if c then a else b) := by by_cases h : c; rw [if_pos h]; exact h1; rw [if_neg h]; exact h2
end Go.Proofs.YtboagabgpcghcaaDoor
namespace Go.Proofs.YtboagabgpcghcaaDoor
open Go.Sh
theorem othersOk_ins {k : Int} {d : List UInt8} (hk : knownK k = false) (h255 : k <= 255) (hd : d.length <= 255) : ∀ (l : List Raw) (last : Int), othersOk last l = true -> last < k -> (∀ x ∈ l, x.1 ≠ k) -> othersOk last (insO k d l) = true
  | [], last, _, hl, _ => by simp only [insO, othersOk, hk, Bool.not_false, Bool.true_and, Bool.and_true, Bool.and_eq_true, decide_eq_true_eq]; exact ⟨⟨hl, h255⟩, hd⟩
  | x :: r, last, h, hl, hne => by simp only [othersOk, Bool.and_eq_true, decide_eq_true_eq] at h; obtain ⟨⟨⟨⟨h1, h2⟩, h3⟩, h4⟩, h5⟩ := h; have hx := hne x List.mem_cons_self; simp only [insO]; by_cases hlt : x.1 < k; rw [if_pos hlt]; simp only [othersOk, Bool.and_eq_true, decide_eq_true_eq]; exact ⟨⟨⟨⟨h1, h2⟩, h3⟩, h4⟩, othersOk_ins hk h255 hd r x.1 h5 hlt fun y hy => hne y (List.mem_cons_of_mem _ hy)⟩; rw [if_neg hlt]; simp only [othersOk, hk, Bool.not_false, Bool.true_and, Bool.and_eq_true, decide_eq_true_eq]; exact ⟨⟨⟨hl, h255⟩, hd⟩, ⟨⟨⟨h1, by omega⟩, h3⟩, h4⟩, h5⟩
theorem insO_mem {k : Int} {d : List UInt8} {x : Raw} : ∀ l : List Raw, x ∈ insO k d l -> x = (k, d) ∨ x ∈ l
  | [], h => by simp only [insO, List.mem_singleton] at h; exact .inl h
  | y :: r, h => by simp only [insO] at h; split at h; rcases List.mem_cons.1 h with rfl | h; exact .inr List.mem_cons_self; rcases insO_mem r h with h | h; exact .inl h; exact .inr (List.mem_cons_of_mem _ h); rcases List.mem_cons.1 h with h | h; exact .inl h; exact .inr h
theorem insO_len {k : Int} {d : List UInt8} : ∀ l : List Raw, (insO k d l).length = l.length + 1
  | [] => rfl
  | y :: r => by simp only [insO]; split; simp only [List.length_cons, insO_len r]; rfl
structure SafeS (s : RdS) : Prop where
  o : 0 <= s.a.origin ∧ s.a.origin <= 2
  p : s.worst <= 1 -> 2 ∈ s.seen -> pathOk s.a.path = true
  n : s.worst <= 1 -> 3 ∈ s.seen -> s.a.next.toNat ≠ 0 ∧ s.a.next.toNat < 3758096384
  l : s.a.hasLocal = false
  m : s.a.hasMaker = true -> s.a.makerAS.toNat ≠ 0
  c : s.a.comms.length <= 32 ∧ (8 ∉ s.seen -> s.a.comms = [])
  t : othersOk (-1) s.a.others = true ∧ s.a.others.length <= 8 ∧ ∀ x ∈ s.a.others, x.1.toNat ∈ s.seen ∧ 0 <= x.1
  q : ∀ z, s.m4 = some z -> z.1.toNat ≠ 0
theorem safe0 : SafeS rd0 := ⟨by decide, by simp [rd0], by simp [rd0], rfl, by simp [rd0, attrs0, Attrs.hasMaker], ⟨by decide, fun _ => rfl⟩, ⟨rfl, by decide, by simp [rd0, attrs0, Attrs.others]⟩, by simp [rd0]⟩
theorem SafeS.found {s : RdS} (h : SafeS s) (w : Nat) : SafeS (s.found w) :=
  ⟨h.o, fun hw => h.p (Nat.le_trans (Nat.le_max_left _ _) hw), fun hw => h.n (Nat.le_trans (Nat.le_max_left _ _) hw), h.l, h.m, h.c, h.t, h.q⟩
theorem SafeS.see {s : RdS} (h : SafeS s) {k : Nat} (h2 : k ≠ 2) (h3 : k ≠ 3) : SafeS (s.see k) :=
  ⟨h.o, fun hw hk => h.p hw (by rcases List.mem_cons.1 hk with e | e; exact absurd e.symm h2; exact e), fun hw hk => h.n hw (by rcases List.mem_cons.1 hk with e | e; exact absurd e.symm h3; exact e), h.l, h.m,
    ⟨h.c.1, fun hk => h.c.2 fun h8 => hk (List.mem_cons_of_mem _ h8)⟩, ⟨h.t.1, h.t.2.1, fun x hx => ⟨List.mem_cons_of_mem _ (h.t.2.2 x hx).1, (h.t.2.2 x hx).2⟩⟩, h.q⟩
theorem SafeS.bad {s : RdS} (h : SafeS s) (k : Nat) : SafeS ((s.see k).found 2) := by
  have hw : ¬ ((s.see k).found 2).worst <= 1 := by have : 2 <= ((s.see k).found 2).worst := Nat.le_max_right _ _; omega
  exact ⟨h.o, fun h1 => absurd h1 hw, fun h1 => absurd h1 hw, h.l, h.m, ⟨h.c.1, fun hk => h.c.2 fun h8 => hk (List.mem_cons_of_mem _ h8)⟩, ⟨h.t.1, h.t.2.1, fun x hx => ⟨List.mem_cons_of_mem _ (h.t.2.2 x hx).1, (h.t.2.2 x hx).2⟩⟩, h.q⟩
theorem u32B_nat {d : List UInt8} (h : numB d < 4294967296) : (u32B d).toNat = numB d := by unfold u32B; rw [UInt32.toNat_ofNat', Nat.mod_eq_of_lt (by omega)]
theorem numB_lt : ∀ (d : List UInt8) (a : Nat), d.foldl (fun a x => a * 256 + x.toNat) a < (a + 1) * 256 ^ d.length
  | [], a => by simp
  | x :: d, a => by
    have hx := UInt8.toNat_lt x; have ih := numB_lt d (a * 256 + x.toNat); simp only [List.foldl_cons, List.length_cons, Nat.pow_succ]; have h3 : (a * 256 + x.toNat + 1) * 256 ^ d.length <= ((a + 1) * 256) * 256 ^ d.length := Nat.mul_le_mul_right _ (by omega)
    have h4 : (a + 1) * 256 * 256 ^ d.length = (a + 1) * (256 ^ d.length * 256) := by rw [Nat.mul_assoc, Nat.mul_comm 256]
    omega
theorem numB_lt4 {d : List UInt8} (h : d.length <= 4) : numB d < 4294967296 := by
  have h1 := numB_lt d 0; have h2 : 256 ^ d.length <= 256 ^ 4 := Nat.pow_le_pow_right (by decide) h
  have h3 : (256 : Nat) ^ 4 = 4294967296 := rfl; unfold numB; omega
theorem oneF_safe {four : Bool} {kind : Nat} {d : List UInt8} {s : RdS} (h : SafeS s) (hk : kind ∉ s.seen) : SafeS (oneF four kind d (s.see kind)) := by
  have hbad := h.bad kind; obtain ⟨⟨origin, path, nxt, hasMed, med, hasLocal, loc, atomic, hasMaker, makerAS, maker, comms, others⟩, w, seen, p4, m4⟩ := s; obtain ⟨ho, hp, hn, hl, hm, hc, ht, hq⟩ := h; simp only [Attrs.origin, Attrs.path, Attrs.next, Attrs.hasLocal, Attrs.hasMaker, Attrs.makerAS, Attrs.comms, Attrs.others] at ho hp hn hl hm hc ht hq; have ht' : ∀ x ∈ others, x.1.toNat ∈ kind :: seen ∧ 0 <= x.1 := fun x hx => ⟨List.mem_cons_of_mem _ (ht.2.2 x hx).1, (ht.2.2 x hx).2⟩; have hc' : kind ≠ 8 -> comms.length <= 32 ∧ (8 ∉ kind :: seen -> comms = []) := fun _ => ⟨hc.1, fun h8 => hc.2 fun h => h8 (List.mem_cons_of_mem _ h)⟩; have hp' : kind ≠ 2 -> w <= 1 -> 2 ∈ kind :: seen -> pathOk path = true := fun hne hw hin => hp hw (by rcases List.mem_cons.1 hin with e | e; exact absurd e.symm hne; exact e)
  have hn' : kind ≠ 3 -> w <= 1 -> 3 ∈ kind :: seen -> nxt.toNat ≠ 0 ∧ nxt.toNat < 3758096384 := fun hne hw hin => hn hw (by rcases List.mem_cons.1 hin with e | e; exact absurd e.symm hne; exact e)
  have drop1 : kind ≠ 2 -> kind ≠ 3 -> kind ≠ 8 -> SafeS (RdS.found ⟨(origin, path, nxt, hasMed, med, hasLocal, loc, atomic, hasMaker, makerAS, maker, comms, others), w, kind :: seen, p4, m4⟩ 1) := fun h2 h3 h8 =>
    SafeS.found ⟨ho, hp' h2, hn' h3, hl, hm, hc' h8, ⟨ht.1, ht.2.1, ht'⟩, hq⟩ 1
  have keep : kind ≠ 2 -> kind ≠ 3 -> kind ≠ 8 -> SafeS ⟨(origin, path, nxt, hasMed, med, hasLocal, loc, atomic, hasMaker, makerAS, maker, comms, others), w, kind :: seen, p4, m4⟩ := fun h2 h3 h8 =>
    ⟨ho, hp' h2, hn' h3, hl, hm, hc' h8, ⟨ht.1, ht.2.1, ht'⟩, hq⟩
  unfold oneF; simp only [RdS.see]; simp only [RdS.see] at hbad; by_cases k1 : kind = 1
  . subst k1; rw [if_pos rfl]; by_cases hd : d.length = 1 ∧ (d.headD 0).toNat <= 2; rw [if_pos hd]; exact ⟨⟨by simp only [RdS.put, Attrs.origin]; omega, by simp only [RdS.put, Attrs.origin]; omega⟩, hp' (by decide), hn' (by decide), hl, hm, hc' (by decide), ⟨ht.1, ht.2.1, ht'⟩, hq⟩
    rw [if_neg hd]; exact hbad
  rw [if_neg k1]; by_cases k2 : kind = 2
  . subst k2; rw [if_pos rfl]; cases hr : readP four d with
    | none => exact hbad
    | some p => exact ⟨ho, fun _ _ => readP_ok hr, hn' (by decide), hl, hm, hc' (by decide), ⟨ht.1, ht.2.1, ht'⟩, hq⟩
  rw [if_neg k2]; by_cases k3 : kind = 3
  . subst k3; rw [if_pos rfl]; by_cases hd : d.length = 4 ∧ numB d ≠ 0 ∧ numB d < 3758096384
    . rw [if_pos hd]; refine ⟨ho, hp' (by decide), fun _ _ => ?_, hl, hm, hc' (by decide), ⟨ht.1, ht.2.1, ht'⟩, hq⟩
      simp only [RdS.put, Attrs.next]; rw [u32B_nat (by omega)]
      exact hd.2
    rw [if_neg hd]; exact hbad
  rw [if_neg k3]; by_cases k4 : kind = 4
  . subst k4; rw [if_pos rfl]; by_cases hd : d.length = 4; rw [if_pos hd]; exact ⟨ho, hp' (by decide), hn' (by decide), hl, hm, hc' (by decide), ⟨ht.1, ht.2.1, ht'⟩, hq⟩
    rw [if_neg hd]; exact hbad
  rw [if_neg k4]; by_cases k6 : kind = 6
  . subst k6; rw [if_pos rfl]; by_cases hd : d.length = 0; rw [if_pos hd]; exact ⟨ho, hp' (by decide), hn' (by decide), hl, hm, hc' (by decide), ⟨ht.1, ht.2.1, ht'⟩, hq⟩
    rw [if_neg hd]; exact drop1 (by decide) (by decide) (by decide)
  rw [if_neg k6]; by_cases k7 : kind = 7
  . subst k7; rw [if_pos rfl]; by_cases hd : d.length = sizeB four + 4 ∧ numB (d.take (sizeB four)) ≠ 0
    . rw [if_pos hd]; refine ⟨ho, hp' (by decide), hn' (by decide), hl, fun _ => ?_, hc' (by decide), ⟨ht.1, ht.2.1, ht'⟩, hq⟩
      have hsz : sizeB four <= 4 := by cases four <;> decide
      simp only [RdS.put, Attrs.makerAS]; rw [u32B_nat (numB_lt4 (by simp only [List.length_take]; omega))]
      exact hd.2
    rw [if_neg hd]; exact drop1 (by decide) (by decide) (by decide)
  rw [if_neg k7]; by_cases k8 : kind = 8
  . subst k8; rw [if_pos rfl]; by_cases hd : d.length ≠ 0 ∧ d.length % 4 = 0 ∧ d.length / 4 <= 32
    . rw [if_pos hd]; have hcn : comms = [] := hc.2 hk; refine ⟨ho, hp' (by decide), hn' (by decide), hl, hm, ⟨?_, fun h8 => absurd List.mem_cons_self h8⟩, ⟨ht.1, ht.2.1, ht'⟩, hq⟩
      simp only [RdS.put, Attrs.comms]; rw [hcn, List.nil_append, decN_len]; exact hd.2.2
    rw [if_neg hd]; exact hbad
  rw [if_neg k8]; by_cases k17 : kind = 17
  . subst k17; rw [if_pos rfl]; cases four with
    | true => rw [if_pos rfl]; exact keep (by decide) (by decide) (by decide)
    | false =>
      rw [if_neg (by decide)]
      cases hr : readP true d with
      | none => exact drop1 (by decide) (by decide) (by decide)
      | some p => exact ⟨ho, hp' (by decide), hn' (by decide), hl, hm, hc' (by decide), ⟨ht.1, ht.2.1, ht'⟩, hq⟩
  rw [if_neg k17]; by_cases k18 : kind = 18
  . subst k18; rw [if_pos rfl]; cases four with
    | true => rw [if_pos rfl]; exact keep (by decide) (by decide) (by decide)
    | false =>
      rw [if_neg (by decide)]
      by_cases hd : d.length = 8 ∧ numB (d.take 4) ≠ 0
      . rw [if_pos hd]; refine ⟨ho, hp' (by decide), hn' (by decide), hl, hm, hc' (by decide), ⟨ht.1, ht.2.1, ht'⟩, fun z hz => ?_⟩
        simp only [Option.some.injEq] at hz; subst hz; simp only; rw [u32B_nat (numB_lt4 (by simp only [List.length_take]; omega))]
        exact hd.2
      rw [if_neg hd]; exact drop1 (by decide) (by decide) (by decide)
  rw [if_neg k18]; exact keep k2 k3 k8
theorem SafeS.ite {c : Prop} [Decidable c] {a b : RdS} (h1 : c -> SafeS a) (h2 : ¬ c -> SafeS b) : SafeS (if c then a else b) := by by_cases h : c; rw [if_pos h]; exact h1 h; rw [if_neg h]; exact h2 h
theorem takeF_safe {four : Bool} {fl kind : Nat} {d : List UInt8} {s s' : RdS} (h : SafeS s) (hkd : kind < 256) (ht : takeF four fl kind d s = some s') : SafeS s' := by
  unfold takeF at ht; by_cases hs : kind ∈ s.seen; rw [if_pos hs] at ht; cases ht; exact h.found 1; rw [if_neg hs] at ht; by_cases hk : knownK (kind : Int) = true; rw [if_pos hk] at ht; split at ht; cases ht; exact oneF_safe h hs; cases ht; exact h.bad kind
  . rw [if_neg hk] at ht; have hk' : knownK (kind : Int) = false := by simpa using hk
    have n2 : kind ≠ 2 := fun e => by subst e; exact hk rfl
    have n3 : kind ≠ 3 := fun e => by subst e; exact hk rfl
    split at ht; cases ht
    . split at ht
      . cases ht; have hsee := h.see n2 n3; obtain ⟨⟨origin, path, nxt, hasMed, med, hasLocal, loc, atomic, hasMaker, makerAS, maker, comms, others⟩, w, seen, p4, m4⟩ := s; unfold otherF; simp only [RdS.see] at hsee ⊢; refine SafeS.ite (fun hd => hsee.found 1) (fun hd => ?_); obtain ⟨ho, hp, hn, hl, hm, hc, ht, hq⟩ := hsee; have ht0 := h.t; simp only [Attrs.others] at ht ht0; refine ⟨ho, hp, hn, hl, hm, hc, ⟨?_, ?_, fun x hx => ?_⟩, hq⟩
        . exact othersOk_ins hk' (by omega) (by omega) others (-1) ht.1 (by omega) fun x hx e => hs (by
            have := ht0.2.2 x hx; have e2 : x.1.toNat = kind := by omega
            rw [e2] at this; exact this.1)
        simp only [RdS.put, Attrs.others, insO_len]; omega
        . rcases insO_mem others hx with rfl | hx; exact ⟨by simp [RdS.put], by simp⟩
          exact ht.2.2 x hx
      cases ht; exact h.see n2 n3
theorem loopF_safe {four : Bool} : ∀ (f : Nat) (b : List UInt8) (s s' : RdS), SafeS s -> loopF four f b s = (s', none) -> SafeS s'
  | f, [], s, s', hs, h => by
    have : loopF four f [] s = (s, none) := by cases f <;> rfl
    rw [this] at h; cases h; exact hs
  | 0, x :: b, s, s', hs, h => by simp only [loopF] at h; cases h; exact hs
  | f + 1, x :: b, s, s', hs, h => by simp only [loopF] at h; split at h; cases h; exact hs.found 2; rename_i fl kd d n hn; split at h; cases h; rename_i s1 h1; exact loopF_safe f _ s1 s' (takeF_safe hs (nextF_size hn).2.2.1 h1) h
theorem readA_safe {four : Bool} {b : List UInt8} (hw : (readA four true b).2.1 <= 1) : attrsOk (readA four true b).1 = true ∧ (readA four true b).1.hasLocal = false := by
  cases hl : loopF four b.length b rd0 with
  | mk s br =>
    cases br with
    | some w =>
      unfold readA at hw; rw [hl] at hw; simp at hw
    | none =>
      have hsafe := loopF_safe b.length b rd0 s safe0 hl; unfold readA at hw ⊢; rw [hl] at hw ⊢; simp only at hw ⊢; by_cases ht : True ∧ ¬ (1 ∈ s.seen ∧ 2 ∈ s.seen ∧ 3 ∈ s.seen); rw [if_pos ht] at hw; have h2 : 2 <= (s.found 2).worst := Nat.le_max_right _ _; rw [if_pos h2] at hw; simp only at hw; omega
      . rw [if_neg ht] at hw ⊢; by_cases h2 : 2 <= s.worst; rw [if_pos h2] at hw; simp only at hw; omega
        . rw [if_neg h2]; have h123 : 1 ∈ s.seen ∧ 2 ∈ s.seen ∧ 3 ∈ s.seen := Classical.byContradiction fun h => ht ⟨trivial, h⟩; obtain ⟨ho, hp, hn, hlo, hm, hc, htt, hq⟩ := hsafe; have hp9 := hp (by omega) h123.2.1
          have hn9 := hn (by omega) h123.2.2
          clear hp hn; obtain ⟨⟨origin, path, nxt, hasMed, med, hasLocal, loc, atomic, hasMaker, makerAS, maker, comms, others⟩, w, seen, p4, m4⟩ := s; simp only [Attrs.origin, Attrs.path, Attrs.next, Attrs.hasLocal, Attrs.hasMaker, Attrs.makerAS, Attrs.comms, Attrs.others] at ho hp9 hn9 hlo hm hc htt hq; have fin : ∀ (p : List Seg) (x y : UInt32), pathOk p = true -> (hasMaker = true -> x.toNat ≠ 0) -> attrsOk (origin, p, nxt, hasMed, med, hasLocal, loc, atomic, hasMaker, x, y, comms, others) = true ∧ hasLocal = false := fun p x y h1 h2 => by
            refine ⟨?_, hlo⟩; simp only [attrsOk, Attrs.origin, Attrs.path, Attrs.next, Attrs.hasMaker, Attrs.makerAS, Attrs.comms, Attrs.others, Bool.and_eq_true, decide_eq_true_eq]; refine ⟨⟨⟨⟨⟨⟨ho.1, ho.2⟩, h1⟩, by omega, by omega⟩, ?_⟩, hc.1⟩, htt.1, htt.2.1⟩
            cases hasMaker with
            | false => rfl
            | true =>
              have := h2 rfl; simp only [Bool.true_and, Bool.not_eq_true', beq_eq_false_iff_ne, ne_eq]; omega
          unfold mergeA; simp only; by_cases hmk : hasMaker = true ∧ makerAS ≠ 23456; rw [if_pos hmk]; exact fin _ _ _ hp9 hm
          . rw [if_neg hmk]; refine fin _ _ _ ?_ ?_
            . cases p4 with
              | none => exact hp9
              | some q =>
                simp only; by_cases hmp : pathOk (mergeP path q) = true; rw [if_pos hmp]; exact hmp; rw [if_neg hmp]; exact hp9
            . intro hh; subst hh; cases m4 with
              | none => exact hm rfl
              | some z => exact hq z rfl
end Go.Proofs.YtboagabgpcghcaaDoor
namespace Go.Proofs.YtboagabgpcghcaaDoor
open Go.Sh
theorem EachJ_over {T X : Type} {fin : T -> Prop} {body : T -> X -> (T -> Prop) -> Prop} (S : List X -> T) : ∀ (post pre : List X), (∀ pre' x post', pre ++ post = pre' ++ x :: post' -> ∀ next : T -> Prop, next (S (pre' ++ [x])) -> body (S pre') x next) -> fin (S (pre ++ post)) -> EachJ fin body post (S pre)
  | [], pre, _, he => by rw [List.append_nil] at he; exact he
  | x :: r, pre, hr, he => by
    have e : pre ++ x :: r = (pre ++ [x]) ++ r := by simp
    exact hr pre x r rfl _ (EachJ_over S r (pre ++ [x]) (fun pre' y post' h => hr pre' y post' (by rw [e]; exact h)) (by rw [← e]; exact he))
theorem numB_snoc (l : List UInt8) (x : UInt8) : numB (l ++ [x]) = numB l * 256 + x.toNat := by simp [numB]
theorem numB_bound : ∀ (d : List UInt8), numB d < 256 ^ d.length := fun d => by
  have : ∀ (d : List UInt8) (a : Nat), d.foldl (fun a x => a * 256 + x.toNat) a < (a + 1) * 256 ^ d.length := by
    intro d; induction d with
    | nil => intro a; simp
    | cons x d ih =>
      intro a; have hx := UInt8.toNat_lt x; have ih := ih (a * 256 + x.toNat); simp only [List.foldl_cons, List.length_cons, Nat.pow_succ]; have h3 : (a * 256 + x.toNat + 1) * 256 ^ d.length <= ((a + 1) * 256) * 256 ^ d.length := Nat.mul_le_mul_right _ (by omega)
      have h4 : (a + 1) * 256 * 256 ^ d.length = (a + 1) * (256 ^ d.length * 256) := by rw [Nat.mul_assoc, Nat.mul_comm 256]
      omega
  have := this d 0; unfold numB; omega
theorem chunks_dec {size : Nat} (hs : 1 <= size) : ∀ (n : Nat) (s : List UInt8), s.length = n * size -> (chunkXs s size).map (fun c => UInt32.ofNat (numB c.1)) = decN size n s ∧ ∀ c ∈ chunkXs s size, c.1.length = size
  | 0, s, h => by
    have : s = [] := List.eq_nil_of_length_eq_zero (by omega)
    subst this; exact ⟨rfl, fun c hc => by simp [chunkXs_nil] at hc⟩
  | n + 1, s, h => by
    have hne : s ≠ [] := fun e => by subst e; simp [Nat.succ_mul] at h; omega
    rw [Nat.succ_mul] at h; rw [chunkXs_cons (by omega) hne]
    obtain ⟨h1, h2⟩ := chunks_dec hs n (s.drop size) (by rw [List.length_drop]; omega)
    rw [Int.toNat_natCast]; refine ⟨by simp only [List.map_cons, decN, h1], fun c hc => ?_⟩
    rcases List.mem_cons.1 hc with rfl | hc; simp only [List.length_take]; omega; exact h2 c hc
def rpK (four : Bool) (b : List UInt8) (K : List Seg -> Int -> Prop) : Prop := match readP four b with
  | some p => K p 0
  | none => K [] 7
def rpT (size : Nat) (p : List Seg) (r : List UInt8) (K : List Seg -> Int -> Prop) : Prop := match segsF size r.length r with
  | some t => if pathOk (p ++ t) = true then K (p ++ t) 0 else K [] 7
  | none => K [] 7
theorem rpT_nil {size : Nat} {p : List Seg} {K : List Seg -> Int -> Prop} (h : rpT size p [] K) : if pathOk p = true then K p 0 else K [] 7 := by unfold rpT at h; simp only [List.length_nil, segsF, List.append_nil] at h; exact h
theorem rpT_one {size : Nat} {p : List Seg} {x : UInt8} {K : List Seg -> Int -> Prop} (h : rpT size p [x] K) : K [] 7 := by unfold rpT at h; simp only [List.length_cons, List.length_nil, segsF] at h; exact h
theorem rpT_bad {size : Nat} {p : List Seg} {x y : UInt8} {r : List UInt8} {K : List Seg -> Int -> Prop} (hc : ¬ ((x = 1 ∨ x = 2) ∧ y.toNat * size <= r.length)) (h : rpT size p (x :: y :: r) K) : K [] 7 := by unfold rpT at h; simp only [List.length_cons, segsF] at h; rw [if_neg hc] at h; exact h
theorem rpT_cons {size : Nat} {p : List Seg} {x y : UInt8} {r : List UInt8} {K : List Seg -> Int -> Prop} (hc : (x = 1 ∨ x = 2) ∧ y.toNat * size <= r.length) (h : rpT size p (x :: y :: r) K) : rpT size (p ++ [(x == 1, decN size y.toNat r)]) (r.drop (y.toNat * size)) K := by
  unfold rpT at h ⊢; simp only [List.length_cons, segsF] at h; rw [if_pos hc, segsF_fuel size (r.length + 1) (r.drop (y.toNat * size)).length _ (by simp only [List.length_drop]; omega) (Nat.le_refl _)] at h
  cases hs : segsF size (r.drop (y.toNat * size)).length (r.drop (y.toNat * size)) with
  | none => rw [hs] at h; exact h
  | some t =>
    rw [hs] at h; simp only [Option.map_some] at h; simp only [List.append_assoc, List.cons_append, List.nil_append]; exact h
theorem rpT_of {four : Bool} {b : List UInt8} {K : List Seg -> Int -> Prop} (h : rpK four b K) : rpT (sizeB four) [] b K := by
  unfold rpK readP at h; unfold rpT; cases hs : segsF (sizeB four) b.length b with
  | none => rw [hs] at h; exact h
  | some t =>
    rw [hs] at h; simp only [List.nil_append] at h ⊢; by_cases hp : pathOk t = true; rw [if_pos hp] at h ⊢; exact h; rw [if_neg hp] at h ⊢; exact h
theorem cnt_snoc' (p : List Seg) (s : Seg) : cnt (p ++ [s]) = cnt p + s.2.length := by simp [cnt]
theorem zz3_j0_c (b : List UInt8) (size : Nat) (K : List Seg -> Int -> Prop) (hs : size = 4 ∨ size = 2) (hl : b.length <= 1000000000) (h : rpT size [] b K) : zz3_j0 b size K := by
  unfold zz3_j0; refine ⟨fun k x => ∃ (r : List UInt8) (p : List Seg), x = (r, p, ()) ∧ k = r.length ∧ p.length + cnt p + r.length <= b.length ∧ rpT size p r K, b.length, ⟨b, [], rfl, rfl, by simp [cnt], h⟩, ?_⟩
  rintro k x ⟨r, p, rfl, rfl, hlen, hr⟩; intro _; dsimp only [zz3_l5]; cases r with
  | nil =>
    refine ifF rfl fun _ => zz8_c p _ (by omega) (by omega) fun _ => ?_
    have h1 := rpT_nil hr; cases hp : pathOk p with
    | true => rw [hp, if_pos rfl] at h1; exact ifT rfl h1
    | false => rw [hp, if_neg (by decide)] at h1; exact ifF rfl h1
  | cons x r =>
  refine ifT (decide_eq_true (by simp only [List.length_cons]; omega)) ?_
  cases r with
  | nil =>
    refine ifT rfl ?_; unfold zz3_j1; exact ifT rfl (rpT_one hr)
  | cons y r =>
  simp only [List.length_cons] at hlen; have hx := UInt8.toNat_lt x; have hy := UInt8.toNat_lt y; have hsz : size <= 4 ∧ 1 <= size := by omega
  have hmul : y.toNat * size <= 255 * 4 := Nat.mul_le_mul (by omega) hsz.1
  have wl : IntKind.wrap .i64 ((((x :: y :: r).length : Nat) : Int) - 2) = (r.length : Int) := by rw [wr_i64 (by simp only [List.length_cons]; omega) (by simp only [List.length_cons]; omega)]; simp only [List.length_cons]; omega
  have wm : IntKind.wrap .i64 (IntKind.wrap .i64 (y.toNat : Int) * (size : Int)) = ((y.toNat * size : Nat) : Int) := by rw [wr_i64 (n := (y.toNat : Int)) (by omega) (by omega), ← Int.natCast_mul, wr_i64 (by omega) (by omega)]
  have bad : ¬ ((x = 1 ∨ x = 2) ∧ y.toNat * size <= r.length) -> zz3_j1 (x :: y :: r) size p (fun x' => ∃ k', k' < (x :: y :: r).length ∧ ∃ (r : List UInt8) (p : List Seg), x' = (r, p, ()) ∧ k' = r.length ∧ p.length + cnt p + r.length <= b.length ∧ rpT size p r K) true K := fun hc => by unfold zz3_j1; exact ifT rfl (rpT_bad hc hr)
  have good : (x = 1 ∨ x = 2) -> zz3_j1 (x :: y :: r) size p (fun x' => ∃ k', k' < (x :: y :: r).length ∧ ∃ (r : List UInt8) (p : List Seg), x' = (r, p, ()) ∧ k' = r.length ∧ p.length + cnt p + r.length <= b.length ∧ rpT size p r K) (decide (((y.toNat * size : Nat) : Int) > (r.length : Int))) K := fun hk => by
    by_cases hc : y.toNat * size <= r.length
    case neg =>
      rw [decide_eq_true (by omega)]
      exact bad fun h => hc h.2
    rw [decide_eq_false (by omega)]
    unfold zz3_j1; refine ifF rfl ⟨by decide, AtN.of rfl fun _ => ⟨by decide, AtN.of rfl fun _ => ?_⟩⟩
    have w2 : IntKind.wrap .i64 (2 + ((y.toNat * size : Nat) : Int)) = ((2 + y.toNat * size : Nat) : Int) := by rw [wr_i64 (by omega) (by omega)]; omega
    rw [wm, w2, Int.toNat_natCast]; have hd : ((x :: y :: r).take (2 + y.toNat * size)).drop 2 = r.take (y.toNat * size) := by rw [Nat.add_comm]; rfl
    have hdr : (x :: y :: r).drop (2 + y.toNat * size) = r.drop (y.toNat * size) := by rw [Nat.add_comm]; rfl
    refine ⟨by omega, by simp only [List.length_cons]; omega, by decide, by omega, ifF (decide_eq_false (by omega)) ⟨⟨by show (1 : Int) <= size; omega, by show (size : Int) <= _; omega, ?_⟩, ?_⟩⟩
    show (((x :: y :: r).take (2 + y.toNat * size)).drop 2).length <= _; rw [hd, List.length_take]; omega
    . show EachJ _ _ (chunkXs (((x :: y :: r).take (2 + y.toNat * size)).drop 2) (size : Int)) _; rw [hd]; obtain ⟨c1, c2⟩ := chunks_dec hsz.2 y.toNat (r.take (y.toNat * size)) (by rw [List.length_take]; omega)
      have hx1 : (((x.toNat : Int) : Int) == 1) = (x == 1) := by by_cases e : x = 1; subst e; rfl; rw [beq_eq_false_iff_ne.2 e, beq_eq_false_iff_ne.2 fun h => e (UInt8.toNat_inj.1 (by show x.toNat = 1; omega))]
      rw [hx1]; refine EachJ_over (fun pre : List (List UInt8 × Unit) => ((x == 1), pre.map (fun c => UInt32.ofNat (numB c.1)), ())) _ [] (fun pre c post hp2 next hn => ?_) ?_
      . intro _ _; have hcl : c.1.length = size := c2 c (by rw [← List.nil_append (chunkXs _ _), hp2]; simp)
        have hcn : (chunkXs (r.take (y.toNat * size)) (size : Int)).length = y.toNat := by have := congrArg List.length c1; rw [List.length_map, decN_len] at this; exact this
        have hpl : pre.length < y.toNat := by have := congrArg List.length hp2; simp only [List.length_append, List.length_cons, List.nil_append] at this; omega
        dsimp only [zz3_l4000010]; refine LoopJ.over c.1 (fun z => ((numB z : Int), (z.length : Int), (x == 1), pre.map (fun c => UInt32.ofNat (numB c.1)), ())) (fun _ => True) rfl trivial (fun z v post2 hz hz2 _ next2 hn2 => ?_) (fun _ next2 _ => ?_)
        . intro _; dsimp only [zz3_l13]; have hv := UInt8.toNat_lt v; have hnb := numB_bound z; have hz3 : z.length <= 3 := by rw [hcl] at hz2; omega
          have hnb2 : numB z < 16777216 := by
            have : 256 ^ z.length <= 256 ^ 3 := Nat.pow_le_pow_right (by decide) hz3
            omega
          refine ifT (decide_eq_true (by omega)) ⟨by omega, AtN.of (at_pre hz) fun _ => ⟨by decide, of_eq (hn2 trivial) ?_⟩⟩
          rw [numB_snoc, show (numB z : Int) * 256 = ((numB z * 256 : Nat) : Int) by omega, wu32 (by omega), wu32 (by omega), or_nat .u32 _ _ (lt_u32 (by omega)) (lt_u32 (by omega)), or_256 _ _ (by omega), wu32 (by omega), wr_i64 (by omega) (by omega)]
          simp
        . dsimp only [zz3_l13]; refine ifF (decide_eq_false (by omega)) ⟨by simp only [List.length_map, List.length_cons, List.length_nil]; omega, of_eq hn ?_⟩
          have e : (ofI .u32 (numB c.1 : Int) : UInt32) = UInt32.ofNat (numB c.1) := by simp [ofI]
          rw [e, List.map_append]; rfl
      . intro _; dsimp only [List.nil_append]; rw [c1]; unfold zz3_e4000010; rw [wm, w2, Int.toNat_natCast, hdr]; have hdl := decN_len size y.toNat (r.take (y.toNat * size)); have hdt : decN size y.toNat (r.take (y.toNat * size)) = decN size y.toNat r := by
          have : ∀ (n : Nat) (s : List UInt8), n * size <= s.length -> decN size n (s.take (n * size)) = decN size n s := by
            intro n; induction n with
            | zero => intro s _; rfl
            | succ n ih =>
              intro s hsl; rw [Nat.succ_mul] at hsl; simp only [decN]; have e1 : (s.take ((n + 1) * size)).take size = s.take size := by rw [List.take_take, Nat.min_eq_left]; rw [Nat.succ_mul]; omega
              have e2 : (s.take ((n + 1) * size)).drop size = (s.drop size).take (n * size) := by rw [List.drop_take, Nat.succ_mul, Nat.add_sub_cancel]
              rw [e1, e2, ih (s.drop size) (by rw [List.length_drop]; omega)]
          exact this y.toNat r hc
        have hny : y.toNat * 1 <= y.toNat * size := Nat.mul_le_mul_left _ hsz.2; refine ⟨by omega, by simp only [List.length_cons]; omega, by simp only [List.length_cons, List.length_nil]; omega, _, ?_, _, _, rfl, rfl, ?_, ?_⟩
        simp only [List.length_drop, List.length_cons]; omega; rw [cnt_snoc', List.length_append, hdl]; simp only [List.length_cons, List.length_nil, List.length_drop]; omega; rw [hdt]; exact rpT_cons ⟨hk, hc⟩ hr
  refine ifF (decide_eq_false (by simp only [List.length_cons]; omega)) ⟨by decide, AtN.of rfl fun _ => IfB.intro (fun h1 => ?_) (fun h1 => ?_)⟩
  . have h1 : x.toNat ≠ 1 := fun e => by rw [e] at h1; simp at h1
    refine ⟨by decide, AtN.of rfl fun _ => IfB.intro (fun h2 => ?_) (fun h2 => ?_)⟩
    . have h2 : x.toNat ≠ 2 := fun e => by rw [e] at h2; simp at h2
      exact bad fun h => by rcases h.1 with e | e <;> subst e; exact h1 rfl; exact h2 rfl
    . have h2 : x.toNat = 2 := by have : ((x.toNat : Int) : Int) = 2 := by simpa using h2
                                  omega
      refine ⟨by decide, AtN.of rfl fun _ => ?_⟩
      rw [wl, wm]; exact good (.inr (UInt8.toNat_inj.1 h2))
  . have h1 : x.toNat = 1 := by have : ((x.toNat : Int) : Int) = 1 := by simpa using h1
                                omega
    refine ⟨by decide, AtN.of rfl fun _ => ?_⟩
    rw [wl, wm]; exact good (.inl (UInt8.toNat_inj.1 h1))
theorem zz3_c (b : List UInt8) (four : Bool) (K : List Seg -> Int -> Prop) (hl : b.length <= 1000000000) (h : rpK four b K) : zz3_q b four K := by
  unfold zz3_q; have := rpT_of h; cases four with
  | true => exact ifT rfl (zz3_j0_c b 4 K (.inl rfl) hl this)
  | false => exact ifF rfl (zz3_j0_c b 2 K (.inr rfl) hl this)
end Go.Proofs.YtboagabgpcghcaaDoor
namespace Go.Proofs.YtboagabgpcghcaaDoor
open Go.Sh
theorem grow32_c (n : Int) (K : List UInt32 -> Prop) (h0 : 0 <= n) (hn : n <= 1000000000) (h : K []) : zz45_at_nil_q n K := by
  unfold zz45_at_nil_q; have e : IntKind.wrap .i64 (n - IntKind.wrap .i64 (0 - 0)) = n := by
    rw [wr_i64 (n := 0 - 0) (by omega) (by omega)]
    exact wr_i64 (by omega) (by omega) |>.trans (by omega)
  rw [e]; refine ifF (decide_eq_false (by omega)) (IfB.intro (fun h1 => ?_) (fun _ => h))
  have h1 : 0 < n := by simpa using h1
  exact ⟨by omega, by omega, h1, hn, by omega, by omega, by simpa using h⟩
theorem sum_pre32 {pre post : List (List UInt32)} {x : List UInt32} : (pre ++ x :: post).flatten.length = pre.flatten.length + x.length + post.flatten.length := by simp; omega
theorem concat32_c (l : List (List UInt32)) (K : List UInt32 -> Prop) (hl : l.length <= 1000000000) (hf : l.flatten.length <= 1000000000) (h : K l.flatten) : zz22_q l K := by
  unfold zz22_q; refine LoopJ.over l (fun pre => ((pre.flatten.length : Int), (pre.length : Int), ())) (fun _ => True) rfl trivial (fun pre x post hp hn _ next hx => ?_) (fun _ next _ => ?_)
  . intro _; dsimp only [zz22_l3]; have hs := sum_pre32 (pre := pre) (x := x) (post := post); rw [← hp] at hs; refine ifT (decide_eq_true (by omega)) ⟨by omega, AtN.of (at_pre hp) fun _ => ?_⟩
    rw [wr_i64 (n := (pre.flatten.length : Int) + x.length) (by omega) (by omega)]
    refine ifF (decide_eq_false (by omega)) (of_eq (hx trivial) ?_)
    rw [wr_i64 (by omega) (by omega)]
    simp
  . dsimp only [zz22_l3]; refine ifF (decide_eq_false (by omega)) fun _ => grow32_c _ _ (by omega) (by omega) fun _ => ?_
    refine LoopJ.over l (fun pre => (pre.flatten, (pre.length : Int), ())) (fun _ => True) rfl trivial (fun pre x post hp hn _ next hx => ?_) (fun _ next _ => ?_)
    . intro _; dsimp only [zz22_l11]; have hs := sum_pre32 (pre := pre) (x := x) (post := post); rw [← hp] at hs; refine ifT (decide_eq_true (by omega)) ⟨by omega, AtN.of (at_pre hp) fun _ => ⟨by omega, of_eq (hx trivial) ?_⟩⟩
      rw [wr_i64 (by omega) (by omega)]
      simp
    dsimp only [zz22_l11]; exact ifF (decide_eq_false (by omega)) h
theorem lenP_app (p q : List Seg) : lenP (p ++ q) = lenP p + lenP q := by simp [lenP]
theorem lenP_le : ∀ p : List Seg, lenP p <= p.length + cnt p
  | [] => by simp [lenP]
  | s :: p => by
    have ih := lenP_le p; have e1 : lenP (s :: p) = (if s.1 then 1 else s.2.length) + lenP p := by simp [lenP]
    have e2 : cnt (s :: p) = s.2.length + cnt p := by simp [cnt]
    rw [e1, e2, List.length_cons]; split <;> omega
theorem zz17_c (p : List Seg) (K : Int -> Prop) (hl : p.length + cnt p <= 1000000000) (h : K (lenP p)) : zz17_q p K := by
  unfold zz17_q; refine LoopJ.over p (fun pre => ((lenP pre : Int), (pre.length : Int), ())) (fun _ => True) rfl trivial (fun pre s post hp hn _ next hx => ?_) (fun _ next _ => ?_)
  . intro _; dsimp only [zz17_l3, zz17_j0]; have e := lenP_app pre (s :: post); rw [← hp] at e; have e2 : lenP (pre ++ [s]) = lenP pre + (if s.1 then 1 else s.2.length) := by rw [lenP_app]; simp [lenP]
    have e3 : lenP (s :: post) = (if s.1 then 1 else s.2.length) + lenP post := by simp [lenP]
    have hle := lenP_le p; refine ifT (decide_eq_true (by omega)) ⟨by omega, AtN.of (at_pre hp) fun _ => IfB.intro (fun h1 => of_eq (hx trivial) ?_) (fun h1 => of_eq (hx trivial) ?_)⟩
    . rw [h1, if_pos rfl] at e2 e3; rw [wr_i64 (by omega) (by omega), wr_i64 (by omega) (by omega), e2]
      simp
    . rw [h1, if_neg (by decide)] at e2 e3
      rw [wr_i64 (by omega) (by omega), wr_i64 (by omega) (by omega), e2]
      simp
  dsimp only [zz17_l3]; exact ifF (decide_eq_false (by omega)) h
theorem clone32_c (s : List UInt32) (K : List UInt32 -> Prop) (hl : s.length <= 1000000000) (h : K s) : zz49_q s K := by
  intro isnil hn; refine IfB.intro (fun h1 => ?_) (fun _ => ⟨by simp only [List.length_nil]; omega, by simpa using h⟩)
  have : s = [] := List.eq_nil_of_length_eq_zero (hn h1); rw [this] at h; exact h
theorem cnt_mem {p : List Seg} {s : Seg} (h : s ∈ p) : s.2.length <= cnt p := by obtain ⟨a, b, rfl⟩ := List.append_of_mem h; simp [cnt]; omega
theorem zz12_c (p : List Seg) (K : List Seg -> Prop) (hl : p.length + cnt p <= 1000000000) (h : K p) : zz12_q p K := by
  unfold zz12_q; refine ⟨by decide, by omega, by omega, ?_⟩
  refine LoopJ.over p (fun pre => (pre, (pre.length : Int), ())) (fun _ => True) rfl trivial (fun pre s post hp hn _ next hx => ?_) (fun _ next _ => ?_)
  . intro _; dsimp only [zz12_l3]; have hm := cnt_mem (p := p) (s := s) (by rw [hp]; simp)
    refine ifT (decide_eq_true (by omega)) ⟨by omega, AtN.of (at_pre hp) fun _ _ => clone32_c s.2 _ (by omega) fun _ => ⟨by simp only [List.length_cons, List.length_nil]; omega, of_eq (hx trivial) ?_⟩⟩
    rw [wr_i64 (by omega) (by omega)]
    simp
  dsimp only [zz12_l3]; exact ifF (decide_eq_false (by omega)) h
theorem zz23_c (p : List Seg) (n0 : Nat) (K : List Seg -> Prop) (hl : p.length + cnt p <= 1000000000) (hn0 : n0 <= 1000000000) (h : K (frontP p n0)) : zz23_q p n0 K := by
  unfold zz23_q; refine fun _ => zz12_c p _ hl fun _ => ?_; refine ⟨fun k x => ∃ (i n : Nat) (out : List Seg), x = ((n : Int), out, (i : Int), ()) ∧ k = p.length - i ∧ i <= p.length ∧ out ++ frontP (p.drop i) n = frontP p n0 ∧ out.length <= i ∧ n <= n0, p.length, ⟨0, n0, [], rfl, by omega, Nat.zero_le _, rfl, by simp, Nat.le_refl _⟩, ?_⟩
  rintro k x ⟨i, n, out, rfl, rfl, hi, ho, hlen, hnn⟩; intro _; dsimp only [zz23_l3]; by_cases h1 : i < p.length
  case neg =>
    refine ifF (decide_eq_false (by omega)) ?_
    rw [List.drop_eq_nil_of_le (by omega)] at ho
    have e : frontP [] n = [] := by cases n <;> rfl
    rw [e, List.append_nil] at ho; rw [ho]; exact h
  have hd : p.drop i = p[i] :: p.drop (i + 1) := List.drop_eq_getElem_cons h1; have hm := cnt_mem (p := p) (s := p[i]) (List.getElem_mem h1); refine ifT (decide_eq_true (by omega)) ⟨by omega, by omega, AtN.of (by rw [Int.toNat_natCast]; exact List.getElem?_eq_getElem h1) fun _ => IfB.intro (fun h2 => ?_) (fun h2 => ?_)⟩
  . have h2 : n = 0 := by have := of_decide_eq_true h2; omega
    subst h2; have e : frontP (p.drop i) 0 = [] := by cases p.drop i <;> rfl
    rw [e, List.append_nil] at ho; rw [ho]; exact h
  have h2 : 0 < n := by have := of_decide_eq_false h2; omega
  obtain ⟨m, rfl⟩ : ∃ m, n = m + 1 := ⟨n - 1, by omega⟩
  have hw : IntKind.wrap .i64 ((i : Int) + 1) = ((i + 1 : Nat) : Int) := by rw [wr_i64 (by omega) (by omega)]; omega
  rw [hd] at ho; refine IfB.intro (fun h3 => ?_) (fun h3 => ?_)
  . unfold zz23_j0; rw [hw]; have e : frontP (p[i] :: p.drop (i + 1)) (m + 1) = p[i] :: frontP (p.drop (i + 1)) m := by simp only [frontP]; rw [if_pos h3]
    rw [e] at ho; refine ⟨by simp only [List.length_cons, List.length_nil]; omega, p.length - (i + 1), by omega, i + 1, m, out ++ [p[i]], ?_, rfl, by omega, by rw [List.append_assoc]; exact ho, by simp only [List.length_append, List.length_cons, List.length_nil]; omega, by omega⟩
    rw [wr_i64 (by omega) (by omega)]
    congr 1; omega
  . unfold zz23_j0; rw [hw]; have hmin : (min ((m + 1 : Nat) : Int) (p[i].2.length : Int)).toNat = min (m + 1) p[i].2.length := by omega
    rw [hmin]; have htk : p[i].2.take (min (m + 1) p[i].2.length) = p[i].2.take (m + 1) := by rcases Nat.le_total (m + 1) p[i].2.length with h4 | h4; rw [Nat.min_eq_left h4]; rw [Nat.min_eq_right h4, List.take_length, List.take_of_length_le h4]
    rw [htk]; have e : frontP (p[i] :: p.drop (i + 1)) (m + 1) = (p[i].1, p[i].2.take (m + 1)) :: frontP (p.drop (i + 1)) (m + 1 - min (m + 1) p[i].2.length) := by simp only [frontP]; rw [if_neg (by rw [h3]; decide)]
    rw [e] at ho; refine ⟨by omega, by omega, by simp only [List.length_cons, List.length_nil]; omega, p.length - (i + 1), by omega, i + 1, m + 1 - min (m + 1) p[i].2.length, out ++ [(p[i].1, p[i].2.take (m + 1))], ?_, rfl, by omega, by rw [List.append_assoc]; exact ho, by simp only [List.length_append, List.length_cons, List.length_nil]; omega, by omega⟩
    rw [List.length_take, wr_i64 (by omega) (by omega)]
    congr 1; omega
theorem frontP_size : ∀ (p : List Seg) (n : Nat), (frontP p n).length <= p.length ∧ cnt (frontP p n) <= cnt p
  | [], n => by cases n <;> simp [frontP, cnt]
  | s :: p, 0 => by simp [frontP, cnt]
  | s :: p, n + 1 => by
    have e2 : cnt (s :: p) = s.2.length + cnt p := by simp [cnt]
    simp only [frontP]; split
    . obtain ⟨h1, h2⟩ := frontP_size p n; have e3 : cnt (s :: frontP p n) = s.2.length + cnt (frontP p n) := by simp [cnt]
      rw [e3, e2]; simp only [List.length_cons]; omega
    . obtain ⟨h1, h2⟩ := frontP_size p (n + 1 - min (n + 1) s.2.length); have e3 : cnt ((s.1, s.2.take (n + 1)) :: frontP p (n + 1 - min (n + 1) s.2.length)) = (s.2.take (n + 1)).length + cnt (frontP p (n + 1 - min (n + 1) s.2.length)) := by simp [cnt]
      rw [e3, e2]; simp only [List.length_cons, List.length_take]; omega
theorem zz33_c (two four : List Seg) (K : List Seg -> Prop) (h2 : two.length + cnt two <= 1000000) (h4 : four.length + cnt four <= 1000000) (h : K (mergeP two four)) : zz33_q two four K := by
  have l2 := lenP_le two; have l4 := lenP_le four; unfold zz33_q; refine fun _ => zz17_c two _ (by omega) fun _ _ => zz17_c four _ (by omega) fun _ => ?_
  rw [wr_i64 (n := (lenP two : Int) - (lenP four : Int)) (by omega) (by omega)]
  unfold mergeP at h; by_cases hlt : lenP two < lenP four; rw [if_pos hlt] at h; exact ifT (decide_eq_true (by omega)) fun _ => zz12_c two _ (by omega) fun _ => h
  rw [if_neg hlt] at h; have hsub : (lenP two : Int) - (lenP four : Int) = ((lenP two - lenP four : Nat) : Int) := by omega
  rw [hsub]; refine ifF (decide_eq_false (by omega)) fun _ => zz23_c two _ _ (by omega) (by omega) fun _ _ => zz12_c four _ (by omega) fun _ => ?_
  obtain ⟨f1, f2⟩ := frontP_size two (lenP two - lenP four); generalize frontP two (lenP two - lenP four) = out at *; have plain : glueP out four = out ++ four -> zz33_j0 out four false K := fun e => by unfold zz33_j0 zz33_j1; rw [e] at h; exact ifF rfl ⟨by omega, h⟩
  rw [wr_i64 (n := (out.length : Int) - 1) (by omega) (by omega)]
  rcases List.eq_nil_or_concat out with rfl | ⟨init, s, rfl⟩; exact ifF (by rfl) (plain rfl)
  have hlast : (init ++ [s]).getLast? = some s := by simp
  have hlen : (((init ++ [s]).length : Nat) : Int) - 1 = (init.length : Int) := by simp
  have hat : (init ++ [s])[init.length]? = some s := by simp
  rw [List.concat_eq_append] at *; rw [hlen]; refine ifT (decide_eq_true (by omega)) ?_
  cases four with
  | nil =>
    refine ifF (by rfl) (plain ?_)
    unfold glueP; rw [hlast]
  | cons t rest =>
    refine ifT (decide_eq_true (by simp only [List.length_cons]; omega)) ⟨by omega, by simp only [List.length_append, List.length_cons, List.length_nil]; omega, ?_⟩
    rw [Int.toNat_natCast]; refine AtN.of hat fun _ => IfB.intro (fun h5 => ?_) (fun h5 => plain ?_)
    . refine ⟨by decide, by simp only [List.length_cons]; omega, AtN.of rfl fun _ => ?_⟩
      cases h6 : t.1 with
      | true =>
        refine plain ?_; unfold glueP; rw [hlast]; simp only [h6, Bool.not_true, Bool.and_false, Bool.false_eq_true, if_false]
      | false =>
        have hg : glueP (init ++ [s]) (t :: rest) = init ++ (s.1, s.2 ++ t.2) :: rest := by unfold glueP; rw [hlast]; simp only [h5, h6, Bool.not_false, Bool.and_true, if_true, List.dropLast_concat]
        rw [hg] at h; have hs := cnt_mem (p := init ++ [s]) (s := s) (by simp)
        have ht := cnt_mem (p := t :: rest) (s := t) (by simp)
        unfold zz33_j0; refine ifT rfl ?_; rw [wr_i64 (n := (((init ++ [s]).length : Nat) : Int) - 1) (by omega) (by omega), hlen, Int.toNat_natCast]
        refine ⟨by omega, by simp only [List.length_append, List.length_cons, List.length_nil]; omega, AtN.of hat fun _ => ⟨by decide, by simp only [List.length_cons]; omega, AtN.of rfl fun _ _ => concat32_c [s.2, t.2] _ (by simp) (by simp; omega) fun _ => ⟨by omega, by simp only [List.length_append, List.length_cons, List.length_nil]; omega, AtN.of hat fun _ => ⟨by decide, by simp only [List.length_cons]; omega, ?_⟩⟩⟩⟩
        unfold zz33_j1; have e1 : (init ++ [s]).set init.length (s.1, [s.2, t.2].flatten) = init ++ [(s.1, s.2 ++ t.2)] := by rw [List.set_append_right _ _ (Nat.le_refl _), Nat.sub_self]; simp
        rw [e1]; refine ⟨by simp only [List.length_append, List.length_cons, List.length_nil, List.length_drop] at *; omega, of_eq h ?_⟩
        simp
    . have h5 : s.1 = true := by simpa using h5
      unfold glueP; rw [hlast]; simp only [h5, Bool.not_true, Bool.false_and, Bool.false_eq_true, if_false]
end Go.Proofs.YtboagabgpcghcaaDoor
namespace Go.Proofs.YtboagabgpcghcaaDoor
open Go.Sh
theorem and_192 : ∀ n : Nat, n < 256 -> n &&& 192 = n / 64 * 64 := by decide +kernel
theorem and_16 (n : Nat) : n &&& 16 = 16 * (n / 16 % 2) := and_bit 4 n
theorem zz51_c (x y z w : UInt8) (r : List UInt8) (K : Int -> Prop) (h : K (numB [x, y, z, w])) : zz51_q (x :: y :: z :: w :: r) K := by
  have hx := UInt8.toNat_lt x; have hy := UInt8.toNat_lt y; have hz := UInt8.toNat_lt z; have hw := UInt8.toNat_lt w; unfold zz51_q; refine ⟨by decide, AtN.of rfl fun _ => ⟨by decide, by decide, AtN.of rfl fun _ => ⟨by decide, by decide, AtN.of rfl fun _ => ⟨by decide, by decide, AtN.of rfl fun _ => of_eq h ?_⟩⟩⟩⟩
  rw [wu32 (a := x.toNat) (by omega), wu32 (a := y.toNat) (by omega), wu32 (a := z.toNat) (by omega), wu32 (a := w.toNat) (by omega),
    show (x.toNat : Int) * 16777216 = ((2 ^ 24 * x.toNat : Nat) : Int) by omega, show (y.toNat : Int) * 65536 = ((y.toNat * 65536 : Nat) : Int) by omega, show (z.toNat : Int) * 256 = ((z.toNat * 256 : Nat) : Int) by omega,
    wu32 (a := 2 ^ 24 * x.toNat) (by omega), wu32 (a := y.toNat * 65536) (by omega), wu32 (a := z.toNat * 256) (by omega)]
  rw [or_nat .u32 _ _ (lt_u32 (by omega)) (lt_u32 (by omega)), or_up 24 _ _ (by omega), wu32 (by omega)]
  rw [show 2 ^ 24 * x.toNat + y.toNat * 65536 = 2 ^ 16 * (x.toNat * 256 + y.toNat) by omega, or_nat .u32 _ _ (lt_u32 (by omega)) (lt_u32 (by omega)), or_up 16 _ _ (by omega), wu32 (by omega)]
  rw [show 2 ^ 16 * (x.toNat * 256 + y.toNat) + z.toNat * 256 = 2 ^ 8 * ((x.toNat * 256 + y.toNat) * 256 + z.toNat) by omega, or_nat .u32 _ _ (lt_u32 (by omega)) (lt_u32 (by omega)), or_up 8 _ _ (by omega), wu32 (by omega)]
  simp only [numB, List.foldl_cons, List.foldl_nil]; omega
def nxK (b : List UInt8) (K : (UInt8 × Int × List UInt8 × Int) -> Bool -> Prop) : Prop := match nextF b with
  | some (fl, kd, d, n) => K (UInt8.ofNat fl, (kd : Int), d, (n : Int)) true
  | none => K (0, 0, [], 0) false
theorem zz40_c (b : List UInt8) (K : (UInt8 × Int × List UInt8 × Int) -> Bool -> Prop) (hl : b.length <= 1000000000) (h : nxK b K) : zz40_q b K := by
  unfold zz40_q; unfold nxK nextF at h
  match b, hl, h with
  | [], _, h => exact ifT rfl h
  | [_], _, h => exact ifT rfl h
  | [_, _], _, h => exact ifT rfl h
  | fl :: kd :: n1 :: r, hl, h =>
    have hf := UInt8.toNat_lt fl; have hk := UInt8.toNat_lt kd; have h1 := UInt8.toNat_lt n1; simp only [List.length_cons] at hl; have eF : (ofI .u8 (bitsAnd .u8 (fl.toNat : Int) 192) : UInt8) = UInt8.ofNat (fl.toNat / 64 * 64) := by
      rw [show (192 : Int) = ((192 : Nat) : Int) from rfl, and_nat .u8 _ _ (lt_u8 (by omega)) (lt_u8 (by decide)), and_192 _ (by omega)]
      have : IntKind.wrap .u8 ((fl.toNat / 64 * 64 : Nat) : Int) = ((fl.toNat / 64 * 64 : Nat) : Int) := by rw [wr_u8]; omega
      rw [this]; show UInt8.ofNat (((fl.toNat / 64 * 64 : Nat) : Int)).toNat = _; rw [Int.toNat_natCast]
    have eK : IntKind.wrap .i64 (kd.toNat : Int) = (kd.toNat : Int) := wr_i64 (by omega) (by omega)
    have e16 : bitsAnd .u8 (fl.toNat : Int) 16 = ((16 * (fl.toNat / 16 % 2) : Nat) : Int) := by
      rw [show (16 : Int) = ((16 : Nat) : Int) from rfl, and_nat .u8 _ _ (lt_u8 (by omega)) (lt_u8 (by decide)), and_16]
      rw [wr_u8]; omega
    have tail : ∀ (head n : Nat) (r' : List UInt8), head <= 4 -> n <= 65535 -> (fl :: kd :: n1 :: r).length = head + r'.length -> (fl :: kd :: n1 :: r).drop head = r' -> (if n <= r'.length then K (UInt8.ofNat (fl.toNat / 64 * 64), (kd.toNat : Int), r'.take n, ((head + n : Nat) : Int)) true else K (0, 0, [], 0) false) -> zz40_j2 (fl :: kd :: n1 :: r) (head : Int) (n : Int) K := fun head n r' hh hn hlen hd hK => by
      unfold zz40_j2; have hb : (fl :: kd :: n1 :: r).length <= 1000000000 := by simp only [List.length_cons]; omega
      generalize hB : fl :: kd :: n1 :: r = B at *; rw [wr_i64 (n := (B.length : Int) - (head : Int)) (by omega) (by omega)]
      by_cases hc : n <= r'.length
      . rw [if_pos hc] at hK; have w : IntKind.wrap .i64 ((head : Int) + (n : Int)) = ((head + n : Nat) : Int) := by rw [wr_i64 (by omega) (by omega)]; omega
        rw [w, Int.toNat_natCast, Int.toNat_natCast]; refine ifT (decide_eq_true (by omega)) ⟨by decide, AtN.of (by rw [← hB]; rfl) fun _ => ⟨by decide, AtN.of (x := kd) (by rw [← hB]; rfl) fun _ => ⟨by omega, by omega, by omega, by omega, ?_⟩⟩⟩
        rw [eF, eK]; have e9 : (B.take (head + n)).drop head = r'.take n := by rw [List.drop_take, hd, show head + n - head = n by omega]
        rw [e9]; exact hK
      rw [if_neg hc] at hK; exact ifF (decide_eq_false (by omega)) hK
    refine ifF (decide_eq_false (by simp only [List.length_cons]; omega)) ⟨by decide, AtN.of rfl fun _ => ⟨by decide, AtN.of rfl fun _ => IfB.intro (fun h2 => ?_) (fun h2 => ?_)⟩⟩
    . have h2 : fl.toNat / 16 % 2 = 1 := by rw [e16] at h2; rcases Nat.mod_two_eq_zero_or_one (fl.toNat / 16) with e | e; rw [e] at h2; simp at h2; exact e
      simp only at h; rw [if_pos h2] at h; cases r with
      | nil => exact ifT rfl h
      | cons n2 r' =>
        have hn2 := UInt8.toNat_lt n2; simp only [List.length_cons] at hl; refine ifF (decide_eq_false (by simp only [List.length_cons]; omega)) ⟨by decide, by decide, AtN.of rfl fun _ => ?_⟩
        rw [wr_i64 (n := (n1.toNat : Int)) (by omega) (by omega), wr_i64 (n := (n2.toNat : Int)) (by omega) (by omega), show (n1.toNat : Int) * 256 = ((n1.toNat * 256 : Nat) : Int) by omega, wr_i64 (n := ((n1.toNat * 256 : Nat) : Int)) (by omega) (by omega), or_nat .i64 _ _ (lt_i64 (by omega)) (lt_i64 (by omega)), or_256 _ _ (by omega), wr_i64 (n := ((n1.toNat * 256 + n2.toNat : Nat) : Int)) (by omega) (by omega)]
        refine tail 4 (n1.toNat * 256 + n2.toNat) r' (by omega) (by omega) (by simp only [List.length_cons]; omega) rfl ?_
        by_cases hc : n1.toNat * 256 + n2.toNat <= r'.length; simp only at h; rw [if_pos hc] at h ⊢; exact h; simp only at h; rw [if_neg hc] at h ⊢; exact h
    . have h2 : ¬ fl.toNat / 16 % 2 = 1 := fun e => by rw [e16, e] at h2; simp at h2
      simp only at h; rw [if_neg h2] at h; rw [wr_i64 (n := (n1.toNat : Int)) (by omega) (by omega)]
      refine tail 3 n1.toNat r (by omega) (by omega) (by simp only [List.length_cons]; omega) rfl ?_
      by_cases hc : n1.toNat <= r.length; rw [if_pos hc] at h ⊢; exact h; rw [if_neg hc] at h ⊢; exact h
end Go.Proofs.YtboagabgpcghcaaDoor
end
section
set_option maxRecDepth 100000
namespace Go.Proofs.YtboagabgpcghcaaDoor
open Go.Sh
noncomputable def zl_T_attr_reader : List Value := (zeroL Tryd.prog T_attr_reader).getD []
def hplan_zz16 : Plan := ⟨[(12, [0, 1, 2, 3, 4, 5, 6, 7, 8], [76]), (14, [0, 1, 2, 3, 4, 5, 6, 7, 8, 9, 10, 11], [87])], [(2, [0], [.slice], [2, 6, 8, 9])], [], []⟩
theorem hk_zz16 : Known Tryd.prog f_zz16 Tryd.f16 hplan_zz16 (bodyOf Tryd.f16) := by refine ⟨Tryd.func16, ?_, ?_, ?_, ?_, ?_⟩ <;> kernel_rfl
def zz16_j3 (x6b : Nat) (x8b : Nat) (x14b : Nat) (x70 : Int) (next2 : ((Option Addr × Nat × Nat) × Unit) -> Heap -> Prop) (H16 : Heap) (R : Value -> Heap -> Prop) : Prop :=
 IfB (decide ((x70 : Int) ≥ 2))
 (∃ bs : List Nat, (∀ b ∈ bs, ∃ o, H16 b = some o) ∧
 x14b ∈ bs ∧ ∃ x76 : Int, H16.cell ⟨x14b, 14, none⟩ = some (Value.int .i64 x76) ∧
 StCell H16 ⟨x6b, 0, none⟩ (Value.int .i64 0) fun H17 =>
 StCell H17 ⟨x6b, 1, none⟩ (Value.slice none 0 0) fun H18 =>
 StCell H18 ⟨x6b, 2, none⟩ (Value.int .u32 0) fun H19 =>
 StCell H19 ⟨x6b, 3, none⟩ (Value.bool false) fun H20 =>
 StCell H20 ⟨x6b, 4, none⟩ (Value.int .u32 0) fun H21 =>
 StCell H21 ⟨x6b, 5, none⟩ (Value.bool false) fun H22 =>
 StCell H22 ⟨x6b, 6, none⟩ (Value.int .u32 0) fun H23 =>
 StCell H23 ⟨x6b, 7, none⟩ (Value.bool false) fun H24 =>
 StCell H24 ⟨x6b, 8, none⟩ (Value.bool false) fun H25 =>
 StCell H25 ⟨x6b, 9, none⟩ (Value.int .u32 0) fun H26 =>
 StCell H26 ⟨x6b, 10, none⟩ (Value.int .u32 0) fun H27 =>
 StCell H27 ⟨x6b, 11, none⟩ (Value.slice none 0 0) fun H28 =>
 StCell H28 ⟨x6b, 12, none⟩ (Value.slice none 0 0) fun H29 =>
 KeptIn bs H16 H29 ∧ StCell H29 ⟨x8b, 0, none⟩ (Value.int .i64 0) fun H30 =>
 StCell H30 ⟨x8b, 1, none⟩ (Value.int .i64 0) fun H31 =>
 StCell H31 ⟨x8b, 2, none⟩ (Value.slice none 0 0) fun H32 =>
 ∃ r0c0 : Int, H32.cell ⟨x6b, 0, none⟩ = some (Value.int .i64 r0c0) ∧ ∃ (r0c1a : Option Addr) (r0c1n r0c1c : Nat), H32.cell ⟨x6b, 1, none⟩ = some (Value.slice r0c1a r0c1n r0c1c) ∧ ∃ r0c2 : Int, H32.cell ⟨x6b, 2, none⟩ = some (Value.int .u32 r0c2) ∧ ∃ r0c3 : Bool, H32.cell ⟨x6b, 3, none⟩ = some (Value.bool r0c3) ∧ ∃ r0c4 : Int, H32.cell ⟨x6b, 4, none⟩ = some (Value.int .u32 r0c4) ∧ ∃ r0c5 : Bool, H32.cell ⟨x6b, 5, none⟩ = some (Value.bool r0c5) ∧ ∃ r0c6 : Int, H32.cell ⟨x6b, 6, none⟩ = some (Value.int .u32 r0c6) ∧ ∃ r0c7 : Bool, H32.cell ⟨x6b, 7, none⟩ = some (Value.bool r0c7) ∧ ∃ r0c8 : Bool, H32.cell ⟨x6b, 8, none⟩ = some (Value.bool r0c8) ∧ ∃ r0c9 : Int, H32.cell ⟨x6b, 9, none⟩ = some (Value.int .u32 r0c9) ∧ ∃ r0c10 : Int, H32.cell ⟨x6b, 10, none⟩ = some (Value.int .u32 r0c10) ∧ ∃ (r0c11a : Option Addr) (r0c11n r0c11c : Nat), H32.cell ⟨x6b, 11, none⟩ = some (Value.slice r0c11a r0c11n r0c11c) ∧ ∃ (r0c12a : Option Addr) (r0c12n r0c12c : Nat), H32.cell ⟨x6b, 12, none⟩ = some (Value.slice r0c12a r0c12n r0c12c) ∧ ∃ r2c0 : Int, H32.cell ⟨x8b, 0, none⟩ = some (Value.int .i64 r2c0) ∧ ∃ r2c1 : Int, H32.cell ⟨x8b, 1, none⟩ = some (Value.int .i64 r2c1) ∧ ∃ (r2c2a : Option Addr) (r2c2n r2c2c : Nat), H32.cell ⟨x8b, 2, none⟩ = some (Value.slice r2c2a r2c2n r2c2c) ∧ R (Value.tuple ⟨[(Value.agg ⟨[(Value.int .i64 r0c0), (Value.slice r0c1a r0c1n r0c1c), (Value.int .u32 r0c2), (Value.bool r0c3), (Value.int .u32 r0c4), (Value.bool r0c5), (Value.int .u32 r0c6), (Value.bool r0c7), (Value.bool r0c8), (Value.int .u32 r0c9), (Value.int .u32 r0c10), (Value.slice r0c11a r0c11n r0c11c), (Value.slice r0c12a r0c12n r0c12c)]⟩), (Value.int .i64 x76), (Value.agg ⟨[(Value.int .i64 r2c0), (Value.int .i64 r2c1), (Value.slice r2c2a r2c2n r2c2c)]⟩)]⟩) H32)
 (FnW Tryd.prog f_zz53 ⟨[(Value.pointer (some ⟨x14b, 0, none⟩))]⟩ H16 fun x79v H33 =>
 x79v = (Value.tuple ⟨[]⟩) ∧
 ∃ bs : List Nat, (∀ b ∈ bs, ∃ o, H33 b = some o) ∧
 ∃ x83c0 : Int, H33.cell ⟨x14b, 0, none⟩ = some (Value.int .i64 x83c0) ∧ ∃ (x83c1a : Option Addr) (x83c1n x83c1c : Nat), H33.cell ⟨x14b, 1, none⟩ = some (Value.slice x83c1a x83c1n x83c1c) ∧ ∃ x83c2 : Int, H33.cell ⟨x14b, 2, none⟩ = some (Value.int .u32 x83c2) ∧ ∃ x83c3 : Bool, H33.cell ⟨x14b, 3, none⟩ = some (Value.bool x83c3) ∧ ∃ x83c4 : Int, H33.cell ⟨x14b, 4, none⟩ = some (Value.int .u32 x83c4) ∧ ∃ x83c5 : Bool, H33.cell ⟨x14b, 5, none⟩ = some (Value.bool x83c5) ∧ ∃ x83c6 : Int, H33.cell ⟨x14b, 6, none⟩ = some (Value.int .u32 x83c6) ∧ ∃ x83c7 : Bool, H33.cell ⟨x14b, 7, none⟩ = some (Value.bool x83c7) ∧ ∃ x83c8 : Bool, H33.cell ⟨x14b, 8, none⟩ = some (Value.bool x83c8) ∧ ∃ x83c9 : Int, H33.cell ⟨x14b, 9, none⟩ = some (Value.int .u32 x83c9) ∧ ∃ x83c10 : Int, H33.cell ⟨x14b, 10, none⟩ = some (Value.int .u32 x83c10) ∧ ∃ (x83c11a : Option Addr) (x83c11n x83c11c : Nat), H33.cell ⟨x14b, 11, none⟩ = some (Value.slice x83c11a x83c11n x83c11c) ∧ ∃ (x83c12a : Option Addr) (x83c12n x83c12c : Nat), H33.cell ⟨x14b, 12, none⟩ = some (Value.slice x83c12a x83c12n x83c12c) ∧ x14b ∈ bs ∧ ∃ x87 : Int, H33.cell ⟨x14b, 14, none⟩ = some (Value.int .i64 x87) ∧
 StCell H33 ⟨x6b, 0, none⟩ (Value.int .i64 x83c0) fun H34 =>
 StCell H34 ⟨x6b, 1, none⟩ (Value.slice x83c1a x83c1n x83c1c) fun H35 =>
 StCell H35 ⟨x6b, 2, none⟩ (Value.int .u32 x83c2) fun H36 =>
 StCell H36 ⟨x6b, 3, none⟩ (Value.bool x83c3) fun H37 =>
 StCell H37 ⟨x6b, 4, none⟩ (Value.int .u32 x83c4) fun H38 =>
 StCell H38 ⟨x6b, 5, none⟩ (Value.bool x83c5) fun H39 =>
 StCell H39 ⟨x6b, 6, none⟩ (Value.int .u32 x83c6) fun H40 =>
 StCell H40 ⟨x6b, 7, none⟩ (Value.bool x83c7) fun H41 =>
 StCell H41 ⟨x6b, 8, none⟩ (Value.bool x83c8) fun H42 =>
 StCell H42 ⟨x6b, 9, none⟩ (Value.int .u32 x83c9) fun H43 =>
 StCell H43 ⟨x6b, 10, none⟩ (Value.int .u32 x83c10) fun H44 =>
 StCell H44 ⟨x6b, 11, none⟩ (Value.slice x83c11a x83c11n x83c11c) fun H45 =>
 StCell H45 ⟨x6b, 12, none⟩ (Value.slice x83c12a x83c12n x83c12c) fun H46 =>
 KeptIn bs H33 H46 ∧ StCell H46 ⟨x8b, 0, none⟩ (Value.int .i64 0) fun H47 =>
 StCell H47 ⟨x8b, 1, none⟩ (Value.int .i64 0) fun H48 =>
 StCell H48 ⟨x8b, 2, none⟩ (Value.slice none 0 0) fun H49 =>
 ∃ r0c0_1 : Int, H49.cell ⟨x6b, 0, none⟩ = some (Value.int .i64 r0c0_1) ∧ ∃ (r0c1a_1 : Option Addr) (r0c1n_1 r0c1c_1 : Nat), H49.cell ⟨x6b, 1, none⟩ = some (Value.slice r0c1a_1 r0c1n_1 r0c1c_1) ∧ ∃ r0c2_1 : Int, H49.cell ⟨x6b, 2, none⟩ = some (Value.int .u32 r0c2_1) ∧ ∃ r0c3_1 : Bool, H49.cell ⟨x6b, 3, none⟩ = some (Value.bool r0c3_1) ∧ ∃ r0c4_1 : Int, H49.cell ⟨x6b, 4, none⟩ = some (Value.int .u32 r0c4_1) ∧ ∃ r0c5_1 : Bool, H49.cell ⟨x6b, 5, none⟩ = some (Value.bool r0c5_1) ∧ ∃ r0c6_1 : Int, H49.cell ⟨x6b, 6, none⟩ = some (Value.int .u32 r0c6_1) ∧ ∃ r0c7_1 : Bool, H49.cell ⟨x6b, 7, none⟩ = some (Value.bool r0c7_1) ∧ ∃ r0c8_1 : Bool, H49.cell ⟨x6b, 8, none⟩ = some (Value.bool r0c8_1) ∧ ∃ r0c9_1 : Int, H49.cell ⟨x6b, 9, none⟩ = some (Value.int .u32 r0c9_1) ∧ ∃ r0c10_1 : Int, H49.cell ⟨x6b, 10, none⟩ = some (Value.int .u32 r0c10_1) ∧ ∃ (r0c11a_1 : Option Addr) (r0c11n_1 r0c11c_1 : Nat), H49.cell ⟨x6b, 11, none⟩ = some (Value.slice r0c11a_1 r0c11n_1 r0c11c_1) ∧ ∃ (r0c12a_1 : Option Addr) (r0c12n_1 r0c12c_1 : Nat), H49.cell ⟨x6b, 12, none⟩ = some (Value.slice r0c12a_1 r0c12n_1 r0c12c_1) ∧ ∃ r2c0_1 : Int, H49.cell ⟨x8b, 0, none⟩ = some (Value.int .i64 r2c0_1) ∧ ∃ r2c1_1 : Int, H49.cell ⟨x8b, 1, none⟩ = some (Value.int .i64 r2c1_1) ∧ ∃ (r2c2a_1 : Option Addr) (r2c2n_1 r2c2c_1 : Nat), H49.cell ⟨x8b, 2, none⟩ = some (Value.slice r2c2a_1 r2c2n_1 r2c2c_1) ∧ R (Value.tuple ⟨[(Value.agg ⟨[(Value.int .i64 r0c0_1), (Value.slice r0c1a_1 r0c1n_1 r0c1c_1), (Value.int .u32 r0c2_1), (Value.bool r0c3_1), (Value.int .u32 r0c4_1), (Value.bool r0c5_1), (Value.int .u32 r0c6_1), (Value.bool r0c7_1), (Value.bool r0c8_1), (Value.int .u32 r0c9_1), (Value.int .u32 r0c10_1), (Value.slice r0c11a_1 r0c11n_1 r0c11c_1), (Value.slice r0c12a_1 r0c12n_1 r0c12c_1)]⟩), (Value.int .i64 x87), (Value.agg ⟨[(Value.int .i64 r2c0_1), (Value.int .i64 r2c1_1), (Value.slice r2c2a_1 r2c2n_1 r2c2c_1)]⟩)]⟩) H49)
def zz16_j2 (x6b : Nat) (x8b : Nat) (x14b : Nat) (next2 : ((Option Addr × Nat × Nat) × Unit) -> Heap -> Prop) (H15 : Heap) (R : Value -> Heap -> Prop) : Prop :=
 ∃ x70 : Int, H15.cell ⟨x14b, 14, none⟩ = some (Value.int .i64 x70) ∧
 zz16_j3 x6b x8b x14b x70 next2 H15 R
def zz16_j1 (x6b : Nat) (x8b : Nat) (x14b : Nat) (next2 : ((Option Addr × Nat × Nat) × Unit) -> Heap -> Prop) (x64 : Bool) (H13 : Heap) (R : Value -> Heap -> Prop) : Prop :=
 IfB x64
 (FnW Tryd.prog f_zz60 ⟨[(Value.pointer (some ⟨x14b, 0, none⟩)), (Value.int .i64 2)]⟩ H13 fun x66v H14 =>
 x66v = (Value.tuple ⟨[]⟩) ∧
 zz16_j2 x6b x8b x14b next2 H14 R)
 (zz16_j2 x6b x8b x14b next2 H13 R)
def zz16_j0 (told2 : Bool) (x6b : Nat) (x8b : Nat) (x14b : Nat) (next2 : ((Option Addr × Nat × Nat) × Unit) -> Heap -> Prop) (H12 : Heap) (R : Value -> Heap -> Prop) : Prop :=
 IfB told2
 (InB 1 256 fun x47i =>
 ∃ x48 : Bool, H12.cell ⟨x14b, 15 + x47i * 1, none⟩ = some (Value.bool x48) ∧
 IfB x48
 (InB 2 256 fun x53i =>
 ∃ x54 : Bool, H12.cell ⟨x14b, 15 + x53i * 1, none⟩ = some (Value.bool x54) ∧
 IfB x54
 (InB 3 256 fun x60i =>
 ∃ x61 : Bool, H12.cell ⟨x14b, 15 + x60i * 1, none⟩ = some (Value.bool x61) ∧
 zz16_j1 x6b x8b x14b next2 (!x61) H12 R)
 (zz16_j1 x6b x8b x14b next2 true H12 R))
 (zz16_j1 x6b x8b x14b next2 true H12 R))
 (zz16_j1 x6b x8b x14b next2 false H12 R)
def zz16_l2 (told2 : Bool) (x6b : Nat) (x8b : Nat) (x14b : Nat) (b0a_1 : Option Addr) (b0n_1 : Nat) (b0c_1 : Nat) (H4 : Heap) (next2 : ((Option Addr × Nat × Nat) × Unit) -> Heap -> Prop) (R : Value -> Heap -> Prop) : Prop :=
 IfB (decide (((b0n_1 : Int) : Int) > 0))
 (FnW Tryd.prog f_zz40 ⟨[(Value.slice b0a_1 b0n_1 b0c_1)]⟩ H4 fun x20v H5 =>
 ∃ x20r0c0 : Int, ∃ x20r0c1 : Int, ∃ (x20r0c2a : Option Addr) (x20r0c2n x20r0c2c : Nat), ∃ x20r0c3 : Int, ∃ x20r1 : Bool, x20v = (Value.tuple ⟨[(Value.agg ⟨[(Value.int .u8 x20r0c0), (Value.int .i64 x20r0c1), (Value.slice x20r0c2a x20r0c2n x20r0c2c), (Value.int .i64 x20r0c3)]⟩), (Value.bool x20r1)]⟩) ∧
 NewW H5 (Obj.cells ⟨[(Value.int .u8 0), (Value.int .i64 0), (Value.slice none 0 0), (Value.int .i64 0)]⟩ T_attr_piece) fun p10b H6 =>
 StCell H6 ⟨p10b, 0, none⟩ (Value.int .u8 x20r0c0) fun H7 =>
 StCell H7 ⟨p10b, 1, none⟩ (Value.int .i64 x20r0c1) fun H8 =>
 StCell H8 ⟨p10b, 2, none⟩ (Value.slice x20r0c2a x20r0c2n x20r0c2c) fun H9 =>
 StCell H9 ⟨p10b, 3, none⟩ (Value.int .i64 x20r0c3) fun H10 =>
 IfB (!x20r1)
 (FnW Tryd.prog f_zz60 ⟨[(Value.pointer (some ⟨x14b, 0, none⟩)), (Value.int .i64 2)]⟩ H10 fun x26v H11 =>
 x26v = (Value.tuple ⟨[]⟩) ∧
 zz16_j0 told2 x6b x8b x14b next2 H11 R)
 (∃ x28c0 : Int, H10.cell ⟨p10b, 0, none⟩ = some (Value.int .u8 x28c0) ∧ ∃ x28c1 : Int, H10.cell ⟨p10b, 1, none⟩ = some (Value.int .i64 x28c1) ∧ ∃ (x28c2a : Option Addr) (x28c2n x28c2c : Nat), H10.cell ⟨p10b, 2, none⟩ = some (Value.slice x28c2a x28c2n x28c2c) ∧ ∃ x28c3 : Int, H10.cell ⟨p10b, 3, none⟩ = some (Value.int .i64 x28c3) ∧ FnW Tryd.prog f_zz36 ⟨[(Value.pointer (some ⟨x14b, 0, none⟩)), (Value.agg ⟨[(Value.int .u8 x28c0), (Value.int .i64 x28c1), (Value.slice x28c2a x28c2n x28c2c), (Value.int .i64 x28c3)]⟩)]⟩ H10 fun x29v H50 =>
 ∃ x29 : Bool, x29v = (Value.bool x29) ∧
 IfB (!x29)
 (∃ x34 : Int, H50.cell ⟨p10b, 3, none⟩ = some (Value.int .i64 x34) ∧
 InC x34 b0c_1 fun x35h =>
 FnW Tryd.prog f_zz54 ⟨[(Value.slice b0a_1 x35h b0c_1)]⟩ H50 fun x36v H51 =>
 ∃ (x36a : Option Addr) (x36n x36c : Nat), x36v = (Value.slice x36a x36n x36c) ∧
 StCell H51 ⟨x6b, 0, none⟩ (Value.int .i64 0) fun H52 =>
 StCell H52 ⟨x6b, 1, none⟩ (Value.slice none 0 0) fun H53 =>
 StCell H53 ⟨x6b, 2, none⟩ (Value.int .u32 0) fun H54 =>
 StCell H54 ⟨x6b, 3, none⟩ (Value.bool false) fun H55 =>
 StCell H55 ⟨x6b, 4, none⟩ (Value.int .u32 0) fun H56 =>
 StCell H56 ⟨x6b, 5, none⟩ (Value.bool false) fun H57 =>
 StCell H57 ⟨x6b, 6, none⟩ (Value.int .u32 0) fun H58 =>
 StCell H58 ⟨x6b, 7, none⟩ (Value.bool false) fun H59 =>
 StCell H59 ⟨x6b, 8, none⟩ (Value.bool false) fun H60 =>
 StCell H60 ⟨x6b, 9, none⟩ (Value.int .u32 0) fun H61 =>
 StCell H61 ⟨x6b, 10, none⟩ (Value.int .u32 0) fun H62 =>
 StCell H62 ⟨x6b, 11, none⟩ (Value.slice none 0 0) fun H63 =>
 StCell H63 ⟨x6b, 12, none⟩ (Value.slice none 0 0) fun H64 =>
 StCell H64 ⟨x8b, 0, none⟩ (Value.int .i64 3) fun H65 =>
 StCell H65 ⟨x8b, 1, none⟩ (Value.int .i64 2) fun H66 =>
 StCell H66 ⟨x8b, 2, none⟩ (Value.slice x36a x36n x36c) fun H67 =>
 ∃ r0c0_2 : Int, H67.cell ⟨x6b, 0, none⟩ = some (Value.int .i64 r0c0_2) ∧ ∃ (r0c1a_2 : Option Addr) (r0c1n_2 r0c1c_2 : Nat), H67.cell ⟨x6b, 1, none⟩ = some (Value.slice r0c1a_2 r0c1n_2 r0c1c_2) ∧ ∃ r0c2_2 : Int, H67.cell ⟨x6b, 2, none⟩ = some (Value.int .u32 r0c2_2) ∧ ∃ r0c3_2 : Bool, H67.cell ⟨x6b, 3, none⟩ = some (Value.bool r0c3_2) ∧ ∃ r0c4_2 : Int, H67.cell ⟨x6b, 4, none⟩ = some (Value.int .u32 r0c4_2) ∧ ∃ r0c5_2 : Bool, H67.cell ⟨x6b, 5, none⟩ = some (Value.bool r0c5_2) ∧ ∃ r0c6_2 : Int, H67.cell ⟨x6b, 6, none⟩ = some (Value.int .u32 r0c6_2) ∧ ∃ r0c7_2 : Bool, H67.cell ⟨x6b, 7, none⟩ = some (Value.bool r0c7_2) ∧ ∃ r0c8_2 : Bool, H67.cell ⟨x6b, 8, none⟩ = some (Value.bool r0c8_2) ∧ ∃ r0c9_2 : Int, H67.cell ⟨x6b, 9, none⟩ = some (Value.int .u32 r0c9_2) ∧ ∃ r0c10_2 : Int, H67.cell ⟨x6b, 10, none⟩ = some (Value.int .u32 r0c10_2) ∧ ∃ (r0c11a_2 : Option Addr) (r0c11n_2 r0c11c_2 : Nat), H67.cell ⟨x6b, 11, none⟩ = some (Value.slice r0c11a_2 r0c11n_2 r0c11c_2) ∧ ∃ (r0c12a_2 : Option Addr) (r0c12n_2 r0c12c_2 : Nat), H67.cell ⟨x6b, 12, none⟩ = some (Value.slice r0c12a_2 r0c12n_2 r0c12c_2) ∧ ∃ r2c0_2 : Int, H67.cell ⟨x8b, 0, none⟩ = some (Value.int .i64 r2c0_2) ∧ ∃ r2c1_2 : Int, H67.cell ⟨x8b, 1, none⟩ = some (Value.int .i64 r2c1_2) ∧ ∃ (r2c2a_2 : Option Addr) (r2c2n_2 r2c2c_2 : Nat), H67.cell ⟨x8b, 2, none⟩ = some (Value.slice r2c2a_2 r2c2n_2 r2c2c_2) ∧ R (Value.tuple ⟨[(Value.agg ⟨[(Value.int .i64 r0c0_2), (Value.slice r0c1a_2 r0c1n_2 r0c1c_2), (Value.int .u32 r0c2_2), (Value.bool r0c3_2), (Value.int .u32 r0c4_2), (Value.bool r0c5_2), (Value.int .u32 r0c6_2), (Value.bool r0c7_2), (Value.bool r0c8_2), (Value.int .u32 r0c9_2), (Value.int .u32 r0c10_2), (Value.slice r0c11a_2 r0c11n_2 r0c11c_2), (Value.slice r0c12a_2 r0c12n_2 r0c12c_2)]⟩), (Value.int .i64 3), (Value.agg ⟨[(Value.int .i64 r2c0_2), (Value.int .i64 r2c1_2), (Value.slice r2c2a_2 r2c2n_2 r2c2c_2)]⟩)]⟩) H67)
 (∃ x40 : Int, H50.cell ⟨p10b, 3, none⟩ = some (Value.int .i64 x40) ∧
 InC x40 b0n_1 fun x41l =>
 next2 (((if b0c_1 = x41l then b0a_1 else Option.map (fun a => Addr.add a (x41l * 1)) b0a_1), b0n_1 - x41l, b0c_1 - x41l), ()) H50)))
 (zz16_j0 told2 x6b x8b x14b next2 H4 R)
def zz16_p (b0a : Option Addr) (b0n : Nat) (b0c : Nat) (four1 : Bool) (told2 : Bool) (H : Heap) (R : Value -> Heap -> Prop) : Prop :=
 NewW H (Obj.cells ⟨[(Value.int .i64 0), (Value.slice none 0 0), (Value.int .u32 0), (Value.bool false), (Value.int .u32 0), (Value.bool false), (Value.int .u32 0), (Value.bool false), (Value.bool false), (Value.int .u32 0), (Value.int .u32 0), (Value.slice none 0 0), (Value.slice none 0 0)]⟩ T_api_Attrs) fun x6b H1 =>
 NewW H1 (Obj.cells ⟨[(Value.int .i64 0), (Value.int .i64 0), (Value.slice none 0 0)]⟩ T_api_Fault) fun x8b H2 =>
 NewW H2 (Obj.cells ⟨(setL zl_T_attr_reader 13 [(Value.bool four1)])⟩ T_attr_reader) fun x14b H3 =>
 LoopI ((Option Addr × Nat × Nat) × Unit) ((b0a, b0n, b0c), ()) H3 fun x H next => ∀ _g : Env, zz16_l2 told2 x6b x8b x14b x.1.1 x.1.2.1 x.1.2.2 H next R
theorem zz16_heq (b0a : Option Addr) (b0n : Nat) (b0c : Nat) (four1 : Bool) (told2 : Bool) (H : Heap) (R : Value -> Heap -> Prop) : zz16_p b0a b0n b0c four1 told2 H R = CodeW Tryd.prog hplan_zz16 (bodyOf Tryd.f16) (env0 [(Value.slice b0a b0n b0c), (Value.bool four1), (Value.bool told2)]) H (RetW Tryd.prog Tryd.f16.results.toList R) := by kernel_rfl
theorem zz16_sh (b0a : Option Addr) (b0n : Nat) (b0c : Nat) (four1 : Bool) (told2 : Bool) {H : Heap} {R : Value -> Heap -> Prop} (h : zz16_p b0a b0n b0c four1 told2 H fun v H1 => ∀ H2, Shut H H1 H2 -> R v H2) : FnW Tryd.prog f_zz16 ⟨[(Value.slice b0a b0n b0c), (Value.bool four1), (Value.bool told2)]⟩ H R := FnW.of_code hk_zz16 (by kernel_rfl) (Eq.mp (zz16_heq b0a b0n b0c four1 told2 H _) h)
def hplan_zz60 : Plan := ⟨[], [], [], []⟩
theorem hk_zz60 : Known Tryd.prog f_zz60 Tryd.f27 hplan_zz60 (bodyOf Tryd.f27) := by refine ⟨Tryd.func27, ?_, ?_, ?_, ?_, ?_⟩ <;> kernel_rfl
def zz60_p (r0b : Nat) (worth1 : Int) (H : Heap) (R : Value -> Heap -> Prop) : Prop :=
 ∃ x8 : Int, H.cell ⟨r0b, 14, none⟩ = some (Value.int .i64 x8) ∧
 StCell H ⟨r0b, 14, none⟩ (Value.int .i64 (max x8 worth1)) fun H1 =>
 R (Value.tuple ⟨[]⟩) H1
theorem zz60_heq (r0b : Nat) (worth1 : Int) (H : Heap) (R : Value -> Heap -> Prop) : zz60_p r0b worth1 H R = CodeW Tryd.prog hplan_zz60 (bodyOf Tryd.f27) (env0 [(Value.pointer (some ⟨r0b, 0, none⟩)), (Value.int .i64 worth1)]) H (RetW Tryd.prog Tryd.f27.results.toList R) := by kernel_rfl
theorem zz60_sh (r0b : Nat) (worth1 : Int) {H : Heap} {R : Value -> Heap -> Prop} (h : zz60_p r0b worth1 H fun v H1 => ∀ H2, Shut H H1 H2 -> R v H2) : FnW Tryd.prog f_zz60 ⟨[(Value.pointer (some ⟨r0b, 0, none⟩)), (Value.int .i64 worth1)]⟩ H R := FnW.of_code hk_zz60 (by kernel_rfl) (Eq.mp (zz60_heq r0b worth1 H _) h)
def hplan_zz36 : Plan := ⟨[], [], [], []⟩
theorem hk_zz36 : Known Tryd.prog f_zz36 Tryd.f28 hplan_zz36 (bodyOf Tryd.f28) := by refine ⟨Tryd.func28, ?_, ?_, ?_, ?_, ?_⟩ <;> kernel_rfl
def zz36_j2 (H8 : Heap) (R : Value -> Heap -> Prop) : Prop :=
 R (Value.bool true) H8
def zz36_j4 (r0b : Nat) (x74 : Bool) (H12 : Heap) (R : Value -> Heap -> Prop) : Prop :=
 IfB (!x74)
 (FnW Tryd.prog f_zz60 ⟨[(Value.pointer (some ⟨r0b, 0, none⟩)), (Value.int .i64 1)]⟩ H12 fun x77v H13 =>
 x77v = (Value.tuple ⟨[]⟩) ∧
 R (Value.bool true) H13)
 (R (Value.bool true) H12)
def zz36_j5 (r0b : Nat) (x63 : Bool) (H15 : Heap) (R : Value -> Heap -> Prop) : Prop :=
 IfB (!x63)
 (FnW Tryd.prog f_zz60 ⟨[(Value.pointer (some ⟨r0b, 0, none⟩)), (Value.int .i64 2)]⟩ H15 fun x66v H16 =>
 x66v = (Value.tuple ⟨[]⟩) ∧
 R (Value.bool true) H16)
 (R (Value.bool true) H15)
def zz36_j3 (r0b : Nat) (p3b : Nat) (x67 : Bool) (H10 : Heap) (R : Value -> Heap -> Prop) : Prop :=
 IfB x67
 (∃ x73c0 : Int, H10.cell ⟨p3b, 0, none⟩ = some (Value.int .u8 x73c0) ∧ ∃ x73c1 : Int, H10.cell ⟨p3b, 1, none⟩ = some (Value.int .i64 x73c1) ∧ ∃ (x73c2a : Option Addr) (x73c2n x73c2c : Nat), H10.cell ⟨p3b, 2, none⟩ = some (Value.slice x73c2a x73c2n x73c2c) ∧ ∃ x73c3 : Int, H10.cell ⟨p3b, 3, none⟩ = some (Value.int .i64 x73c3) ∧ FnW Tryd.prog f_zz61 ⟨[(Value.pointer (some ⟨r0b, 0, none⟩)), (Value.agg ⟨[(Value.int .u8 x73c0), (Value.int .i64 x73c1), (Value.slice x73c2a x73c2n x73c2c), (Value.int .i64 x73c3)]⟩)]⟩ H10 fun x74v H11 =>
 ∃ x74 : Bool, x74v = (Value.bool x74) ∧
 zz36_j4 r0b x74 H11 R)
 (∃ x62c0 : Int, H10.cell ⟨p3b, 0, none⟩ = some (Value.int .u8 x62c0) ∧ ∃ x62c1 : Int, H10.cell ⟨p3b, 1, none⟩ = some (Value.int .i64 x62c1) ∧ ∃ (x62c2a : Option Addr) (x62c2n x62c2c : Nat), H10.cell ⟨p3b, 2, none⟩ = some (Value.slice x62c2a x62c2n x62c2c) ∧ ∃ x62c3 : Int, H10.cell ⟨p3b, 3, none⟩ = some (Value.int .i64 x62c3) ∧ FnW Tryd.prog f_zz58 ⟨[(Value.pointer (some ⟨r0b, 0, none⟩)), (Value.agg ⟨[(Value.int .u8 x62c0), (Value.int .i64 x62c1), (Value.slice x62c2a x62c2n x62c2c), (Value.int .i64 x62c3)]⟩)]⟩ H10 fun x63v H14 =>
 ∃ x63 : Bool, x63v = (Value.bool x63) ∧
 zz36_j5 r0b x63 H14 R)
def zz36_j1 (r0b : Nat) (p3b : Nat) (x25r0 : Int) (x25r1 : Bool) (x37 : Bool) (H6 : Heap) (R : Value -> Heap -> Prop) : Prop :=
 IfB x37
 (∃ x55c0 : Int, H6.cell ⟨p3b, 0, none⟩ = some (Value.int .u8 x55c0) ∧ ∃ x55c1 : Int, H6.cell ⟨p3b, 1, none⟩ = some (Value.int .i64 x55c1) ∧ ∃ (x55c2a : Option Addr) (x55c2n x55c2c : Nat), H6.cell ⟨p3b, 2, none⟩ = some (Value.slice x55c2a x55c2n x55c2c) ∧ ∃ x55c3 : Int, H6.cell ⟨p3b, 3, none⟩ = some (Value.int .i64 x55c3) ∧ FnW Tryd.prog f_zz56 ⟨[(Value.pointer (some ⟨r0b, 0, none⟩)), (Value.agg ⟨[(Value.int .u8 x55c0), (Value.int .i64 x55c1), (Value.slice x55c2a x55c2n x55c2c), (Value.int .i64 x55c3)]⟩)]⟩ H6 fun x56v H7 =>
 x56v = (Value.tuple ⟨[]⟩) ∧
 zz36_j2 H7 R)
 (IfB (!x25r1)
 (zz36_j2 H6 R)
 (∃ x52 : Int, H6.cell ⟨p3b, 0, none⟩ = some (Value.int .u8 x52) ∧
 IfB ((x25r0 : Int) != x52)
 (FnW Tryd.prog f_zz60 ⟨[(Value.pointer (some ⟨r0b, 0, none⟩)), (Value.int .i64 2)]⟩ H6 fun x58v H9 =>
 x58v = (Value.tuple ⟨[]⟩) ∧
 R (Value.bool true) H9)
 (∃ x60 : Int, H6.cell ⟨p3b, 1, none⟩ = some (Value.int .i64 x60) ∧
 IfB ((x60 : Int) == 6)
 (zz36_j3 r0b p3b ((x60 : Int) == 6) H6 R)
 (IfB ((x60 : Int) == 7)
 (zz36_j3 r0b p3b ((x60 : Int) == 7) H6 R)
 (IfB ((x60 : Int) == 17)
 (zz36_j3 r0b p3b ((x60 : Int) == 17) H6 R)
 (zz36_j3 r0b p3b ((x60 : Int) == 18) H6 R))))))
def zz36_j0 (r0b : Nat) (p3b : Nat) (x25r0 : Int) (x25r1 : Bool) (x28 : Bool) (H5 : Heap) (R : Value -> Heap -> Prop) : Prop :=
 IfB x28
 (R (Value.bool false) H5)
 (IfB (!x25r1)
 (∃ x42 : Int, H5.cell ⟨p3b, 0, none⟩ = some (Value.int .u8 x42) ∧
 zz36_j1 r0b p3b x25r0 x25r1 (((bitsAnd .u8 x42 64) : Int) != 0) H5 R)
 (zz36_j1 r0b p3b x25r0 x25r1 false H5 R))
def zz36_p (r0b : Nat) (p1c0 : Int) (p1c1 : Int) (p1c2a : Option Addr) (p1c2n : Nat) (p1c2c : Nat) (p1c3 : Int) (H : Heap) (R : Value -> Heap -> Prop) : Prop :=
 NewW H (Obj.cells ⟨[(Value.int .u8 p1c0), (Value.int .i64 p1c1), (Value.slice p1c2a p1c2n p1c2c), (Value.int .i64 p1c3)]⟩ T_attr_piece) fun p3b H1 =>
 ∃ x9 : Int, H1.cell ⟨p3b, 1, none⟩ = some (Value.int .i64 x9) ∧
 InB x9 256 fun x12i =>
 ∃ x13 : Bool, H1.cell ⟨r0b, 15 + x12i * 1, none⟩ = some (Value.bool x13) ∧
 IfB x13
 (FnW Tryd.prog f_zz60 ⟨[(Value.pointer (some ⟨r0b, 0, none⟩)), (Value.int .i64 1)]⟩ H1 fun x15v H2 =>
 x15v = (Value.tuple ⟨[]⟩) ∧
 R (Value.bool true) H2)
 (∃ x18 : Int, H1.cell ⟨p3b, 1, none⟩ = some (Value.int .i64 x18) ∧
 InB x18 256 fun x21i =>
 StCell H1 ⟨r0b, 15 + x21i * 1, none⟩ (Value.bool true) fun H3 =>
 ∃ x24 : Int, H3.cell ⟨p3b, 1, none⟩ = some (Value.int .i64 x24) ∧
 FnW Tryd.prog f_zz5 ⟨[(Value.int .i64 x24)]⟩ H3 fun x25v H4 =>
 ∃ x25r0 : Int, ∃ x25r1 : Bool, x25v = (Value.tuple ⟨[(Value.int .u8 x25r0), (Value.bool x25r1)]⟩) ∧
 IfB (!x25r1)
 (∃ x33 : Int, H4.cell ⟨p3b, 0, none⟩ = some (Value.int .u8 x33) ∧
 zz36_j0 r0b p3b x25r0 x25r1 (((bitsAnd .u8 x33 128) : Int) == 0) H4 R)
 (zz36_j0 r0b p3b x25r0 x25r1 false H4 R))
theorem zz36_heq (r0b : Nat) (p1c0 : Int) (p1c1 : Int) (p1c2a : Option Addr) (p1c2n : Nat) (p1c2c : Nat) (p1c3 : Int) (H : Heap) (R : Value -> Heap -> Prop) : zz36_p r0b p1c0 p1c1 p1c2a p1c2n p1c2c p1c3 H R = CodeW Tryd.prog hplan_zz36 (bodyOf Tryd.f28) (env0 [(Value.pointer (some ⟨r0b, 0, none⟩)), (Value.agg ⟨[(Value.int .u8 p1c0), (Value.int .i64 p1c1), (Value.slice p1c2a p1c2n p1c2c), (Value.int .i64 p1c3)]⟩)]) H (RetW Tryd.prog Tryd.f28.results.toList R) := by kernel_rfl
theorem zz36_sh (r0b : Nat) (p1c0 : Int) (p1c1 : Int) (p1c2a : Option Addr) (p1c2n : Nat) (p1c2c : Nat) (p1c3 : Int) {H : Heap} {R : Value -> Heap -> Prop} (h : zz36_p r0b p1c0 p1c1 p1c2a p1c2n p1c2c p1c3 H fun v H1 => ∀ H2, Shut H H1 H2 -> R v H2) : FnW Tryd.prog f_zz36 ⟨[(Value.pointer (some ⟨r0b, 0, none⟩)), (Value.agg ⟨[(Value.int .u8 p1c0), (Value.int .i64 p1c1), (Value.slice p1c2a p1c2n p1c2c), (Value.int .i64 p1c3)]⟩)]⟩ H R := FnW.of_code hk_zz36 (by kernel_rfl) (Eq.mp (zz36_heq r0b p1c0 p1c1 p1c2a p1c2n p1c2c p1c3 H _) h)
def hplan_zz53 : Plan := ⟨[(2, [0, 1, 2, 3, 4, 5, 7, 8, 9, 10, 11, 6, 12, 13, 14, 15, 16, 17, 18, 19, 20], [1000000, 38])], [], [], []⟩
theorem hk_zz53 : Known Tryd.prog f_zz53 Tryd.f30 hplan_zz53 (bodyOf Tryd.f30) := by refine ⟨Tryd.func30, ?_, ?_, ?_, ?_, ?_⟩ <;> kernel_rfl
def zz53_j2 (r0b : Nat) (H7 : Heap) (R : Value -> Heap -> Prop) : Prop :=
 ∃ x50 : Bool, H7.cell ⟨r0b, 273, none⟩ = some (Value.bool x50) ∧
 IfB (!x50)
 (R (Value.tuple ⟨[]⟩) H7)
 (∃ (x56a : Option Addr) (x56n x56c : Nat), H7.cell ⟨r0b, 1, none⟩ = some (Value.slice x56a x56n x56c) ∧
 ∃ (x60a : Option Addr) (x60n x60c : Nat), H7.cell ⟨r0b, 271, none⟩ = some (Value.slice x60a x60n x60c) ∧
 FnW Tryd.prog f_zz33 ⟨[(Value.slice x56a x56n x56c), (Value.slice x60a x60n x60c)]⟩ H7 fun x61v H8 =>
 ∃ (x61a : Option Addr) (x61n x61c : Nat), x61v = (Value.slice x61a x61n x61c) ∧
 FnW Tryd.prog f_zz8 ⟨[(Value.slice x61a x61n x61c)]⟩ H8 fun x63v H9 =>
 ∃ x63 : Int, x63v = (Value.int .i64 x63) ∧
 IfB ((x63 : Int) == 0)
 (StCell H9 ⟨r0b, 1, none⟩ (Value.slice x61a x61n x61c) fun H10 =>
 R (Value.tuple ⟨[]⟩) H10)
 (R (Value.tuple ⟨[]⟩) H9))
def zz53_j1 (r0b : Nat) (x27 : Bool) (H2 : Heap) (R : Value -> Heap -> Prop) : Prop :=
 IfB x27
 (∃ bs : List Nat, (∀ b ∈ bs, ∃ o, H2 b = some o) ∧
 ∃ (x33a : Option Addr) (x33n x33c : Nat), H2.cell ⟨r0b, 272, none⟩ = some (Value.slice x33a x33n x33c) ∧
 r0b ∈ bs ∧ ∃ (x38a : Option Addr) (x38n x38c : Nat), H2.cell ⟨r0b, 272, none⟩ = some (Value.slice x38a x38n x38c) ∧
 InC 4 x38n fun x39l =>
 FnW Tryd.prog f_zz51 ⟨[(Value.slice x33a x33n x33c)]⟩ H2 fun x34v H3 =>
 ∃ x34 : Int, x34v = (Value.int .u32 x34) ∧
 KeptIn bs H2 H3 ∧ FnW Tryd.prog f_zz51 ⟨[(Value.slice (if x38c = x39l then x38a else Option.map (fun a => Addr.add a (x39l * 1)) x38a) (x38n - x39l) (x38c - x39l))]⟩ H3 fun x40v H4 =>
 ∃ x40 : Int, x40v = (Value.int .u32 x40) ∧
 KeptIn bs H2 H4 ∧ StCell H4 ⟨r0b, 9, none⟩ (Value.int .u32 x34) fun H5 =>
 StCell H5 ⟨r0b, 10, none⟩ (Value.int .u32 x40) fun H6 =>
 zz53_j2 r0b H6 R)
 (zz53_j2 r0b H2 R)
def zz53_j0 (r0b : Nat) (x15 : Bool) (H1 : Heap) (R : Value -> Heap -> Prop) : Prop :=
 IfB x15
 (R (Value.tuple ⟨[]⟩) H1)
 (∃ x20 : Bool, H1.cell ⟨r0b, 8, none⟩ = some (Value.bool x20) ∧
 IfB x20
 (∃ (x25a : Option Addr) (x25n x25c : Nat), H1.cell ⟨r0b, 272, none⟩ = some (Value.slice x25a x25n x25c) ∧
 zz53_j1 r0b (!x25a.isNone) H1 R)
 (zz53_j1 r0b false H1 R))
def zz53_p (r0b : Nat) (H : Heap) (R : Value -> Heap -> Prop) : Prop :=
 ∃ x7 : Bool, H.cell ⟨r0b, 8, none⟩ = some (Value.bool x7) ∧
 IfB x7
 (∃ x13 : Int, H.cell ⟨r0b, 9, none⟩ = some (Value.int .u32 x13) ∧
 zz53_j0 r0b ((x13 : Int) != 23456) H R)
 (zz53_j0 r0b false H R)
theorem zz53_heq (r0b : Nat) (H : Heap) (R : Value -> Heap -> Prop) : zz53_p r0b H R = CodeW Tryd.prog hplan_zz53 (bodyOf Tryd.f30) (env0 [(Value.pointer (some ⟨r0b, 0, none⟩))]) H (RetW Tryd.prog Tryd.f30.results.toList R) := by kernel_rfl
theorem zz53_sh (r0b : Nat) {H : Heap} {R : Value -> Heap -> Prop} (h : zz53_p r0b H fun v H1 => ∀ H2, Shut H H1 H2 -> R v H2) : FnW Tryd.prog f_zz53 ⟨[(Value.pointer (some ⟨r0b, 0, none⟩))]⟩ H R := FnW.of_code hk_zz53 (by kernel_rfl) (Eq.mp (zz53_heq r0b H _) h)
def hplan_zz56 : Plan := ⟨[(6, [0, 1, 2, 3, 4, 5, 6, 7, 8, 9, 10, 11, 12, 13, 14, 15, 16, 17, 18], [40, 43])], [], [], []⟩
theorem hk_zz56 : Known Tryd.prog f_zz56 Tryd.f46 hplan_zz56 (bodyOf Tryd.f46) := by refine ⟨Tryd.func46, ?_, ?_, ?_, ?_, ?_⟩ <;> kernel_rfl
def zz56_j1 (r0b : Nat) (p3b : Nat) (k4 : Int) (H5 : Heap) (R : Value -> Heap -> Prop) : Prop :=
 ∃ bs : List Nat, (∀ b ∈ bs, ∃ o, H5 b = some o) ∧
 r0b ∈ bs ∧ ∃ (x40a : Option Addr) (x40n x40c : Nat), H5.cell ⟨r0b, 12, none⟩ = some (Value.slice x40a x40n x40c) ∧
 p3b ∈ bs ∧ ∃ x43 : Int, H5.cell ⟨p3b, 1, none⟩ = some (Value.int .i64 x43) ∧
 ∃ (x45a : Option Addr) (x45n x45c : Nat), H5.cell ⟨p3b, 2, none⟩ = some (Value.slice x45a x45n x45c) ∧
 FnW Tryd.prog f_zz54 ⟨[(Value.slice x45a x45n x45c)]⟩ H5 fun x46v H6 =>
 ∃ (x46a : Option Addr) (x46n x46c : Nat), x46v = (Value.slice x46a x46n x46c) ∧
 KeptIn bs H5 H6 ∧ NewW H6 (Obj.cells ⟨[(Value.int .i64 x43), (Value.slice x46a x46n x46c)]⟩ T_api_Raw) fun x48b H7 =>
 FnW Tryd.prog f_zz64 ⟨[(Value.slice x40a x40n x40c), (Value.int .i64 k4), (Value.slice (some ⟨x48b, 0, none⟩) 1 1)]⟩ H7 fun x49v H8 =>
 ∃ (x49a : Option Addr) (x49n x49c : Nat), x49v = (Value.slice x49a x49n x49c) ∧
 KeptIn bs H5 H8 ∧ StCell H8 ⟨r0b, 12, none⟩ (Value.slice x49a x49n x49c) fun H9 =>
 R (Value.tuple ⟨[]⟩) H9
def zz56_j0 (r0b : Nat) (p3b : Nat) (x17 : Bool) (H2 : Heap) (R : Value -> Heap -> Prop) : Prop :=
 IfB x17
 (FnW Tryd.prog f_zz60 ⟨[(Value.pointer (some ⟨r0b, 0, none⟩)), (Value.int .i64 1)]⟩ H2 fun x19v H3 =>
 x19v = (Value.tuple ⟨[]⟩) ∧
 R (Value.tuple ⟨[]⟩) H3)
 (∃ (x24a : Option Addr) (x24n x24c : Nat), H2.cell ⟨r0b, 12, none⟩ = some (Value.slice x24a x24n x24c) ∧
 FnW Tryd.prog f_zz62 ⟨[(Value.slice x24a x24n x24c), (Value.func (.func f_zz63) #[] #[(Value.pointer (some ⟨p3b, 0, none⟩))])]⟩ H2 fun x26v H4 =>
 ∃ x26 : Int, x26v = (Value.int .i64 x26) ∧
 IfB (decide ((x26 : Int) < 0))
 (∃ (x33a : Option Addr) (x33n x33c : Nat), H4.cell ⟨r0b, 12, none⟩ = some (Value.slice x33a x33n x33c) ∧
 zz56_j1 r0b p3b (x33n : Int) H4 R)
 (zz56_j1 r0b p3b x26 H4 R))
def zz56_p (r0b : Nat) (p1c0 : Int) (p1c1 : Int) (p1c2a : Option Addr) (p1c2n : Nat) (p1c2c : Nat) (p1c3 : Int) (H : Heap) (R : Value -> Heap -> Prop) : Prop :=
 NewW H (Obj.cells ⟨[(Value.int .u8 p1c0), (Value.int .i64 p1c1), (Value.slice p1c2a p1c2n p1c2c), (Value.int .i64 p1c3)]⟩ T_attr_piece) fun p3b H1 =>
 ∃ (x9a : Option Addr) (x9n x9c : Nat), H1.cell ⟨r0b, 12, none⟩ = some (Value.slice x9a x9n x9c) ∧
 IfB (decide (((x9n : Int) : Int) ≥ 8))
 (zz56_j0 r0b p3b true H1 R)
 (∃ (x14a : Option Addr) (x14n x14c : Nat), H1.cell ⟨p3b, 2, none⟩ = some (Value.slice x14a x14n x14c) ∧
 zz56_j0 r0b p3b (decide (((x14n : Int) : Int) > 255)) H1 R)
theorem zz56_heq (r0b : Nat) (p1c0 : Int) (p1c1 : Int) (p1c2a : Option Addr) (p1c2n : Nat) (p1c2c : Nat) (p1c3 : Int) (H : Heap) (R : Value -> Heap -> Prop) : zz56_p r0b p1c0 p1c1 p1c2a p1c2n p1c2c p1c3 H R = CodeW Tryd.prog hplan_zz56 (bodyOf Tryd.f46) (env0 [(Value.pointer (some ⟨r0b, 0, none⟩)), (Value.agg ⟨[(Value.int .u8 p1c0), (Value.int .i64 p1c1), (Value.slice p1c2a p1c2n p1c2c), (Value.int .i64 p1c3)]⟩)]) H (RetW Tryd.prog Tryd.f46.results.toList R) := by kernel_rfl
theorem zz56_sh (r0b : Nat) (p1c0 : Int) (p1c1 : Int) (p1c2a : Option Addr) (p1c2n : Nat) (p1c2c : Nat) (p1c3 : Int) {H : Heap} {R : Value -> Heap -> Prop} (h : zz56_p r0b p1c0 p1c1 p1c2a p1c2n p1c2c p1c3 H fun v H1 => ∀ H2, Shut H H1 H2 -> R v H2) : FnW Tryd.prog f_zz56 ⟨[(Value.pointer (some ⟨r0b, 0, none⟩)), (Value.agg ⟨[(Value.int .u8 p1c0), (Value.int .i64 p1c1), (Value.slice p1c2a p1c2n p1c2c), (Value.int .i64 p1c3)]⟩)]⟩ H R := FnW.of_code hk_zz56 (by kernel_rfl) (Eq.mp (zz56_heq r0b p1c0 p1c1 p1c2a p1c2n p1c2c p1c3 H _) h)
def hplan_zz61 : Plan := ⟨[], [], [], []⟩
theorem hk_zz61 : Known Tryd.prog f_zz61 Tryd.f47 hplan_zz61 (bodyOf Tryd.f47) := by refine ⟨Tryd.func47, ?_, ?_, ?_, ?_, ?_⟩ <;> kernel_rfl
def zz61_j0 (r0b : Nat) (x9a : Option Addr) (x9n : Nat) (x9c : Nat) (x60 : Bool) (H7 : Heap) (R : Value -> Heap -> Prop) : Prop :=
 IfB x60
 (R (Value.bool false) H7)
 (StCell H7 ⟨r0b, 272, none⟩ (Value.slice x9a x9n x9c) fun H8 =>
 R (Value.bool true) H8)
def zz61_p (r0b : Nat) (p1c0 : Int) (p1c1 : Int) (p1c2a : Option Addr) (p1c2n : Nat) (p1c2c : Nat) (p1c3 : Int) (H : Heap) (R : Value -> Heap -> Prop) : Prop :=
 NewW H (Obj.cells ⟨[(Value.int .u8 p1c0), (Value.int .i64 p1c1), (Value.slice p1c2a p1c2n p1c2c), (Value.int .i64 p1c3)]⟩ T_attr_piece) fun p3b H1 =>
 ∃ (x9a : Option Addr) (x9n x9c : Nat), H1.cell ⟨p3b, 2, none⟩ = some (Value.slice x9a x9n x9c) ∧
 ∃ x11 : Int, H1.cell ⟨p3b, 1, none⟩ = some (Value.int .i64 x11) ∧
 IfB ((x11 : Int) == 6)
 (StCell H1 ⟨r0b, 7, none⟩ (Value.bool (((x9n : Int) : Int) == 0)) fun H2 =>
 ∃ x25 : Bool, H2.cell ⟨r0b, 7, none⟩ = some (Value.bool x25) ∧
 R (Value.bool x25) H2)
 (IfB ((x11 : Int) == 7)
 (FnW Tryd.prog f_zz59 ⟨[(Value.pointer (some ⟨r0b, 0, none⟩)), (Value.slice x9a x9n x9c)]⟩ H1 fun x30v H3 =>
 ∃ x30 : Bool, x30v = (Value.bool x30) ∧
 R (Value.bool x30) H3)
 (IfB ((x11 : Int) == 17)
 (∃ x36 : Bool, H1.cell ⟨r0b, 13, none⟩ = some (Value.bool x36) ∧
 IfB x36
 (R (Value.bool true) H1)
 (FnW Tryd.prog f_zz3 ⟨[(Value.slice x9a x9n x9c), (Value.bool true)]⟩ H1 fun x39v H4 =>
 ∃ (x39r0a : Option Addr) (x39r0n x39r0c : Nat), ∃ x39r1 : Int, x39v = (Value.tuple ⟨[(Value.slice x39r0a x39r0n x39r0c), (Value.int .i64 x39r1)]⟩) ∧
 StCell H4 ⟨r0b, 271, none⟩ (Value.slice x39r0a x39r0n x39r0c) fun H5 =>
 StCell H5 ⟨r0b, 273, none⟩ (Value.bool ((x39r1 : Int) == 0)) fun H6 =>
 ∃ x54 : Bool, H6.cell ⟨r0b, 273, none⟩ = some (Value.bool x54) ∧
 R (Value.bool x54) H6))
 (∃ x59 : Bool, H1.cell ⟨r0b, 13, none⟩ = some (Value.bool x59) ∧
 IfB x59
 (R (Value.bool true) H1)
 (IfB (((x9n : Int) : Int) != 8)
 (zz61_j0 r0b x9a x9n x9c true H1 R)
 (FnW Tryd.prog f_zz51 ⟨[(Value.slice x9a x9n x9c)]⟩ H1 fun x66v H9 =>
 ∃ x66 : Int, x66v = (Value.int .u32 x66) ∧
 zz61_j0 r0b x9a x9n x9c ((x66 : Int) == 0) H9 R)))))
theorem zz61_heq (r0b : Nat) (p1c0 : Int) (p1c1 : Int) (p1c2a : Option Addr) (p1c2n : Nat) (p1c2c : Nat) (p1c3 : Int) (H : Heap) (R : Value -> Heap -> Prop) : zz61_p r0b p1c0 p1c1 p1c2a p1c2n p1c2c p1c3 H R = CodeW Tryd.prog hplan_zz61 (bodyOf Tryd.f47) (env0 [(Value.pointer (some ⟨r0b, 0, none⟩)), (Value.agg ⟨[(Value.int .u8 p1c0), (Value.int .i64 p1c1), (Value.slice p1c2a p1c2n p1c2c), (Value.int .i64 p1c3)]⟩)]) H (RetW Tryd.prog Tryd.f47.results.toList R) := by kernel_rfl
theorem zz61_sh (r0b : Nat) (p1c0 : Int) (p1c1 : Int) (p1c2a : Option Addr) (p1c2n : Nat) (p1c2c : Nat) (p1c3 : Int) {H : Heap} {R : Value -> Heap -> Prop} (h : zz61_p r0b p1c0 p1c1 p1c2a p1c2n p1c2c p1c3 H fun v H1 => ∀ H2, Shut H H1 H2 -> R v H2) : FnW Tryd.prog f_zz61 ⟨[(Value.pointer (some ⟨r0b, 0, none⟩)), (Value.agg ⟨[(Value.int .u8 p1c0), (Value.int .i64 p1c1), (Value.slice p1c2a p1c2n p1c2c), (Value.int .i64 p1c3)]⟩)]⟩ H R := FnW.of_code hk_zz61 (by kernel_rfl) (Eq.mp (zz61_heq r0b p1c0 p1c1 p1c2a p1c2n p1c2c p1c3 H _) h)
def hplan_zz58 : Plan := ⟨[], [], [], []⟩
theorem hk_zz58 : Known Tryd.prog f_zz58 Tryd.f48 hplan_zz58 (bodyOf Tryd.f48) := by refine ⟨Tryd.func48, ?_, ?_, ?_, ?_, ?_⟩ <;> kernel_rfl
def zz58_j0 (r0b : Nat) (x9a : Option Addr) (x9n : Nat) (x9c : Nat) (x22 : Bool) (H2 : Heap) (R : Value -> Heap -> Prop) : Prop :=
 IfB x22
 (R (Value.bool false) H2)
 (NilP x9a fun x25q =>
 InB 0 x9n fun x25i =>
 elemAt x25q x25i 1 fun x25p =>
 ∃ x26 : Int, H2.cell x25p = some (Value.int .u8 x26) ∧
 StCell H2 ⟨r0b, 0, none⟩ (Value.int .i64 (IntKind.wrap .i64 x26)) fun H3 =>
 R (Value.bool true) H3)
def zz58_j1 (r0b : Nat) (x9a : Option Addr) (x9n : Nat) (x9c : Nat) (x59 : Bool) (H6 : Heap) (R : Value -> Heap -> Prop) : Prop :=
 IfB x59
 (R (Value.bool false) H6)
 (FnW Tryd.prog f_zz51 ⟨[(Value.slice x9a x9n x9c)]⟩ H6 fun x62v H7 =>
 ∃ x62 : Int, x62v = (Value.int .u32 x62) ∧
 StCell H7 ⟨r0b, 2, none⟩ (Value.int .u32 x62) fun H8 =>
 R (Value.bool true) H8)
def zz58_p (r0b : Nat) (p1c0 : Int) (p1c1 : Int) (p1c2a : Option Addr) (p1c2n : Nat) (p1c2c : Nat) (p1c3 : Int) (H : Heap) (R : Value -> Heap -> Prop) : Prop :=
 NewW H (Obj.cells ⟨[(Value.int .u8 p1c0), (Value.int .i64 p1c1), (Value.slice p1c2a p1c2n p1c2c), (Value.int .i64 p1c3)]⟩ T_attr_piece) fun p3b H1 =>
 ∃ (x9a : Option Addr) (x9n x9c : Nat), H1.cell ⟨p3b, 2, none⟩ = some (Value.slice x9a x9n x9c) ∧
 ∃ x11 : Int, H1.cell ⟨p3b, 1, none⟩ = some (Value.int .i64 x11) ∧
 IfB ((x11 : Int) == 1)
 (IfB (((x9n : Int) : Int) != 1)
 (zz58_j0 r0b x9a x9n x9c true H1 R)
 (NilP x9a fun x19q =>
 InB 0 x9n fun x19i =>
 elemAt x19q x19i 1 fun x19p =>
 ∃ x20 : Int, H1.cell x19p = some (Value.int .u8 x20) ∧
 zz58_j0 r0b x9a x9n x9c (decide ((x20 : Int) > 2)) H1 R))
 (IfB ((x11 : Int) == 2)
 (∃ x38 : Bool, H1.cell ⟨r0b, 13, none⟩ = some (Value.bool x38) ∧
 FnW Tryd.prog f_zz3 ⟨[(Value.slice x9a x9n x9c), (Value.bool x38)]⟩ H1 fun x39v H4 =>
 ∃ (x39r0a : Option Addr) (x39r0n x39r0c : Nat), ∃ x39r1 : Int, x39v = (Value.tuple ⟨[(Value.slice x39r0a x39r0n x39r0c), (Value.int .i64 x39r1)]⟩) ∧
 StCell H4 ⟨r0b, 1, none⟩ (Value.slice x39r0a x39r0n x39r0c) fun H5 =>
 R (Value.bool ((x39r1 : Int) == 0)) H5)
 (IfB ((x11 : Int) == 3)
 (IfB (((x9n : Int) : Int) != 4)
 (zz58_j1 r0b x9a x9n x9c true H1 R)
 (FnW Tryd.prog f_zz51 ⟨[(Value.slice x9a x9n x9c)]⟩ H1 fun x56v H9 =>
 ∃ x56 : Int, x56v = (Value.int .u32 x56) ∧
 FnW Tryd.prog f_zz30 ⟨[(Value.int .u32 x56)]⟩ H9 fun x57v H10 =>
 ∃ x57 : Bool, x57v = (Value.bool x57) ∧
 zz58_j1 r0b x9a x9n x9c (!x57) H10 R))
 (IfB ((x11 : Int) == 4)
 (IfB (((x9n : Int) : Int) != 4)
 (R (Value.bool false) H1)
 (FnW Tryd.prog f_zz51 ⟨[(Value.slice x9a x9n x9c)]⟩ H1 fun x74v H11 =>
 ∃ x74 : Int, x74v = (Value.int .u32 x74) ∧
 StCell H11 ⟨r0b, 3, none⟩ (Value.bool true) fun H12 =>
 StCell H12 ⟨r0b, 4, none⟩ (Value.int .u32 x74) fun H13 =>
 R (Value.bool true) H13))
 (IfB ((x11 : Int) == 8)
 (FnW Tryd.prog f_zz41 ⟨[(Value.pointer (some ⟨r0b, 0, none⟩)), (Value.slice x9a x9n x9c)]⟩ H1 fun x85v H14 =>
 ∃ x85 : Bool, x85v = (Value.bool x85) ∧
 R (Value.bool x85) H14)
 (R (Value.bool true) H1)))))
theorem zz58_heq (r0b : Nat) (p1c0 : Int) (p1c1 : Int) (p1c2a : Option Addr) (p1c2n : Nat) (p1c2c : Nat) (p1c3 : Int) (H : Heap) (R : Value -> Heap -> Prop) : zz58_p r0b p1c0 p1c1 p1c2a p1c2n p1c2c p1c3 H R = CodeW Tryd.prog hplan_zz58 (bodyOf Tryd.f48) (env0 [(Value.pointer (some ⟨r0b, 0, none⟩)), (Value.agg ⟨[(Value.int .u8 p1c0), (Value.int .i64 p1c1), (Value.slice p1c2a p1c2n p1c2c), (Value.int .i64 p1c3)]⟩)]) H (RetW Tryd.prog Tryd.f48.results.toList R) := by kernel_rfl
theorem zz58_sh (r0b : Nat) (p1c0 : Int) (p1c1 : Int) (p1c2a : Option Addr) (p1c2n : Nat) (p1c2c : Nat) (p1c3 : Int) {H : Heap} {R : Value -> Heap -> Prop} (h : zz58_p r0b p1c0 p1c1 p1c2a p1c2n p1c2c p1c3 H fun v H1 => ∀ H2, Shut H H1 H2 -> R v H2) : FnW Tryd.prog f_zz58 ⟨[(Value.pointer (some ⟨r0b, 0, none⟩)), (Value.agg ⟨[(Value.int .u8 p1c0), (Value.int .i64 p1c1), (Value.slice p1c2a p1c2n p1c2c), (Value.int .i64 p1c3)]⟩)]⟩ H R := FnW.of_code hk_zz58 (by kernel_rfl) (Eq.mp (zz58_heq r0b p1c0 p1c1 p1c2a p1c2n p1c2c p1c3 H _) h)
def hplan_zz59 : Plan := ⟨[], [(8, [6, 22], [.int .u32, .int .i64], [0, 1, 5, 20, 21])], [], []⟩
theorem hk_zz59 : Known Tryd.prog f_zz59 Tryd.f67 hplan_zz59 (bodyOf Tryd.f67) := by refine ⟨Tryd.func67, ?_, ?_, ?_, ?_, ?_⟩ <;> kernel_rfl
def zz59_l8 (r0b : Nat) (b1a : Option Addr) (b1n : Nat) (b1c : Nat) (n5 : Int) (x20h : Nat) (as6 : Int) (x22 : Int) (H2 : Heap) (next8 : (Int × Int × Unit) -> Heap -> Prop) (R : Value -> Heap -> Prop) : Prop :=
 IfB (decide ((x22 : Int) < (x20h : Int)))
 (NilP b1a fun x24q =>
 InB x22 x20h fun x24i =>
 elemAt x24q x24i 1 fun x24p =>
 ∃ x25 : Int, H2.cell x24p = some (Value.int .u8 x25) ∧
 (0 : Int) <= 8 ∧
 next8 ((bitsOr .u32 (IntKind.wrap .u32 (as6 * 2 ^ (min (8 : Int).toNat (IntKind.bits .u32)))) (IntKind.wrap .u32 x25)), ((IntKind.wrap .i64 (x22 + 1)), ())) H2)
 (IfB ((as6 : Int) == 0)
 (R (Value.bool false) H2)
 (InC n5 b1n fun x40l =>
 FnW Tryd.prog f_zz51 ⟨[(Value.slice (if b1c = x40l then b1a else Option.map (fun a => Addr.add a (x40l * 1)) b1a) (b1n - x40l) (b1c - x40l))]⟩ H2 fun x41v H3 =>
 ∃ x41 : Int, x41v = (Value.int .u32 x41) ∧
 StCell H3 ⟨r0b, 8, none⟩ (Value.bool true) fun H4 =>
 StCell H4 ⟨r0b, 9, none⟩ (Value.int .u32 as6) fun H5 =>
 StCell H5 ⟨r0b, 10, none⟩ (Value.int .u32 x41) fun H6 =>
 R (Value.bool true) H6))
def zz59_j0 (r0b : Nat) (b1a : Option Addr) (b1n : Nat) (b1c : Nat) (n5 : Int) (H1 : Heap) (R : Value -> Heap -> Prop) : Prop :=
 IfB (((b1n : Int) : Int) != (IntKind.wrap .i64 (n5 + 4)))
 (R (Value.bool false) H1)
 (InC n5 b1c fun x20h =>
 LoopI (Int × Int × Unit) (0, (0, ())) H1 fun x H next => ∀ _g : Env, zz59_l8 r0b b1a b1n b1c n5 x20h x.1 x.2.1 H next R)
def zz59_p (r0b : Nat) (b1a : Option Addr) (b1n : Nat) (b1c : Nat) (H : Heap) (R : Value -> Heap -> Prop) : Prop :=
 ∃ x12 : Bool, H.cell ⟨r0b, 13, none⟩ = some (Value.bool x12) ∧
 IfB x12
 (zz59_j0 r0b b1a b1n b1c 4 H R)
 (zz59_j0 r0b b1a b1n b1c 2 H R)
theorem zz59_heq (r0b : Nat) (b1a : Option Addr) (b1n : Nat) (b1c : Nat) (H : Heap) (R : Value -> Heap -> Prop) : zz59_p r0b b1a b1n b1c H R = CodeW Tryd.prog hplan_zz59 (bodyOf Tryd.f67) (env0 [(Value.pointer (some ⟨r0b, 0, none⟩)), (Value.slice b1a b1n b1c)]) H (RetW Tryd.prog Tryd.f67.results.toList R) := by kernel_rfl
theorem zz59_sh (r0b : Nat) (b1a : Option Addr) (b1n : Nat) (b1c : Nat) {H : Heap} {R : Value -> Heap -> Prop} (h : zz59_p r0b b1a b1n b1c H fun v H1 => ∀ H2, Shut H H1 H2 -> R v H2) : FnW Tryd.prog f_zz59 ⟨[(Value.pointer (some ⟨r0b, 0, none⟩)), (Value.slice b1a b1n b1c)]⟩ H R := FnW.of_code hk_zz59 (by kernel_rfl) (Eq.mp (zz59_heq r0b b1a b1n b1c H _) h)
end Go.Proofs.YtboagabgpcghcaaDoor
end
section
set_option maxRecDepth 100000
namespace Go.Proofs.YtboagabgpcghcaaDoor
open Go.Sh
def hplan_zz41 : Plan := ⟨[(5, [0, 1, 2, 3, 4, 5, 6, 7, 8, 9, 10, 11, 12, 13], [24, 25, 29])], [], [], []⟩
theorem hk_zz41 : Known Tryd.prog f_zz41 Tryd.f69 hplan_zz41 (bodyOf Tryd.f69) := by refine ⟨Tryd.func69, ?_, ?_, ?_, ?_, ?_⟩ <;> kernel_rfl
def hplan_zz52 : Plan := ⟨[], [], [], []⟩
theorem hk_zz52 : Known Tryd.prog f_zz52 Tryd.f86 hplan_zz52 (bodyOf Tryd.f86) := by refine ⟨Tryd.func86, ?_, ?_, ?_, ?_, ?_⟩ <;> kernel_rfl
def zz41_a_p (r0b : Nat) (b1 : Value) (H : Heap) (K : Value -> Value -> Heap -> Prop) (R : Value -> Heap -> Prop) : Prop :=
 NewW H (Obj.cells ⟨[(Value.pointer (some ⟨r0b, 0, none⟩))]⟩ T_p_attr_reader) fun r2b H1 =>
 K b1 (Value.pointer (some ⟨r2b, 0, none⟩)) H1
theorem zz41_a_heq (ρ : Env) (r0b : Nat) (b1 : Value) (H : Heap) (K : Value -> Value -> Heap -> Prop) (R : Value -> Heap -> Prop) : zz41_a_p r0b b1 H K R = CodeW Tryd.prog hplan_zz41 (cL (bodyOf Tryd.f69)) (put (put ρ (some 0) (Value.pointer (some ⟨r0b, 0, none⟩))) (some 1) b1) H (pieceQ (fun ρ H => K (ρ 1) (ρ 2) H) (RetW Tryd.prog Tryd.f69.results.toList R)) := by kernel_rfl
def zz41_c_j0 (b1a : Option Addr) (b1n : Nat) (b1c : Nat) (r2 : Value) (K : Value -> Value -> Heap -> Prop) (x20 : Bool) (H1 : Heap) (R : Value -> Heap -> Prop) : Prop :=
 IfB x20
 (R (Value.bool false) H1)
 (K (Value.slice b1a b1n b1c) r2 H1)
def zz41_c_p (b1a : Option Addr) (b1n : Nat) (b1c : Nat) (r2 : Value) (H : Heap) (K : Value -> Value -> Heap -> Prop) (R : Value -> Heap -> Prop) : Prop :=
 IfB (((b1n : Int) : Int) == 0)
 (zz41_c_j0 b1a b1n b1c r2 K true H R)
 ((4 : Int) ≠ 0 ∧
 IfB (((Int.tmod (b1n : Int) 4) : Int) != 0)
 (zz41_c_j0 b1a b1n b1c r2 K true H R)
 ((4 : Int) ≠ 0 ∧
 zz41_c_j0 b1a b1n b1c r2 K (decide (((IntKind.wrap .i64 (Int.tdiv (b1n : Int) 4)) : Int) > 32)) H R))
theorem zz41_c_heq (ρ : Env) (b1a : Option Addr) (b1n : Nat) (b1c : Nat) (r2 : Value) (H : Heap) (K : Value -> Value -> Heap -> Prop) (R : Value -> Heap -> Prop) : zz41_c_p b1a b1n b1c r2 H K R = CodeW Tryd.prog hplan_zz41 (cL (cR (bodyOf Tryd.f69))) (put (put ρ (some 1) (Value.slice b1a b1n b1c)) (some 2) r2) H (pieceQ (fun ρ H => K (ρ 1) (ρ 2) H) (RetW Tryd.prog Tryd.f69.results.toList R)) := by kernel_rfl
def zz41_d_p (b1a : Option Addr) (b1n : Nat) (b1c : Nat) (r2 : Value) (H : Heap) (K : Value -> Value -> Heap -> Prop) (R : Value -> Heap -> Prop) : Prop :=
 FnW Tryd.prog f_zz52 ⟨[(Value.slice b1a b1n b1c), (Value.int .i64 4)]⟩ H fun x22v H1 =>
 ∃ x22 : Value, x22v = x22 ∧
 K r2 x22 H1
theorem zz41_d_heq (ρ : Env) (b1a : Option Addr) (b1n : Nat) (b1c : Nat) (r2 : Value) (H : Heap) (K : Value -> Value -> Heap -> Prop) (R : Value -> Heap -> Prop) : zz41_d_p b1a b1n b1c r2 H K R = CodeW Tryd.prog hplan_zz41 (cL (cL (cR (cR (bodyOf Tryd.f69))))) (put (put ρ (some 1) (Value.slice b1a b1n b1c)) (some 2) r2) H (pieceQ (fun ρ H => K (ρ 2) (ρ 22) H) (RetW Tryd.prog Tryd.f69.results.toList R)) := by kernel_rfl
def zz41_e_p (x23 : Value) (r2 : Value) (H : Heap) (K : Value -> Value -> Heap -> Prop) (R : Value -> Heap -> Prop) : Prop :=
 K r2 x23 H
theorem zz41_e_heq (ρ : Env) (x23 : Value) (r2 : Value) (H : Heap) (K : Value -> Value -> Heap -> Prop) (R : Value -> Heap -> Prop) : zz41_e_p x23 r2 H K R = CodeW Tryd.prog hplan_zz41 (cA (cK (cR (cL (cR (cR (bodyOf Tryd.f69))))))) (put (put ρ (some 23) x23) (some 2) r2) H (pieceQ (fun ρ H => K (ρ 2) (ρ 5) H) (RetW Tryd.prog Tryd.f69.results.toList R)) := by kernel_rfl
def zz41_r_p (r2b : Nat) (x5a : Option Addr) (x5n : Nat) (x5c : Nat) (H : Heap) (K : Heap -> Prop) (R : Value -> Heap -> Prop) : Prop :=
 ∃ bs : List Nat, (∀ b ∈ bs, ∃ o, H b = some o) ∧
 r2b ∈ bs ∧ ∃ x24 : Option Addr, H.cell ⟨r2b, 0, none⟩ = some (Value.pointer x24) ∧
 r2b ∈ bs ∧ ∃ x25 : Option Addr, H.cell ⟨r2b, 0, none⟩ = some (Value.pointer x25) ∧
 NilP x25 fun x26p =>
 x26p.block ∈ bs ∧ ∃ (x29a : Option Addr) (x29n x29c : Nat), H.cell ⟨x26p.block, x26p.off + 11, none⟩ = some (Value.slice x29a x29n x29c) ∧
 FnW Tryd.prog f_zz51 ⟨[(Value.slice x5a x5n x5c)]⟩ H fun x31v H1 =>
 ∃ x31 : Int, x31v = (Value.int .u32 x31) ∧
 KeptIn bs H H1 ∧ NewW H1 (Obj.cells ⟨[(Value.int .u32 x31)]⟩ T_uint32) fun x32b H2 =>
 AppW Tryd.prog #[T_sl_uint32, T_sl_uint32] T_sl_uint32 [(Value.slice x29a x29n x29c), (Value.slice (some ⟨x32b, 0, none⟩) 1 1)] H2 fun x33v H3 =>
 ∃ (x33a : Option Addr) (x33n x33c : Nat), x33v = (Value.slice x33a x33n x33c) ∧
 KeptIn bs H H3 ∧ NilP x24 fun x34p =>
 StCell H3 ⟨x34p.block, x34p.off + 11, none⟩ (Value.slice x33a x33n x33c) fun H4 =>
 K H4
theorem zz41_r_heq (ρ : Env) (r2b : Nat) (x5a : Option Addr) (x5n : Nat) (x5c : Nat) (H : Heap) (K : Heap -> Prop) (R : Value -> Heap -> Prop) : zz41_r_p r2b x5a x5n x5c H K R = CodeW Tryd.prog hplan_zz41 (cB (cK (cR (cL (cR (cR (bodyOf Tryd.f69))))))) (put (put ρ (some 2) (Value.pointer (some ⟨r2b, 0, none⟩))) (some 5) (Value.slice x5a x5n x5c)) H (pieceQ (fun ρ H => K H) (RetW Tryd.prog Tryd.f69.results.toList R)) := by kernel_rfl
def zz41_z_p (H : Heap) (K : Heap -> Prop) (R : Value -> Heap -> Prop) : Prop :=
 R (Value.bool true) H
theorem zz41_z_heq (ρ : Env) (H : Heap) (K : Heap -> Prop) (R : Value -> Heap -> Prop) : zz41_z_p H K R = CodeW Tryd.prog hplan_zz41 (cR (cR (cR (bodyOf Tryd.f69)))) ρ H (pieceQ (fun ρ H => K H) (RetW Tryd.prog Tryd.f69.results.toList R)) := by kernel_rfl
def zz52_a_p (s0a : Option Addr) (s0n : Nat) (s0c : Nat) (n1 : Int) (H : Heap) (K : Value -> Value -> Heap -> Prop) (R : Value -> Heap -> Prop) : Prop :=
 NewW H (Obj.cells ⟨[(Value.slice s0a s0n s0c)]⟩ T_sl_uint8) fun s2b H1 =>
 NewW H1 (Obj.cells ⟨[(Value.int .i64 n1)]⟩ T_int) fun n3b H2 =>
 K (Value.pointer (some ⟨s2b, 0, none⟩)) (Value.pointer (some ⟨n3b, 0, none⟩)) H2
theorem zz52_a_heq (ρ : Env) (s0a : Option Addr) (s0n : Nat) (s0c : Nat) (n1 : Int) (H : Heap) (K : Value -> Value -> Heap -> Prop) (R : Value -> Heap -> Prop) : zz52_a_p s0a s0n s0c n1 H K R = CodeW Tryd.prog hplan_zz52 (cL (bodyOf Tryd.f86)) (put (put ρ (some 0) (Value.slice s0a s0n s0c)) (some 1) (Value.int .i64 n1)) H (pieceQ (fun ρ H => K (ρ 2) (ρ 3) H) (RetW Tryd.prog Tryd.f86.results.toList R)) := by kernel_rfl
def zz52_b_p (s2 : Value) (n3b : Nat) (H : Heap) (K : Value -> Value -> Value -> Heap -> Prop) (R : Value -> Heap -> Prop) : Prop :=
 ∃ x5 : Int, H.cell ⟨n3b, 0, none⟩ = some (Value.int .i64 x5) ∧
 K s2 (Value.pointer (some ⟨n3b, 0, none⟩)) (Value.bool (decide ((x5 : Int) < 1))) H
theorem zz52_b_heq (ρ : Env) (s2 : Value) (n3b : Nat) (H : Heap) (K : Value -> Value -> Value -> Heap -> Prop) (R : Value -> Heap -> Prop) : zz52_b_p s2 n3b H K R = CodeW Tryd.prog hplan_zz52 (cL (cL (cR (bodyOf Tryd.f86)))) (put (put ρ (some 2) s2) (some 3) (Value.pointer (some ⟨n3b, 0, none⟩))) H (pieceQ (fun ρ H => K (ρ 2) (ρ 3) (ρ 6) H) (RetW Tryd.prog Tryd.f86.results.toList R)) := by kernel_rfl
def zz52_c_p (s2b : Nat) (n3b : Nat) (H : Heap) (K : Heap -> Prop) (R : Value -> Heap -> Prop) : Prop :=
 R (Value.func (.func f_zz57) #[] #[(Value.pointer (some ⟨s2b, 0, none⟩)), (Value.pointer (some ⟨n3b, 0, none⟩))]) H
theorem zz52_c_heq (ρ : Env) (s2b : Nat) (n3b : Nat) (H : Heap) (K : Heap -> Prop) (R : Value -> Heap -> Prop) : zz52_c_p s2b n3b H K R = CodeW Tryd.prog hplan_zz52 (cR (cR (bodyOf Tryd.f86))) (put (put ρ (some 2) (Value.pointer (some ⟨s2b, 0, none⟩))) (some 3) (Value.pointer (some ⟨n3b, 0, none⟩))) H (pieceQ (fun ρ H => K H) (RetW Tryd.prog Tryd.f86.results.toList R)) := by kernel_rfl
end Go.Proofs.YtboagabgpcghcaaDoor
end
section
set_option maxRecDepth 100000
namespace Go.Proofs.YtboagabgpcghcaaDoor
open Go.Sh
def hplan_zz62 : Plan := ⟨[], [(2, [8], [.int .i64], [0, 1, 7])], [], []⟩
theorem hk_zz62 : Known Tryd.prog f_zz62 Tryd.f64 hplan_zz62 (bodyOf Tryd.f64) := by refine ⟨Tryd.func64, ?_, ?_, ?_, ?_, ?_⟩ <;> kernel_rfl
def zz62_l2 (s0a : Option Addr) (s0n : Nat) (s0c : Nat) (f : FuncId) (w0 : Value) (x8 : Int) (H1 : Heap) (next2 : (Int × Unit) -> Heap -> Prop) (R : Value -> Heap -> Prop) : Prop :=
 IfB (decide ((x8 : Int) < (s0n : Int)))
 (NilP s0a fun x14q =>
 InB x8 s0n fun x14i =>
 elemAt x14q x14i 2 fun x14p =>
 ∃ x15c0 : Int, H1.cell x14p = some (Value.int .i64 x15c0) ∧ ∃ (x15c1a : Option Addr) (x15c1n x15c1c : Nat), H1.cell ⟨x14p.block, x14p.off + 1, none⟩ = some (Value.slice x15c1a x15c1n x15c1c) ∧ FnW Tryd.prog f ⟨[(Value.agg ⟨[(Value.int .i64 x15c0), (Value.slice x15c1a x15c1n x15c1c)]⟩), w0]⟩ H1 fun x16v H2 =>
 ∃ x16 : Bool, x16v = (Value.bool x16) ∧
 IfB x16
 (R (Value.int .i64 x8) H2)
 (next2 ((IntKind.wrap .i64 (x8 + 1)), ()) H2))
 (R (Value.int .i64 (-1)) H1)
def zz62_p (s0a : Option Addr) (s0n : Nat) (s0c : Nat) (f : FuncId) (w0 : Value) (H : Heap) (R : Value -> Heap -> Prop) : Prop :=
 LoopI (Int × Unit) (0, ()) H fun x H next => ∀ _g : Env, zz62_l2 s0a s0n s0c f w0 x.1 H next R
theorem zz62_heq (s0a : Option Addr) (s0n : Nat) (s0c : Nat) (f : FuncId) (w0 : Value) (H : Heap) (R : Value -> Heap -> Prop) : zz62_p s0a s0n s0c f w0 H R = CodeW Tryd.prog hplan_zz62 (bodyOf Tryd.f64) (env0 [(Value.slice s0a s0n s0c), (Value.func (.func f) #[] #[w0])]) H (RetW Tryd.prog Tryd.f64.results.toList R) := by kernel_rfl
theorem zz62_sh (s0a : Option Addr) (s0n : Nat) (s0c : Nat) (f : FuncId) (w0 : Value) {H : Heap} {R : Value -> Heap -> Prop} (h : zz62_p s0a s0n s0c f w0 H fun v H1 => ∀ H2, Shut H H1 H2 -> R v H2) : FnW Tryd.prog f_zz62 ⟨[(Value.slice s0a s0n s0c), (Value.func (.func f) #[] #[w0])]⟩ H R := FnW.of_code hk_zz62 (by kernel_rfl) (Eq.mp (zz62_heq s0a s0n s0c f w0 H _) h)
def hplan_zz63 : Plan := ⟨[], [], [], []⟩
theorem hk_zz63 : Known Tryd.prog f_zz63 Tryd.f65 hplan_zz63 (bodyOf Tryd.f65) := by refine ⟨Tryd.func65, ?_, ?_, ?_, ?_, ?_⟩ <;> kernel_rfl
def zz63_p (x0c0 : Int) (x0c1a : Option Addr) (x0c1n : Nat) (x0c1c : Nat) (b1 : Nat) (H : Heap) (R : Value -> Heap -> Prop) : Prop :=
 NewW H (Obj.cells ⟨[(Value.int .i64 x0c0), (Value.slice x0c1a x0c1n x0c1c)]⟩ T_api_Raw) fun x2b H1 =>
 ∃ x5 : Int, H1.cell ⟨x2b, 0, none⟩ = some (Value.int .i64 x5) ∧
 ∃ x7 : Int, H1.cell ⟨b1, 1, none⟩ = some (Value.int .i64 x7) ∧
 R (Value.bool (decide ((x5 : Int) > x7))) H1
theorem zz63_heq (x0c0 : Int) (x0c1a : Option Addr) (x0c1n : Nat) (x0c1c : Nat) (b1 : Nat) (H : Heap) (R : Value -> Heap -> Prop) : zz63_p x0c0 x0c1a x0c1n x0c1c b1 H R = CodeW Tryd.prog hplan_zz63 (bodyOf Tryd.f65) (env0 [(Value.agg ⟨[(Value.int .i64 x0c0), (Value.slice x0c1a x0c1n x0c1c)]⟩), (Value.pointer (some ⟨b1, 0, none⟩))]) H (RetW Tryd.prog Tryd.f65.results.toList R) := by kernel_rfl
theorem zz63_sh (x0c0 : Int) (x0c1a : Option Addr) (x0c1n : Nat) (x0c1c : Nat) (b1 : Nat) {H : Heap} {R : Value -> Heap -> Prop} (h : zz63_p x0c0 x0c1a x0c1n x0c1c b1 H fun v H1 => ∀ H2, Shut H H1 H2 -> R v H2) : FnW Tryd.prog f_zz63 ⟨[(Value.agg ⟨[(Value.int .i64 x0c0), (Value.slice x0c1a x0c1n x0c1c)]⟩), (Value.pointer (some ⟨b1, 0, none⟩))]⟩ H R := FnW.of_code hk_zz63 (by kernel_rfl) (Eq.mp (zz63_heq x0c0 x0c1a x0c1n x0c1c b1 H _) h)
def hplan_zz64 : Plan := ⟨[], [], [], []⟩
theorem hk_zz64 : Known Tryd.prog f_zz64 Tryd.f66 hplan_zz64 (bodyOf Tryd.f66) := by refine ⟨Tryd.func66, ?_, ?_, ?_, ?_, ?_⟩ <;> kernel_rfl
def zz64_p (s0a : Option Addr) (s0n : Nat) (s0c : Nat) (i1 : Int) (v2a : Option Addr) (v2n : Nat) (v2c : Nat) (H : Heap) (R : Value -> Heap -> Prop) : Prop :=
 InC i1 s0n fun x12l =>
 IfB (((v2n : Int) : Int) == 0)
 (R (Value.slice s0a s0n s0c) H)
 (IfB ((i1 : Int) == (s0n : Int))
 (AppW Tryd.prog #[T_sl_api_Raw, T_sl_api_Raw] T_sl_api_Raw [(Value.slice s0a s0n s0c), (Value.slice v2a v2n v2c)] H fun x25v H1 =>
 ∃ (x25a : Option Addr) (x25n x25c : Nat), x25v = (Value.slice x25a x25n x25c) ∧
 R (Value.slice x25a x25n x25c) H1)
 (IfB (decide (((IntKind.wrap .i64 ((s0n : Int) + (v2n : Int))) : Int) > (s0c : Int)))
 (InC i1 s0c fun x34h =>
 AppW Tryd.prog #[T_sl_api_Raw, T_int] T_sl_api_Raw [(Value.slice s0a x34h s0c), (Value.int .i64 (IntKind.wrap .i64 ((IntKind.wrap .i64 ((s0n : Int) + (v2n : Int))) - i1)))] H fun x40v H2 =>
 ∃ (x40a : Option Addr) (x40n x40c : Nat), x40v = (Value.slice x40a x40n x40c) ∧
 InC i1 x40n fun x43l =>
 CopyW Tryd.prog #[T_sl_api_Raw, T_sl_api_Raw] T_int [(Value.slice (if x40c = x43l then x40a else Option.map (fun a => Addr.add a (x43l * 2)) x40a) (x40n - x43l) (x40c - x43l)), (Value.slice v2a v2n v2c)] H2 fun x45v H3 =>
 ∃ x45 : Int, x45v = (Value.int .i64 x45) ∧
 InC (IntKind.wrap .i64 (i1 + (v2n : Int))) x40n fun x50l =>
 InC i1 s0n fun x53l =>
 CopyW Tryd.prog #[T_sl_api_Raw, T_sl_api_Raw] T_int [(Value.slice (if x40c = x50l then x40a else Option.map (fun a => Addr.add a (x50l * 2)) x40a) (x40n - x50l) (x40c - x50l)), (Value.slice (if s0c = x53l then s0a else Option.map (fun a => Addr.add a (x53l * 2)) s0a) (s0n - x53l) (s0c - x53l))] H3 fun x54v H4 =>
 ∃ x54 : Int, x54v = (Value.int .i64 x54) ∧
 R (Value.slice x40a x40n x40c) H4)
 (InC (IntKind.wrap .i64 ((s0n : Int) + (v2n : Int))) s0c fun x60h =>
 InC (IntKind.wrap .i64 (i1 + (v2n : Int))) x60h fun x66l =>
 ExtW Tryd.prog f_zz66 ⟨[(Value.slice v2a v2n v2c), (Value.slice (if s0c = x66l then s0a else Option.map (fun a => Addr.add a (x66l * 2)) s0a) (x60h - x66l) (s0c - x66l))]⟩ H fun x67v H5 =>
 ∃ x67 : Bool, x67v = (Value.bool x67) ∧
 IfB (!x67)
 (InC (IntKind.wrap .i64 (i1 + (v2n : Int))) x60h fun x73l =>
 InC i1 x60h fun x76l =>
 CopyW Tryd.prog #[T_sl_api_Raw, T_sl_api_Raw] T_int [(Value.slice (if s0c = x73l then s0a else Option.map (fun a => Addr.add a (x73l * 2)) s0a) (x60h - x73l) (s0c - x73l)), (Value.slice (if s0c = x76l then s0a else Option.map (fun a => Addr.add a (x76l * 2)) s0a) (x60h - x76l) (s0c - x76l))] H5 fun x77v H6 =>
 ∃ x77 : Int, x77v = (Value.int .i64 x77) ∧
 InC i1 x60h fun x80l =>
 CopyW Tryd.prog #[T_sl_api_Raw, T_sl_api_Raw] T_int [(Value.slice (if s0c = x80l then s0a else Option.map (fun a => Addr.add a (x80l * 2)) s0a) (x60h - x80l) (s0c - x80l)), (Value.slice v2a v2n v2c)] H6 fun x82v H7 =>
 ∃ x82 : Int, x82v = (Value.int .i64 x82) ∧
 R (Value.slice s0a x60h s0c) H7)
 (InC (s0n : Int) x60h fun x86l =>
 CopyW Tryd.prog #[T_sl_api_Raw, T_sl_api_Raw] T_int [(Value.slice (if s0c = x86l then s0a else Option.map (fun a => Addr.add a (x86l * 2)) s0a) (x60h - x86l) (s0c - x86l)), (Value.slice v2a v2n v2c)] H5 fun x88v H8 =>
 ∃ x88 : Int, x88v = (Value.int .i64 x88) ∧
 InC i1 x60h fun x91l =>
 FnW Tryd.prog f_zz67 ⟨[(Value.slice (if s0c = x91l then s0a else Option.map (fun a => Addr.add a (x91l * 2)) s0a) (x60h - x91l) (s0c - x91l)), (Value.int .i64 (v2n : Int))]⟩ H8 fun x93v H9 =>
 x93v = (Value.tuple ⟨[]⟩) ∧
 R (Value.slice s0a x60h s0c) H9))))
theorem zz64_heq (s0a : Option Addr) (s0n : Nat) (s0c : Nat) (i1 : Int) (v2a : Option Addr) (v2n : Nat) (v2c : Nat) (H : Heap) (R : Value -> Heap -> Prop) : zz64_p s0a s0n s0c i1 v2a v2n v2c H R = CodeW Tryd.prog hplan_zz64 (bodyOf Tryd.f66) (env0 [(Value.slice s0a s0n s0c), (Value.int .i64 i1), (Value.slice v2a v2n v2c)]) H (RetW Tryd.prog Tryd.f66.results.toList R) := by kernel_rfl
theorem zz64_sh (s0a : Option Addr) (s0n : Nat) (s0c : Nat) (i1 : Int) (v2a : Option Addr) (v2n : Nat) (v2c : Nat) {H : Heap} {R : Value -> Heap -> Prop} (h : zz64_p s0a s0n s0c i1 v2a v2n v2c H fun v H1 => ∀ H2, Shut H H1 H2 -> R v H2) : FnW Tryd.prog f_zz64 ⟨[(Value.slice s0a s0n s0c), (Value.int .i64 i1), (Value.slice v2a v2n v2c)]⟩ H R := FnW.of_code hk_zz64 (by kernel_rfl) (Eq.mp (zz64_heq s0a s0n s0c i1 v2a v2n v2c H _) h)
end Go.Proofs.YtboagabgpcghcaaDoor
end
