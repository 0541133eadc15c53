/-
  When attributes are the same: plainly.
  When attributes are the same: what the document finds.
  The laws of reading: what was put is read back; what was read may be put again; twice is once.
-/
import Derived.Test.YtinilfhnplfhoaaQL
set_option linter.all false
namespace Go.Proofs.Ytinilfhnplfhoaa
open Go.Sh
theorem mism {A : Type} [BEq A] [LawfulBEq A] {s t pre post : List A} {x y : A} (hs : s = pre ++ x :: post) (ht : t[pre.length]? = some y) (h : x ≠ y) : (s == t) = false := by
  refine beq_eq_false_iff_ne.2 fun e => h ?_; have h1 : s[pre.length]? = some x := by rw [hs]; simp
  rw [e, ht] at h1; cases h1; rfl
theorem take_snoc {A : Type} {t pre : List A} {x : A} (hP : pre = t.take pre.length) (ht : t[pre.length]? = some x) : pre ++ [x] = t.take (pre ++ [x]).length := by rw [List.length_append, List.length_singleton, List.take_add_one, ht, ← hP]; rfl
theorem take_all {A : Type} [BEq A] [LawfulBEq A] {s t : List A} (hP : s = t.take s.length) (hl : s.length = t.length) : (s == t) = true := by rw [hl, List.take_length] at hP; exact beq_iff_eq.2 hP
theorem at_len {A : Type} {t : List A} {n : Nat} (h : n < t.length) : t[((n : Nat) : Int).toNat]? = some t[n] := by rw [Int.toNat_natCast]; exact List.getElem?_eq_getElem h
theorem ne32 (x y : UInt32) : ((x.toNat : Int) != (y.toNat : Int)) = !(x == y) := by
  by_cases h : x = y; subst h; simp
  . have h1 : (x.toNat : Int) ≠ y.toNat := fun e => h (UInt32.toNat_inj.1 (by omega))
    have h2 : (x == y) = false := beq_eq_false_iff_ne.2 h; rw [h2, bne_iff_ne.2 h1]; rfl
theorem lens_ne {A : Type} [BEq A] [LawfulBEq A] {s t : List A} (h : ((s.length : Int) != (t.length : Int)) = true) : (s == t) = false := by refine beq_eq_false_iff_ne.2 fun e => ?_; subst e; simp at h
theorem lens_eq {A : Type} {s t : List A} (h : ((s.length : Int) != (t.length : Int)) = false) : s.length = t.length := by simp at h; omega
def perh (i w s : Bool) : Bool := i == w && (!i || s)
def sameA (a b : Attrs) : Bool :=
  a.origin == b.origin && (a.next == b.next && (a.atomic == b.atomic && (perh a.hasMed b.hasMed (a.med == b.med) && (perh a.hasLocal b.hasLocal (a.loc == b.loc) &&
    (perh a.hasMaker b.hasMaker (a.makerAS == b.makerAS && a.maker == b.maker) && (a.path == b.path && (a.comms == b.comms && a.others == b.others)))))))
theorem perh_refl {i s : Bool} (h : s = true) : perh i i s = true := by subst h; cases i <;> rfl
theorem sameA_refl (a : Attrs) : sameA a a = true := by unfold sameA; simp only [beq_self_eq_true, Bool.true_and, Bool.and_true, perh_refl rfl]
end Go.Proofs.Ytinilfhnplfhoaa
namespace Go.Proofs.Ytinilfhnplfhoaa
open Go.Sh
theorem rpsame_c (s t : List Seg) (K : Bool -> Prop) (hl : s.length <= 9223372036854775807) (hs : ∀ x ∈ s, x.2.length <= 9223372036854775807) (h : K (s == t)) : ref19_Same_q s t K := by
  unfold ref19_Same_q; refine IfB.intro (fun h1 => of_eq h (lens_ne h1)) (fun h1 => ?_); have h1 := lens_eq h1; refine LoopJ.over s (fun pre => ((pre.length : Int), ())) (fun pre => pre = t.take pre.length) rfl rfl (fun pre x post hp hn hP next hx => ?_) (fun hP next _ => ?_)
  . intro _; dsimp only [ref19_Same_l4]; have hlt : pre.length < t.length := by omega
    have hty : t[pre.length]? = some t[pre.length] := List.getElem?_eq_getElem hlt; have hat := at_len hlt; have hxl := hs x (by simp [hp])
    generalize t[pre.length] = y at hty hat; have hne : ∀ (g : x ≠ y), K false := fun g => of_eq h (mism hp hty g); have hj : ∀ j : Bool, (j = true -> x ≠ y) -> (j = false -> x.1 = y.1 ∧ x.2.length = y.2.length) -> ref19_Same_j0 s t (pre.length : Int) next j K := fun j k1 k2 => by
      unfold ref19_Same_j0; refine IfB.intro (fun g => hne (k1 g)) (fun g => ?_); obtain ⟨q1, q2⟩ := k2 g; refine LoopJ.over x.2 (fun l => ((l.length : Int), ())) (fun l => l = y.2.take l.length) rfl rfl (fun l z r hz hm hL next' hy => ?_) (fun hL next' _ => ?_)
      . intro _; dsimp only [ref19_Same_l9]; have hlt2 : l.length < y.2.length := by omega
        refine ⟨by omega, AtN.of (at_pre hp) fun _ => ifT (decide_eq_true (by omega)) ⟨by omega, AtN.of (at_pre hp) fun _ => ⟨by omega, AtN.of (at_pre hz) fun _ => ⟨by omega, AtN.of hat fun _ => ⟨by omega, AtN.of (at_len hlt2) fun _ => ?_⟩⟩⟩⟩⟩
        rw [ne32]; refine IfB.intro (fun g2 => hne fun e => ?_) (fun g2 => of_eq (hy ?_) ?_)
        . have g3 := mism hz (List.getElem?_eq_getElem hlt2) (by simpa using g2)
          rw [e] at g3; simp at g3
        exact take_snoc hL (by rw [List.getElem?_eq_getElem hlt2]; congr 1; simpa using (by simpa using g2 : z = y.2[l.length]).symm)
        . rw [wr_i64 (by omega) (by omega)]; simp
      . dsimp only [ref19_Same_l9]; refine ⟨by omega, AtN.of (at_pre hp) fun _ => ifF (decide_eq_false (by omega)) (of_eq (hx ?_) ?_)⟩
        have e2 : x.2 = y.2 := beq_iff_eq.1 (take_all hL q2); exact take_snoc hP (by rw [hty]; congr 1; exact Prod.ext q1.symm e2.symm)
        . rw [wr_i64 (by omega) (by omega)]; simp
    refine ifT (decide_eq_true (by omega)) ⟨by omega, AtN.of (at_pre hp) fun _ => ⟨by omega, AtN.of hat fun _ => ?_⟩⟩
    refine IfB.intro (fun g => hj true (fun _ e => by rw [e] at g; simp at g) (fun g => by cases g)) (fun g => ⟨by omega, AtN.of (at_pre hp) fun _ => ⟨by omega, AtN.of hat fun _ => hj _ (fun g2 e => by rw [e] at g2; simp at g2) (fun g2 => ⟨by simpa using g, lens_eq g2⟩)⟩⟩)
  dsimp only [ref19_Same_l4]; exact ifF (decide_eq_false (by omega)) (of_eq h (take_all hP h1))
theorem rj0_f (a b : Attrs) (K : Bool -> Prop) (hc : a.comms.length <= 9223372036854775807) (ho : a.others.length <= 9223372036854775807) (h1 : a.comms.length = b.comms.length) (h2 : a.others.length = b.others.length) (h : K (a.comms == b.comms && a.others == b.others)) : ref20_Same_j0 a b false K := by
  obtain ⟨origin, path, nxt, hasMed, med, hasLocal, loc, atomic, hasMaker, makerAS, maker, comms, others⟩ := a; obtain ⟨origin', path', nxt', hasMed', med', hasLocal', loc', atomic', hasMaker', makerAS', maker', comms', others'⟩ := b; simp only [Attrs.comms, Attrs.others] at *; unfold ref20_Same_j0; refine ifF rfl ?_; refine LoopJ.over comms (fun pre => ((pre.length : Int), ())) (fun pre => pre = comms'.take pre.length) rfl rfl (fun pre x post hp hn hP next hx => ?_) (fun hP next _ => ?_)
  . intro _; dsimp only [ref20_Same_l4]; have hlt : pre.length < comms'.length := by omega
    refine ifT (decide_eq_true (by omega)) ⟨by omega, AtN.of (at_pre hp) fun _ => ⟨by omega, AtN.of (at_len hlt) fun _ => ?_⟩⟩
    rw [ne32]; refine IfB.intro (fun g => of_eq h (by rw [mism hp (List.getElem?_eq_getElem hlt) (by simpa using g), Bool.false_and])) (fun g => of_eq (hx ?_) ?_)
    exact take_snoc hP (by rw [List.getElem?_eq_getElem hlt]; congr 1; simpa using (by simpa using g : x = comms'[pre.length]).symm)
    . rw [wr_i64 (by omega) (by omega)]; simp
  . dsimp only [ref20_Same_l4]; refine ifF (decide_eq_false (by omega)) ?_
    rw [take_all hP h1, Bool.true_and] at h; refine LoopJ.over others (fun pre => ((pre.length : Int), ())) (fun pre => pre = others'.take pre.length) rfl rfl (fun pre x post hp hn hP next hx => ?_) (fun hP next _ => ?_)
    . intro _; dsimp only [ref20_Same_l9]; have hlt : pre.length < others'.length := by omega
      have hty : others'[pre.length]? = some others'[pre.length] := List.getElem?_eq_getElem hlt; have hat := at_len hlt; generalize others'[pre.length] = y at hty hat; have hj : ∀ j : Bool, (j = true -> x ≠ y) -> (j = false -> x = y) -> ref20_Same_j1 (origin, path, nxt, hasMed, med, hasLocal, loc, atomic, hasMaker, makerAS, maker, comms, others) (origin', path', nxt', hasMed', med', hasLocal', loc', atomic', hasMaker', makerAS', maker', comms', others') (pre.length : Int) next j K := fun j k1 k2 => by
        unfold ref20_Same_j1; refine IfB.intro (fun g => of_eq h (mism hp hty (k1 g))) (fun g => of_eq (hx ?_) ?_); exact take_snoc hP (by rw [hty, k2 g])
        . rw [wr_i64 (by omega) (by omega)]; simp
      refine ifT (decide_eq_true (by omega)) ⟨by omega, AtN.of (at_pre hp) fun _ => ⟨by omega, AtN.of hat fun _ => ?_⟩⟩
      refine IfB.intro (fun g => hj true (fun _ e => by rw [e] at g; simp at g) (fun g => by cases g)) (fun g => ⟨by omega, AtN.of (at_pre hp) fun _ => ⟨by omega, AtN.of hat fun _ => hj _ (fun g2 e => by rw [e] at g2; simp at g2) (fun g2 => Prod.ext (by simpa using g) (by simpa using g2))⟩⟩)
    dsimp only [ref20_Same_l9]; exact ifF (decide_eq_false (by omega)) (of_eq h (take_all hP h2))
theorem stg {i w : Bool} {x y : UInt32} {J X : Prop} (h1 : perh i w (x == y) = false -> J) (h2 : perh i w (x == y) = true -> X) : IfB (!(i == w)) J (IfB i (IfB ((x.toNat : Int) != (y.toNat : Int)) J X) X) := by rw [ne32]; cases i <;> cases w <;> cases hxy : (x == y) <;> simp_all [IfB, perh]
theorem stg2 {i w : Bool} {x y u v : UInt32} {J X : Prop} (h1 : perh i w (x == y && u == v) = false -> J) (h2 : perh i w (x == y && u == v) = true -> X) : IfB (!(i == w)) J (IfB i (IfB ((x.toNat : Int) != (y.toNat : Int)) J (IfB ((u.toNat : Int) != (v.toNat : Int)) J X)) X) := by rw [ne32, ne32]; cases i <;> cases w <;> cases hxy : (x == y) <;> cases huv : (u == v) <;> simp_all [IfB, perh]
theorem ref20_Same_c (a b : Attrs) (K : Bool -> Prop) (hl : a.path.length <= 9223372036854775807) (hs : ∀ x ∈ a.path, x.2.length <= 9223372036854775807) (hc : a.comms.length <= 9223372036854775807) (ho : a.others.length <= 9223372036854775807) (h : K (sameA a b)) : ref20_Same_q a b K := by
  have no : sameA a b = false -> ref20_Same_j0 a b true K := fun e => by unfold ref20_Same_j0; exact ifT rfl (of_eq h e)
  unfold ref20_Same_q; rw [ne32]; refine IfB.intro (fun g => no (by simp at g; simp [sameA, g])) (fun g1 _ => rpsame_c _ _ _ hl hs fun _ => ?_)
  refine IfB.intro (fun g => no (by simp at g; simp [sameA, g])) (fun g2 => ?_)
  refine IfB.intro (fun g => no (by simp at g; simp [sameA, g])) (fun g3 => ?_)
  refine stg (fun g => no (by simp [sameA, g])) (fun g4 => ?_)
  refine stg (fun g => no (by simp [sameA, g])) (fun g5 => ?_)
  refine IfB.intro (fun g => no (by simp at g; simp [sameA, g])) (fun g6 => ?_)
  refine stg2 (fun g => no (by simp [sameA, g])) (fun g7 => ?_)
  have e1 : (a.origin == b.origin) = true := by simpa using g1
  have e2 : (a.path == b.path) = true := by simpa using g2
  have e3 : (a.next == b.next) = true := by simpa using g3
  have e6 : (a.atomic == b.atomic) = true := by simpa using g6
  refine IfB.intro (fun g => no (by have := lens_ne g; simp [sameA, this])) (fun g8 => ?_)
  have q1 := lens_eq g8; have key : ∀ j, ((a.others.length : Int) != (b.others.length : Int)) = j -> ref20_Same_j0 a b j K := fun j g9 => by
    cases j with
    | true =>
      have := lens_ne g9; exact no (by simp [sameA, this])
    | false =>
      refine rj0_f a b K hc ho q1 (lens_eq g9) (of_eq h ?_); unfold sameA; rw [e1, e2, e3, e6, g4, g5, g7]; simp only [Bool.true_and]
  exact key _ rfl
end Go.Proofs.Ytinilfhnplfhoaa
namespace Go.Proofs.Ytinilfhnplfhoaa
open Go.Sh
theorem wf_attrs {a : Attrs} {x : Int} {y : Int × Int × List UInt8} (h : WfPs attr_Read_rs (a, x, y, ())) : a.path.length <= 9223372036854775807 ∧ (∀ s ∈ a.path, s.2.length <= 9223372036854775807) ∧ a.comms.length <= 9223372036854775807 ∧ a.others.length <= 9223372036854775807 := by obtain ⟨origin, path, nxt, hasMed, med, hasLocal, loc, atomic, hasMaker, makerAS, maker, comms, others⟩ := a; have h := h.1; simp only [WfPk, WfT, WfE] at h; exact ⟨h.2.1.1, fun s hs => (h.2.1.2 s hs).2.1.1, h.2.2.2.2.2.2.2.2.2.2.2.1.1, h.2.2.2.2.2.2.2.2.2.2.2.2.1.1⟩
theorem attrTwice_q (b : List UInt8) (four told : Bool) : law20_AttrTwice_q b four told fun r => r = true := by
  unfold law20_AttrTwice_q; simp only [ofI_u32]; have hl : (b.take ((min (b.length : Int) 1500).toNat)).length <= 1500 := by simp only [List.length_take]; omega
  refine fun _ => works_c _ fun _ => ifF rfl ⟨by omega, by omega, fun _ => ?_⟩
  generalize b.take ((min (b.length : Int) 1500).toNat) = d at *; refine ⟨by omega, fun hw _ => ⟨by simp only [List.length_nil]; omega, fun _ => ?_⟩⟩
  rw [List.nil_append]; refine ⟨by omega, fun _ => ⟨by simp only [List.length_append]; omega, fun _ => ?_⟩⟩
  obtain ⟨w1, w2, w3, w4⟩ := wf_attrs hw; refine IfB.intro (fun _ => by trivial) (fun g => ?_)
  have g1 : (readA four told d).2.1 <= 1 := by have := of_decide_eq_false g; omega
  obtain ⟨e1, e2⟩ := readA_twice g1; rw [e1, e2]; refine fun _ => ref20_Same_c _ _ _ w1 w2 w3 w4 fun _ => ?_; rw [show sameA _ _ = true from sameA_refl _]
  refine ifT rfl ?_; have : (((max (readA four told d).2.1 (min 1 d.length) : Nat)) : Int) = max ((readA four told d).2.1 : Int) (min 1 (d.length : Int)) := by omega
  rw [this]; exact beq_self_eq_true _
end Go.Proofs.Ytinilfhnplfhoaa
