/-
  Paths and attributes as data.
  Paths (layer 19): what the program's functions and the document's find.
  Attributes (layer 20): what the program's functions and the document's find.
  Attributes (layer 20): what the program puts.
  Attributes (layer 20): what the program puts, and what the document does.
  Attributes (layer 20): what the document puts; the copies.
  Attributes (layer 20): copies.
  Attributes (layer 20): attributes with few members.
  The law: any attributes are put as the document says, or refused.
  Reading paths and attributes, plainly (no program in sight): what is read, and that what was put is read back.
  Reading attributes, plainly: the whole, and that what was put is read back.
  Attributes that were put are read back, plainly.
  Attributes that were put are read back, as a whole, plainly.
  Attributes that are read twice, one behind the other, plainly.
  What was read and found to be fine, or to have something dropped, may be put again, plainly.
  Reading paths: what the program finds.
  Paths merged: what the program finds.
  Pieces of attributes, and numbers in four bytes: what the program finds, and the document.
  SOME FUNCTIONS IN PLAIN LOGIC: printed by a program of ours over this translation.
  PIECES OF FUNCTIONS IN PLAIN LOGIC: printed by a program of ours over this translation.
  SOME FUNCTIONS IN PLAIN LOGIC: printed by a program of ours over this translation.
-/
import Derived.Test.YtboagabgpcghcaaGreatDoorED
import Derived.Test.YtboagabgpcghcaaGreatDoorQ
import Derived.Test.YtboagabgpcghcaaGreatDoorQA
import Derived.Test.YtboagabgpcghcaaGreatDoorRows
import Derived.Test.YtboagabgpcghcaaGreatDoorEB
set_option linter.all false
section
namespace Go.Proofs.YtboagabgpcghcaaGreatDoor
open Go.Sh
abbrev Seg := Bool × List UInt32
abbrev Raw := Int × List UInt8
abbrev Za := Int × List Seg × UInt32 × Bool × UInt32 × Bool × UInt32 × Bool × Bool × UInt32 × UInt32 × List UInt32 × List Raw
abbrev Za.origin (a : Za) : Int := a.1
abbrev Za.path (a : Za) : List Seg := a.2.1
abbrev Za.next (a : Za) : UInt32 := a.2.2.1
abbrev Za.hasMed (a : Za) : Bool := a.2.2.2.1
abbrev Za.med (a : Za) : UInt32 := a.2.2.2.2.1
abbrev Za.hasLocal (a : Za) : Bool := a.2.2.2.2.2.1
abbrev Za.loc (a : Za) : UInt32 := a.2.2.2.2.2.2.1
abbrev Za.atomic (a : Za) : Bool := a.2.2.2.2.2.2.2.1
abbrev Za.hasMaker (a : Za) : Bool := a.2.2.2.2.2.2.2.2.1
abbrev Za.makerAS (a : Za) : UInt32 := a.2.2.2.2.2.2.2.2.2.1
abbrev Za.maker (a : Za) : UInt32 := a.2.2.2.2.2.2.2.2.2.2.1
abbrev Za.comms (a : Za) : List UInt32 := a.2.2.2.2.2.2.2.2.2.2.2.1
abbrev Za.others (a : Za) : List Raw := a.2.2.2.2.2.2.2.2.2.2.2.2
end Go.Proofs.YtboagabgpcghcaaGreatDoor
namespace Go.Proofs.YtboagabgpcghcaaGreatDoor
open Go.Sh
def cnt (p : List Seg) : Nat := (p.map (·.2.length)).sum
theorem Zbxr (p : List Seg) (s : Seg) : cnt (p ++ [s]) = cnt p + s.2.length := by simp [cnt]
theorem Zctq (p : List Seg) (K : Int -> Prop) (hl : p.length <= 9223372036854775807) (hc : cnt p <= 9223372036854775807) (h : K (cnt p)) : Zbbv p K := by
  unfold Zbbv; refine Zm.list p (fun pre => ((cnt pre : Int), (pre.length : Int), ())) (fun _ => True) rfl trivial (fun pre s post hp _ next hn => ?_) (fun _ next _ => ?_)
  . intro _; dsimp only [Zbdh]; refine ifT (by simp [hp]; omega) ⟨by omega, AtN.of (Zbs hp) fun _ => of_eq (hn trivial) ?_⟩
    have h1 : p.length = pre.length + 1 + post.length := by rw [hp]; simp; omega
    have h2 : cnt p = cnt pre + s.2.length + cnt post := by rw [hp]; simp [cnt]; omega
    rw [Zj (by omega) (by omega), Zj (by omega) (by omega), Zbxr]
    simp
  dsimp only [Zbdh]; exact ifF (by simp) h
theorem Zcco (l : List UInt32) (v : Int) (K : Int -> Prop) (hl : l.length <= 9223372036854775807) (h1 : ∀ i : Nat, (∃ x ∈ l, (x.toNat : Int) = v) -> K i) (h2 : (∀ x ∈ l, (x.toNat : Int) ≠ v) -> K (-1)) : Zbbu l v K := by
  unfold Zbbu; refine Zm.list l (fun pre => ((pre.length : Int), ())) (fun pre => ∀ x ∈ pre, (x.toNat : Int) ≠ v) rfl (by simp) (fun pre x post hp hP next hn => ?_) (fun hP next _ => ?_)
  . intro _; dsimp only [Zbgq]; refine ifT (by simp [hp]; omega) ⟨by omega, AtN.of (Zbs hp) fun _ => ?_⟩
    refine IfB.intro (fun h => ?_) (fun h => ?_); exact h1 pre.length ⟨x, by simp [hp], by simpa using (by simpa using h : v = (x.toNat : Int)).symm⟩
    . have hne : v ≠ (x.toNat : Int) := by simpa using h
      refine of_eq (hn fun y hy => ?_) ?_; rcases List.mem_append.1 hy with hy | hy; exact hP y hy; simp only [List.mem_singleton] at hy; subst hy; exact fun e => hne e.symm
      . have h1 : l.length = pre.length + 1 + post.length := by rw [hp]; simp; omega
        rw [Zj (by omega) (by omega)]
        simp
  dsimp only [Zbgq]; exact ifF (by simp) (h2 hP)
theorem Zcty (l : List UInt32) (v : Int) (K : Bool -> Prop) (hl : l.length <= 9223372036854775807) (h : K (l.any fun x => (x.toNat : Int) == v)) : Ztf l v K := by
  unfold Ztf; intro _; refine Zcco l v _ hl (fun i hx _ => of_eq h ?_) (fun hx _ => of_eq h ?_)
  . obtain ⟨x, hx, hv⟩ := hx; rw [List.any_eq_true.2 ⟨x, hx, by simp [hv]⟩]
    simp
  . have : (l.any fun x => (x.toNat : Int) == v) = false := by rw [List.any_eq_false]; intro x h; simpa using hx x h
    rw [this]; rfl
theorem Zcbg (x : UInt32) : (x != 0) = !((x.toNat : Int) == 0) := by
  by_cases h : x = 0; subst h; rfl
  . have : x.toNat ≠ 0 := fun e => h (UInt32.toNat_inj.1 e); have h2 : ((x.toNat : Int) == 0) = false := by simpa using this
    rw [h2]; simp [h]
def Zes (s : Seg) : Bool := decide (0 < s.2.length) && decide (s.2.length <= 255) && s.2.all fun x => x != 0
theorem Zcpv (s : Seg) (K : Bool -> Prop) (h : K (Zes s)) : Zzj s K := by
  unfold Zzj; refine IfB.intro (fun h1 => IfB.intro (fun h2 => ?_) (fun h2 => of_eq h ?_)) (fun h1 => of_eq h ?_)
  . intro _; have h1 : 0 < s.2.length := by simpa using h1
    have h2 : s.2.length <= 255 := by simp at h2; omega
    refine Zcty s.2 0 _ (by omega) (fun _ => of_eq h ?_)
    have e : (s.2.all fun x => x != 0) = !(s.2.any fun x => (x.toNat : Int) == 0) := by rw [List.not_any_eq_all_not]; congr 1; funext x; exact Zcbg x
    simp [Zes, h1, h2, e]
  . have : ¬ s.2.length <= 255 := by simp at h2; omega
    simp [Zes, this]
  . have : ¬ 0 < s.2.length := by simp at h1; simp [h1]
    simp [Zes, this]
def Zba (p : List Seg) : Bool := p.all Zes && decide (cnt p <= 64)
def Zgy (b : Bool) : Int := if b then 0 else 2
theorem Zwf (p : List Seg) (K : Int -> Prop) (hl : p.length <= 9223372036854775807) (hc : cnt p <= 9223372036854775807) (h : K (Zgy (Zba p))) : Zmb p K := by
  unfold Zmb; refine Zm.over p (fun pre => ((pre.length : Int), ())) (fun pre => pre.all Zes = true) rfl rfl (fun pre s post hp hn hP next hx => ?_) (fun hP next _ => ?_)
  . intro _; dsimp only [Zbcy]; refine ifT (decide_eq_true (by omega)) ⟨by omega, AtN.of (Zbs hp) fun _ _ => ?_⟩
    refine Zcpv s _ fun _ => IfB.intro (fun h1 => of_eq h ?_) (fun h1 => of_eq (hx ?_) ?_)
    . have : p.all Zes = false := by rw [hp]; simp at h1; simp [h1]
      simp [Zba, this, Zgy]
    simp at h1; simp [h1]; simpa using hP
    . rw [Zj (by omega) (by omega)]; simp
  . dsimp only [Zbcy]; refine ifF (decide_eq_false (by omega)) fun _ => Zctq p _ hl hc fun _ => IfB.intro (fun h1 => of_eq h ?_) (fun h1 => of_eq h ?_)
    . have : ¬ cnt p <= 64 := by simp at h1; omega
      simp [Zba, this, Zgy]
    . have : cnt p <= 64 := by simp at h1; omega
      rw [Zba, hP, decide_eq_true this]; rfl
theorem Zcvb (pre post : List Seg) (s : Seg) : cnt (pre ++ s :: post) = cnt pre + s.2.length + cnt post := by simp [cnt]; omega
def Zbf (four : Bool) (x : UInt32) : List UInt8 := if four then be4 x.toNat else be2 (if x.toNat > 65535 then 23456 else x.toNat)
def Zpi (four : Bool) (s : Seg) : List UInt8 := [if s.1 then 1 else 2, UInt8.ofNat s.2.length] ++ s.2.flatMap (Zbf four)
def Zbg (four : Bool) (p : List Seg) : List UInt8 := p.flatMap (Zpi four)
theorem Zyp (four : Bool) (x : UInt32) : (Zbf four x).length <= 4 := by unfold Zbf; split <;> simp [be4, be2]
theorem Zbho (four : Bool) : ∀ l : List UInt32, (l.flatMap (Zbf four)).length <= 4 * l.length
  | [] => by simp
  | x :: l => by have h1 := Zyp four x; have h2 := Zbho four l; simp only [List.flatMap_cons, List.length_append, List.length_cons]; omega
theorem Zzs (four : Bool) : ∀ p : List Seg, (Zbg four p).length <= 2 * p.length + 4 * cnt p
  | [] => by simp [Zbg]
  | s :: p => by
    have h1 := Zbho four s.2; have h2 := Zzs four p; have h3 : cnt (s :: p) = s.2.length + cnt p := by simp [cnt]
    have h4 : (Zbg four (s :: p)).length = 2 + (s.2.flatMap (Zbf four)).length + (Zbg four p).length := by simp [Zbg, Zpi]; omega
    simp only [List.length_cons]; omega
theorem Zbbn : ∀ p : List Seg, p.all Zes = true -> p.length <= cnt p
  | [], _ => by simp
  | s :: p, h => by
    simp only [List.all_cons, Bool.and_eq_true] at h; have h1 := Zbbn p h.2; have h2 : 0 < s.2.length := by have := h.1; simp only [Zes, Bool.and_eq_true, decide_eq_true_eq] at this; exact this.1.1
    have h3 : cnt (s :: p) = s.2.length + cnt p := by simp [cnt]
    simp only [List.length_cons]; omega
theorem Zbzp (four : Bool) (p : List Seg) (s : Seg) : Zbg four (p ++ [s]) = Zbg four p ++ Zpi four s := by simp [Zbg]
theorem Zcmr {four : Bool} {p pre post : List Seg} {s : Seg} (hp : p = pre ++ s :: post) (hok : Zba p = true) : (Zbg four pre).length + 4 * s.2.length + 10 <= 1000 := by
  simp only [Zba, Bool.and_eq_true, decide_eq_true_eq] at hok; have h1 := Zbbn p hok.1; have h2 := Zzs four pre; have h3 := Zcvb pre post s; rw [← hp] at h3; have h4 : pre.length <= p.length := by rw [hp]; simp
  omega
theorem Zcjb (x : UInt32) : Zbf true x = [UInt8.ofNat (x.toNat / 16777216), UInt8.ofNat (x.toNat / 65536), UInt8.ofNat (x.toNat / 256), UInt8.ofNat x.toNat] := rfl
theorem Zcqp (s : Seg) (K : Int -> Prop) (h : K (if s.1 then 1 else 2)) : Zyq s K := by unfold Zyq; refine IfB.intro (fun h1 => of_eq h ?_) (fun h1 => of_eq h ?_) <;> simp [h1]
theorem Zbrw (p : List Seg) (four : Bool) (K : List UInt8 -> Int -> Prop) (hl : p.length <= 9223372036854775807) (hc : cnt p <= 9223372036854775807) (h : K (if Zba p then Zbg four p else []) (Zgy (Zba p))) : Zqq p four K := by
  unfold Zqq; intro _; refine Zwf p _ hl hc fun _ => IfB.intro (fun h1 => ?_) (fun h1 => ?_)
  . have : Zba p = false := by cases hb : Zba p <;> simp [Zgy, hb] at h1 ⊢
    rw [this] at h ⊢; exact h
  . have hok : Zba p = true := by cases hb : Zba p <;> simp [Zgy, hb] at h1 ⊢
    rw [hok] at h; refine Zm.over p (fun pre => (Zbg four pre, (pre.length : Int), ())) (fun _ => True) rfl trivial (fun pre s post hp hn _ next hx => ?_) (fun _ next _ => ?_)
    . intro _; dsimp only [Zbfk]; have hsh := Zcmr (four := four) hp hok; refine ifT (decide_eq_true (by omega)) ⟨by omega, AtN.of (Zbs hp) fun _ _ => Zcqp s _ fun _ => ⟨by simp only [List.length_cons, List.length_nil]; omega, ?_⟩⟩
      refine Zm.over s.2 (fun l => (Zbg four pre ++ [if s.1 then 1 else 2, UInt8.ofNat s.2.length] ++ l.flatMap (Zbf four), (l.length : Int), ())) (fun _ => True) ?_ trivial (fun l x r hs hm _ next' hy => ?_) (fun _ next' _ => ?_)
      rw [of8w]; cases s.1 <;> simp [ofI]
      . intro _; dsimp only [Zbdm]; have h5 := Zbho four l; refine ifT (decide_eq_true (by omega)) ⟨by omega, AtN.of (Zbs hs) fun _ => IfB.intro (fun h1 => ?_) (fun h1 => IfB.intro (fun h2 => ?_) (fun h2 => ?_))⟩
        . refine ⟨by omega, by omega, by simp only [List.length_append, List.length_cons, List.length_nil]; omega, by decide, by simp only [List.length_append, List.length_cons, List.length_nil]; omega, ?_⟩
          dsimp only [Zyl]; refine of_eq (hy trivial) ?_; rw [Zj (by omega) (by omega), Zqj, Zbxb, Zbkg, of8w, of8w, of8w, of8w]
          simp [h1, Zcjb]
        . refine ⟨by decide, by simp only [List.length_append, List.length_cons, List.length_nil]; omega, ?_⟩
          dsimp only [Zyl]; refine of_eq (hy trivial) ?_; have h2 : x.toNat > 65535 := by simp at h2; omega
          rw [Zj (by omega) (by omega)]
          simp [h1, Zbf, h2, be2]; decide
        . refine ⟨by decide, by simp only [List.length_append, List.length_cons, List.length_nil]; omega, ?_⟩
          dsimp only [Zyl]; refine of_eq (hy trivial) ?_; have h2 : ¬ x.toNat > 65535 := by simp at h2; omega
          rw [Zj (by omega) (by omega), Zqj, of8w, of8w]
          simp [h1, Zbf, h2, be2]
      . dsimp only [Zbdm]; refine ifF (decide_eq_false (by omega)) (of_eq (hx trivial) ?_)
        rw [Zj (by omega) (by omega), Zbzp]
        simp [Zpi]
    dsimp only [Zbfk]; exact ifF (decide_eq_false (by omega)) h
end Go.Proofs.YtboagabgpcghcaaGreatDoor
namespace Go.Proofs.YtboagabgpcghcaaGreatDoor
open Go.Sh
def Zex (k : Int) : Bool := k == 1 || k == 2 || k == 3 || k == 4 || k == 5 || k == 6 || k == 7 || k == 8 || k == 17 || k == 18
def Zcg (k : Int) : Int := if k = 1 ∨ k = 2 ∨ k = 3 ∨ k = 5 ∨ k = 6 then 64 else if k = 4 then 128 else if k = 7 ∨ k = 8 ∨ k = 17 ∨ k = 18 then 192 else 0
theorem Zbll (n : Int) (K : Bool -> Prop) (h : K (decide (n ≠ 0 ∧ n < 3758096384))) : Zxb n K := by unfold Zxb; refine IfB.intro (fun h1 => of_eq h ?_) (fun h1 => of_eq h ?_) <;> simp_all
theorem Zbgv (k : Int) (K : Int -> Bool -> Prop) (h : K (Zcg k) (Zex k)) : Znv k K := by
  by_cases h1 : k = 1; · subst h1; exact h
  by_cases h2 : k = 2; · subst h2; exact h
  by_cases h3 : k = 3; · subst h3; exact h
  by_cases h5 : k = 5; · subst h5; exact h
  by_cases h6 : k = 6; · subst h6; exact h
  by_cases h4 : k = 4; · subst h4; exact h
  by_cases h7 : k = 7; · subst h7; exact h
  by_cases h8 : k = 8; · subst h8; exact h
  by_cases h17 : k = 17; · subst h17; exact h
  by_cases h18 : k = 18; · subst h18; exact h
  have e : ∀ n : Int, k ≠ n -> (k == n) = false := fun n hn => by simpa using hn
  have ef : Zcg k = 0 := by simp [Zcg, h1, h2, h3, h4, h5, h6, h7, h8, h17, h18]
  have ek : Zex k = false := by simp [Zex, h1, h2, h3, h4, h5, h6, h7, h8, h17, h18]
  rw [ef, ek] at h; simp only [Znv, Zmx, Zbug, Zqb, e 1 h1, e 2 h2, e 3 h3, e 4 h4, e 5 h5, e 6 h6, e 7 h7, e 8 h8, e 17 h17, e 18 h18, IfB]; exact h
def Zcc : Int -> List Raw -> Bool
  | _, [] => true
  | last, x :: l => (!Zex x.1 && decide (last < x.1) && decide (x.1 <= 255) && decide (x.2.length <= 255)) && Zcc x.1 l
def lastOf : Int -> List Raw -> Int
  | last, [] => last
  | _, x :: l => lastOf x.1 l
theorem Zqc : ∀ (l l' : List Raw) (last : Int), Zcc last (l ++ l') = (Zcc last l && Zcc (lastOf last l) l')
  | [], l', last => by simp [Zcc, lastOf]
  | x :: l, l', last => by simp only [List.cons_append, Zcc, lastOf, Zqc l l' x.1, Bool.and_assoc]
theorem Zbtl : ∀ (l : List Raw) (x : Raw) (last : Int), lastOf last (l ++ [x]) = x.1
  | [], x, last => rfl
  | y :: l, x, last => by simp only [List.cons_append, lastOf]; exact Zbtl l x y.1
theorem Zckq (l : List Raw) (K : Bool -> Prop) (hl : l.length <= 9223372036854775807) (h : K (Zcc (-1) l && decide (l.length <= 8))) : Zbbr l K := by
  unfold Zbbr; refine Zm.over l (fun pre => (lastOf (-1) pre, (pre.length : Int), ())) (fun pre => Zcc (-1) pre = true) rfl rfl (fun pre x post hp hn hP next hx => ?_) (fun hP next _ => ?_)
  . intro _; dsimp only [Zbcl, Zpq]; have good : Zcc (lastOf (-1) pre) [x] = true -> next (x.1, IntKind.wrap .i64 ((pre.length : Int) + 1), ()) := fun hg => by
      refine of_eq (hx (by rw [Zqc, hP, hg]; rfl)) ?_
      rw [Zbtl, Zj (by omega) (by omega)]; simp
    have bad : Zcc (lastOf (-1) pre) [x] = false -> K false := fun hb => of_eq h (by
      have e : pre ++ x :: post = (pre ++ [x]) ++ post := by simp
      rw [hp, e, Zqc, Zqc, hb]; simp)
    refine ifT (decide_eq_true (by omega)) ⟨by omega, AtN.of (Zbs hp) fun _ _ => ?_⟩
    refine Zbgv x.1 _ fun _ => IfB.intro (fun h1 => bad ?_) (fun h1 => IfB.intro (fun h2 => bad ?_) (fun h2 => IfB.intro (fun h3 => bad ?_) (fun h3 => IfB.intro (fun h4 => bad ?_) (fun h4 => good ?_)))); simp [Zcc, h1]
    . have h2 : ¬ lastOf (-1) pre < x.1 := by simp at h2; omega
      simp [Zcc, h2]
    . have h3 : ¬ x.1 <= 255 := by simp at h3; omega
      simp [Zcc, h3]
    . have h4 : ¬ x.2.length <= 255 := by simp at h4; omega
      simp [Zcc, h4]
    . have h2 : lastOf (-1) pre < x.1 := by simp at h2; omega
      have h3 : x.1 <= 255 := by simp at h3; omega
      have h4 : x.2.length <= 255 := by simp at h4; omega
      simp [Zcc, h1, h2, h3, h4]
  . dsimp only [Zbcl]; refine ifF (decide_eq_false (by omega)) (of_eq h ?_)
    rw [hP, Bool.true_and]; congr 1; apply propext; omega
def Zec (a : Za) : Bool := decide (0 <= a.origin) && decide (a.origin <= 2) && Zba a.path && decide ((a.next.toNat : Int) ≠ 0 ∧ (a.next.toNat : Int) < 3758096384) && !(a.hasMaker && (a.makerAS.toNat : Int) == 0) && decide (a.comms.length <= 32) && (Zcc (-1) a.others && decide (a.others.length <= 8))
theorem Zbca (b : Bool) : (Zgy b != 0) = !b := by cases b <;> rfl
theorem Zcmg (a : Za) (K : Int -> Prop) (hl : a.path.length <= 9223372036854775807) (hc : cnt a.path <= 9223372036854775807) (ho : a.others.length <= 9223372036854775807) (h : K (Zgy (Zec a))) : Zwb a K := by
  obtain ⟨origin, path, nxt, hasMed, med, hasLocal, loc, atomic, hasMaker, makerAS, maker, comms, others⟩ := a; have bad : Zec (origin, path, nxt, hasMed, med, hasLocal, loc, atomic, hasMaker, makerAS, maker, comms, others) = false -> K 2 := fun hb => of_eq h (by rw [hb]; rfl)
  unfold Zwb; simp only [Zec, Za.origin, Za.path, Za.next, Za.hasMaker, Za.makerAS, Za.comms, Za.others] at *; refine IfB.intro (fun h1 => bad ?_) (fun h1 => IfB.intro (fun h2 => bad ?_) (fun h2 => ?_))
  . have : ¬ 0 <= origin := by simp at h1; omega
    simp [this]
  . have : ¬ origin <= 2 := by simp at h2; omega
    simp [this]
  have h1 : 0 <= origin := by simp at h1; omega
  have h2 : origin <= 2 := by simp at h2; omega
  intro _; refine Zwf path _ hl hc fun _ => ?_; dsimp only [Zbbi]; rw [Zbca]; refine IfB.intro (fun h3 => bad ?_) (fun h3 _ => ?_)
  . have : Zba path = false := by simpa using h3
    simp [this]
  have h3 : Zba path = true := by simpa using h3
  refine Zbll _ _ fun _ => ?_; refine IfB.intro (fun h4 => bad ?_) (fun h4 => ?_)
  . have : decide ((nxt.toNat : Int) ≠ 0 ∧ (nxt.toNat : Int) < 3758096384) = false := by simpa only [Bool.not_eq_true', Bool.not_eq_false'] using h4
    simp only [this, Bool.and_false, Bool.false_and]
  have h4 : decide ((nxt.toNat : Int) ≠ 0 ∧ (nxt.toNat : Int) < 3758096384) = true := by simpa only [Bool.not_eq_true', Bool.not_eq_false'] using h4
  have rest : (hasMaker && (makerAS.toNat : Int) == 0) = false -> Zme (origin, path, nxt, hasMed, med, hasLocal, loc, atomic, hasMaker, makerAS, maker, comms, others) false K := fun h5 => by
    dsimp only [Zme, Zbhc]; refine ifF rfl (IfB.intro (fun h6 => bad ?_) (fun h6 _ => Zckq others _ ho fun _ => ?_))
    . have : ¬ comms.length <= 32 := by simp at h6; omega
      simp [this]
    . have h6 : comms.length <= 32 := by simp at h6; omega
      refine of_eq (next := fun b => IfB (!b) (K 2) (K 0)) ?_ rfl
      refine IfB.intro (fun h7 => bad ?_) (fun h7 => of_eq h ?_)
      . have h7 : (Zcc (-1) others && decide (others.length <= 8)) = false := by simpa only [Bool.not_eq_true', Bool.not_eq_false'] using h7
        rw [h7, Bool.and_false]
      . have h7 : (Zcc (-1) others && decide (others.length <= 8)) = true := by simpa only [Bool.not_eq_true', Bool.not_eq_false'] using h7
        rw [h7, h3, h4, h5, decide_eq_true h1, decide_eq_true h2, decide_eq_true h6]; rfl
  refine IfB.intro (fun h5 => ?_) (fun h5 => rest ?_)
  . cases h6 : ((makerAS.toNat : Int) == 0) with
    | true =>
      dsimp only [Zme]; refine ifT rfl (bad ?_); have : (hasMaker && (makerAS.toNat : Int) == 0) = true := by rw [h6, Bool.and_true]; exact h5
      simp only [this, Bool.not_true, Bool.and_false, Bool.false_and]
    | false => exact rest (by rw [h6, Bool.and_false])
  have h5 : hasMaker = false := h5; rw [h5, Bool.false_and]
end Go.Proofs.YtboagabgpcghcaaGreatDoor
namespace Go.Proofs.YtboagabgpcghcaaGreatDoor
open Go.Sh
theorem Zccr (n : Int) (K : List UInt8 -> Prop) (h0 : 0 <= n) (hn : n <= 1000000000) (h : K []) : Zzo n K := by
  unfold Zzo; have e : IntKind.wrap .i64 (n - IntKind.wrap .i64 (0 - 0)) = n := by
    rw [Zj (n := 0 - 0) (by omega) (by omega)]
    exact Zj (by omega) (by omega) |>.trans (by omega)
  rw [e]; refine ifF (decide_eq_false (by omega)) (IfB.intro (fun h1 => ?_) (fun _ => h))
  have h1 : 0 < n := by simpa using h1
  exact ⟨by omega, by omega, h1, hn, by omega, by omega, by simpa using h⟩
theorem Zbwr {pre post : List (List UInt8)} {x : List UInt8} : (pre ++ x :: post).flatten.length = pre.flatten.length + x.length + post.flatten.length := by simp; omega
theorem Zbfp (l : List (List UInt8)) (K : List UInt8 -> Prop) (hl : l.length <= 1000000000) (hf : l.flatten.length <= 1000000000) (h : K l.flatten) : Zmq l K := by
  unfold Zmq; refine Zm.over l (fun pre => ((pre.flatten.length : Int), (pre.length : Int), ())) (fun _ => True) rfl trivial (fun pre x post hp hn _ next hx => ?_) (fun _ next _ => ?_)
  . intro _; dsimp only [Zbhh]; have hs := Zbwr (pre := pre) (x := x) (post := post); rw [← hp] at hs; refine ifT (decide_eq_true (by omega)) ⟨by omega, AtN.of (Zbs hp) fun _ => ?_⟩
    rw [Zj (n := (pre.flatten.length : Int) + x.length) (by omega) (by omega)]
    refine ifF (decide_eq_false (by omega)) (of_eq (hx trivial) ?_)
    rw [Zj (by omega) (by omega)]
    simp
  . dsimp only [Zbhh]; refine ifF (decide_eq_false (by omega)) fun _ => Zccr _ _ (by omega) (by omega) fun _ => ?_
    refine Zm.over l (fun pre => (pre.flatten, (pre.length : Int), ())) (fun _ => True) rfl trivial (fun pre x post hp hn _ next hx => ?_) (fun _ next _ => ?_)
    . intro _; dsimp only [Zbgi]; have hs := Zbwr (pre := pre) (x := x) (post := post); rw [← hp] at hs; refine ifT (decide_eq_true (by omega)) ⟨by omega, AtN.of (Zbs hp) fun _ => ⟨by omega, of_eq (hx trivial) ?_⟩⟩
      rw [Zj (by omega) (by omega)]
      simp
    dsimp only [Zbgi]; exact ifF (decide_eq_false (by omega)) h
def attB (fl kind : Int) (data : List UInt8) : List UInt8 :=
  (if 255 < data.length then [ofI .u8 (fl + 16), ofI .u8 (IntKind.wrap .u8 kind), UInt8.ofNat (data.length / 256), UInt8.ofNat data.length] else [ofI .u8 fl, ofI .u8 (IntKind.wrap .u8 kind), UInt8.ofNat data.length]) ++ data
theorem Zdy (fl kind : Int) (data : List UInt8) : (attB fl kind data).length <= data.length + 4 := by unfold attB; split <;> simp
def okFl (fl : Int) : Prop := fl = 64 ∨ fl = 128 ∨ fl = 192 ∨ fl = 224
theorem Zcef {fl : Int} (h : okFl fl) : Zeo .u8 fl 16 = fl + 16 := by rcases h with rfl | rfl | rfl | rfl <;> decide
theorem Zbtq (c : List UInt8) (fl kind : Int) (parts : List (List UInt8)) (K : List UInt8 -> Prop) (hf : okFl fl) (hp : parts.length <= 1000) (hl : parts.flatten.length <= 100000) (hc : c.length <= 100000) (h : K (c ++ attB fl kind parts.flatten)) : Zld c fl kind parts K := by
  unfold Zld; intro _; refine Zbfp parts _ (by omega) (by omega) fun _ => ?_
  rw [Zcef hf]; refine IfB.intro (fun h1 => ?_) (fun h1 => ?_)
  . have h1 : 255 < parts.flatten.length := by simp only [decide_eq_true_eq] at h1; omega
    refine ⟨by decide, by simp only [List.length_cons, List.length_nil]; omega, ?_⟩
    refine ⟨by simp only [List.length_append, List.length_cons, List.length_nil]; omega, of_eq h ?_⟩
    rw [Zqj, of8w, of8w, attB, if_pos h1, List.append_assoc]
  . have h1 : ¬ 255 < parts.flatten.length := by simp only [decide_eq_false_iff_not] at h1; omega
    refine ⟨by simp only [List.length_cons, List.length_nil]; omega, ?_⟩
    refine ⟨by simp only [List.length_append, List.length_cons, List.length_nil]; omega, of_eq h ?_⟩
    rw [of8w, attB, if_neg h1, List.append_assoc]
theorem Zhw (c : List UInt8) (kind : Int) (parts : List (List UInt8)) (K : List UInt8 -> Prop) (hf : okFl (Zcg kind)) (hp : parts.length <= 1000) (hl : parts.flatten.length <= 100000) (hc : c.length <= 100000) (h : K (c ++ attB (Zcg kind) kind parts.flatten)) : Zfi c kind parts K := by unfold Zfi; intro _; exact Zbgv kind _ fun _ _ _ => Zbtq c _ kind parts _ hf hp hl hc fun _ _ => h
theorem Zic (n : Nat) (K : List UInt8 -> Prop) (h : K (be4 n)) : Zgj (n : Int) K := by
  unfold Zgj; refine ⟨by decide, by decide, by decide, of_eq h ?_⟩
  rw [Zqj, Zbxb, Zbkg, of8w, of8w, of8w, of8w]; rfl
theorem Zcga (x : UInt32) (four : Bool) (K : List UInt8 -> Prop) (h : K (Zbf four x)) : Zto (x.toNat : Int) four K := by
  unfold Zto; refine IfB.intro (fun h1 _ => Zic _ _ fun _ => of_eq h ?_) (fun h1 => IfB.intro (fun h2 => ?_) (fun h2 => ?_)); rw [h1]; rfl
  . have h2 : x.toNat > 65535 := by simp only [decide_eq_true_eq] at h2; omega
    dsimp only [Zta]; exact fun _ => Zic 23456 _ fun _ => ⟨by decide, by decide, of_eq h (by simp [Zbf, h1, h2, be2, be4])⟩
  . have h2 : ¬ x.toNat > 65535 := by simp only [decide_eq_false_iff_not] at h2; omega
    dsimp only [Zta]; exact fun _ => Zic _ _ fun _ => ⟨by decide, by simp only [Zea]; decide, of_eq h (by simp [Zbf, h1, h2, be2, be4])⟩
def Zjo (four : Bool) (a : Za) : List UInt8 :=
  (if a.hasMed then attB 128 4 (be4 a.med.toNat) else []) ++ ((if a.atomic then attB 64 6 [] else []) ++ ((if a.hasMaker then attB 192 7 (Zbf four a.makerAS ++ be4 a.maker.toNat) else []) ++ if 0 < a.comms.length then attB 192 8 (a.comms.flatMap fun x => be4 x.toNat) else []))
theorem Zoh : ∀ l : List UInt32, (l.flatMap fun x => be4 x.toNat).length = 4 * l.length
  | [] => rfl
  | x :: l => by simp only [List.flatMap_cons, List.length_append, List.length_cons, Zoh l, Zea]; omega
theorem Zbrq (four : Bool) (a : Za) : (Zjo four a).length <= 4 * a.comms.length + 100 := by unfold Zjo; have h1 := Zdy 128 4 (be4 a.med.toNat); have h2 := Zdy 64 6 []; have h3 := Zdy 192 7 (Zbf four a.makerAS ++ be4 a.maker.toNat); have h4 := Zdy 192 8 (a.comms.flatMap fun x => be4 x.toNat); have h5 := Zyp four a.makerAS; rw [Zoh] at h4; simp only [List.length_append, Zea, List.length_nil] at *; split <;> split <;> split <;> split <;> (try simp only [List.length_nil]) <;> omega
theorem Zccp (c : List UInt8) (a : Za) (four : Bool) (K : List UInt8 -> Prop) (hc : c.length <= 10000) (hm : a.comms.length <= 100) (h : K (c ++ Zjo four a)) : Zpf c a four K := by
  obtain ⟨origin, path, nxt, hasMed, med, hasLocal, loc, atomic, hasMaker, makerAS, maker, comms, others⟩ := a; simp only [Zjo, Za.hasMed, Za.med, Za.atomic, Za.hasMaker, Za.makerAS, Za.maker, Za.comms] at *; have s3 : ∀ (c : List UInt8), c.length <= 20000 -> K (c ++ if 0 < comms.length then attB 192 8 (comms.flatMap fun x => be4 x.toNat) else []) -> Zwj (origin, path, nxt, hasMed, med, hasLocal, loc, atomic, hasMaker, makerAS, maker, comms, others) c K := fun c hc h => by
    dsimp only [Zwj]; refine IfB.intro (fun h1 => ?_) (fun h1 => of_eq h ?_)
    . have h1 : 0 < comms.length := by simpa using h1
      rw [if_pos h1] at h; refine Zm.over comms (fun pre => (pre.map fun x => be4 x.toNat, (pre.length : Int), ())) (fun _ => True) rfl trivial (fun pre x post hp hn _ next hx => ?_) (fun _ next _ => ?_)
      . intro _; dsimp only [Zbgf]; refine ifT (decide_eq_true (by omega)) ⟨by omega, AtN.of (Zbs hp) fun _ _ => Zic _ _ fun _ => ⟨by simp only [List.length_map, List.length_cons, List.length_nil]; omega, of_eq (hx trivial) ?_⟩⟩
        rw [Zj (by omega) (by omega)]
        simp
      . dsimp only [Zbgf]; have e : (comms.map fun x => be4 x.toNat).flatten = comms.flatMap fun x => be4 x.toNat := by simp [List.flatMap]
        have hfl := Zoh comms; refine ifF (decide_eq_false (by omega)) fun _ _ => Zhw c 8 _ _ (.inr (.inr (.inl rfl))) (by simp; omega) (by rw [e]; omega) (by omega) fun _ _ => of_eq h ?_
        rw [e]; rfl
    . have h1 : ¬ 0 < comms.length := by simp at h1; simp [h1]
      rw [if_neg h1, List.append_nil]
  have s2 : ∀ (c : List UInt8), c.length <= 15000 -> K (c ++ ((if hasMaker then attB 192 7 (Zbf four makerAS ++ be4 maker.toNat) else []) ++ if 0 < comms.length then attB 192 8 (comms.flatMap fun x => be4 x.toNat) else [])) -> Zwl four (origin, path, nxt, hasMed, med, hasLocal, loc, atomic, hasMaker, makerAS, maker, comms, others) c K := fun c hc h => by
    dsimp only [Zwl]; have hl := Zyp four makerAS; have hb := Zdy 192 7 (Zbf four makerAS ++ be4 maker.toNat); simp only [List.length_append, Zea] at hb; refine IfB.intro (fun h1 _ => Zcga _ _ _ fun _ _ => Zic _ _ fun _ _ _ => Zhw c 7 _ _ (.inr (.inr (.inl rfl))) (by simp) ?_ (by omega) fun _ _ => s3 _ ?_ (of_eq h ?_)) (fun h1 => s3 _ (by omega) (of_eq h ?_))
    simp only [List.flatten_cons, List.flatten_nil, List.append_nil, List.length_append, Zea]; omega; simp only [List.flatten_cons, List.flatten_nil, List.append_nil, List.length_append]; have : Zcg 7 = 192 := rfl; rw [this]; omega; rw [if_pos h1, ← List.append_assoc]; simp only [List.flatten_cons, List.flatten_nil, List.append_nil]; rfl; rw [h1]; simp
  have s1 : ∀ (c : List UInt8), c.length <= 12000 -> K (c ++ ((if atomic then attB 64 6 [] else []) ++ ((if hasMaker then attB 192 7 (Zbf four makerAS ++ be4 maker.toNat) else []) ++ if 0 < comms.length then attB 192 8 (comms.flatMap fun x => be4 x.toNat) else []))) -> Zum four (origin, path, nxt, hasMed, med, hasLocal, loc, atomic, hasMaker, makerAS, maker, comms, others) c K := fun c hc h => by
    dsimp only [Zum]; have hb := Zdy 64 6 []; simp only [List.length_nil] at hb; refine IfB.intro (fun h1 _ _ => Zhw c 6 _ _ (.inl rfl) (by decide) (by decide) (by omega) fun _ _ => s2 _ ?_ (of_eq h ?_)) (fun h1 => s2 _ (by omega) (of_eq h ?_))
    have : Zcg 6 = 64 := rfl; rw [this]; simp only [List.length_append, List.flatten_nil]; omega; rw [if_pos h1, ← List.append_assoc]; rfl; rw [h1]; simp
  dsimp only [Zpf]; have hb := Zdy 128 4 (be4 med.toNat); simp only [Zea] at hb; refine IfB.intro (fun h1 _ => Zic _ _ fun _ _ _ => Zhw c 4 _ _ (.inr (.inl rfl)) (by simp) ?_ (by omega) fun _ _ => s1 _ ?_ (of_eq h ?_)) (fun h1 => s1 _ (by omega) (of_eq h ?_))
  simp [Zea]; simp only [List.flatten_cons, List.flatten_nil, List.append_nil, List.length_append]; have : Zcg 4 = 128 := rfl; rw [this]; omega; rw [if_pos h1, ← List.append_assoc]; simp only [List.flatten_cons, List.flatten_nil, List.append_nil]; rfl; rw [h1]; simp
end Go.Proofs.YtboagabgpcghcaaGreatDoor
namespace Go.Proofs.YtboagabgpcghcaaGreatDoor
open Go.Sh
def Zbn (x : UInt32) : Bool := decide (65535 < x.toNat)
def Zco (p : List Seg) : Bool := p.any fun s => s.2.any Zbn
theorem Zbmy (x : UInt32) : decide ((x.toNat : Int) > 65535) = Zbn x := by unfold Zbn; congr 1; apply propext; omega
theorem Zbzw (l : List UInt32) (K : Int -> Prop) (hl : l.length <= 9223372036854775807) (h1 : ∀ i : Nat, l.any Zbn = true -> K i) (h2 : l.any Zbn = false -> K (-1)) : Ztc l K := by
  unfold Ztc; refine Zm.over l (fun pre => ((pre.length : Int), ())) (fun pre => pre.any Zbn = false) rfl rfl (fun pre x post hp hn hP next hx => ?_) (fun hP next _ => ?_)
  . intro _; dsimp only [Zbhq, Zbgs]; refine ifT (decide_eq_true (by omega)) ⟨by omega, AtN.of (Zbs hp) fun _ _ _ => ?_⟩
    rw [Zbmy]; refine IfB.intro (fun h => h1 _ ?_) (fun h => of_eq (hx ?_) ?_); rw [hp]; simp [h]; rw [List.any_append, hP]; simp [h]
    . rw [Zj (by omega) (by omega)]; simp
  dsimp only [Zbhq]; exact ifF (decide_eq_false (by omega)) (h2 hP)
theorem Zchb (s : Seg) (K : Bool -> Prop) (hl : s.2.length <= 9223372036854775807) (h : K (s.2.any Zbn)) : Zxs s K := by
  unfold Zxs; intro _; unfold Zbgk; intro _; refine Zbzw s.2 _ hl (fun i hi _ _ => of_eq h ?_) (fun hi _ _ => of_eq h ?_); rw [hi, decide_eq_true (by omega)]
  rw [hi]; rfl
theorem Zcri (l : List Seg) (K : Int -> Prop) (hl : l.length <= 9223372036854775807) (hs : ∀ s ∈ l, s.2.length <= 9223372036854775807) (h1 : ∀ i : Nat, Zco l = true -> K i) (h2 : Zco l = false -> K (-1)) : Zzi l K := by
  unfold Zzi; refine Zm.over l (fun pre => ((pre.length : Int), ())) (fun pre => Zco pre = false) rfl rfl (fun pre x post hp hn hP next hx => ?_) (fun hP next _ => ?_)
  . intro _; dsimp only [Zbfl]; refine ifT (decide_eq_true (by omega)) ⟨by omega, AtN.of (Zbs hp) fun _ _ => Zchb x _ (hs x (by simp [hp])) fun _ => ?_⟩
    refine IfB.intro (fun h => h1 _ ?_) (fun h => of_eq (hx ?_) ?_); rw [hp]; simp only [Zco, List.any_append, List.any_cons, h, Bool.true_or, Bool.or_true]; simp only [Zco] at hP; simp only [Zco, List.any_append, hP, List.any_cons, h, List.any_nil, Bool.or_false]
    . rw [Zj (by omega) (by omega)]; simp
  dsimp only [Zbfl]; exact ifF (decide_eq_false (by omega)) (h2 hP)
theorem Zcdz (p : List Seg) (K : Bool -> Prop) (hl : p.length <= 9223372036854775807) (hs : ∀ s ∈ p, s.2.length <= 9223372036854775807) (h : K (Zco p)) : Zvy p K := by
  unfold Zvy; intro _; unfold Zbde; intro _; refine Zcri p _ hl hs (fun i hi _ _ => of_eq h ?_) (fun hi _ _ => of_eq h ?_); rw [hi, decide_eq_true (by omega)]
  rw [hi]; rfl
def Zht (four : Bool) (a : Za) : List UInt8 := attB 64 1 [ofI .u8 (IntKind.wrap .u8 a.origin)] ++ (attB 64 2 (Zbg four a.path) ++ attB 64 3 (be4 a.next.toNat))
def oldB (four : Bool) (a : Za) : List UInt8 :=
  (if !four && Zco a.path then attB 192 17 (Zbg true a.path) else []) ++ if !four && (a.hasMaker && Zbn a.makerAS) then attB 192 18 (be4 a.makerAS.toNat ++ be4 a.maker.toNat) else []
def Zej (l : List Raw) : List UInt8 := l.flatMap fun x => attB 224 x.1 x.2
def Zhs (four : Bool) (a : Za) : List UInt8 := Zht four a ++ (Zjo four a ++ (oldB four a ++ Zej a.others))
theorem Zot {four : Bool} {p : List Seg} (hok : Zba p = true) : (Zbg four p).length <= 1000 := by simp only [Zba, Bool.and_eq_true, decide_eq_true_eq] at hok; have h1 := Zbbn p hok.1; have h2 := Zzs four p; omega
theorem Zcuu {four : Bool} {a : Za} (h : Zba a.path = true) : (Zht four a).length <= 1100 := by unfold Zht; have h1 := Zdy 64 1 [ofI .u8 (IntKind.wrap .u8 a.origin)]; have h2 := Zdy 64 2 (Zbg four a.path); have h3 := Zdy 64 3 (be4 a.next.toNat); have h4 := Zot (four := four) h; simp only [List.length_append, Zea, List.length_cons, List.length_nil] at *; omega
theorem Zbda : ∀ (l : List Raw) (last : Int), Zcc last l = true -> (Zej l).length <= 259 * l.length
  | [], _, _ => by simp [Zej]
  | x :: l, last, h => by
    simp only [Zcc, Bool.and_eq_true, decide_eq_true_eq] at h; have h1 := Zbda l x.1 h.2; have h2 := Zdy 224 x.1 x.2; have h3 : (Zej (x :: l)).length = (attB 224 x.1 x.2).length + (Zej l).length := by simp [Zej]
    have h4 := h.1.2; simp only [List.length_cons]; omega
theorem Zccl (a : Za) (four : Bool) (K : List UInt8 -> Int -> Prop) (hl : a.path.length <= 9223372036854775807) (hc : cnt a.path <= 9223372036854775807) (hs : ∀ s ∈ a.path, s.2.length <= 9223372036854775807) (ho : a.others.length <= 9223372036854775807)
    (h : K (if Zec a then Zhs four a else []) (Zgy (Zec a))) : Zzy a four K := by
  unfold Zzy; simp only [Zel]; intro _; refine Zcmg a _ hl hc ho fun _ => ?_; rw [Zbca]; refine IfB.intro (fun h1 => ?_) (fun h1 _ => Zbrw a.path four _ hl hc fun _ _ => ?_)
  . have h1 : Zec a = false := by simpa using h1
    rw [h1] at h ⊢; exact h
  have h1 : Zec a = true := by simpa using h1
  rw [h1] at h; have hok := h1; simp only [Zec, Bool.and_eq_true, decide_eq_true_eq, Bool.not_eq_true'] at hok; obtain ⟨⟨⟨⟨⟨⟨_, _⟩, hpok⟩, _⟩, _⟩, hcm⟩, hoth, hol⟩ := hok; rw [if_pos hpok]; have hps := Zot (four := four) hpok; have hpt := Zot (four := true) hpok; have s4 : ∀ c : List UInt8, c.length <= 20000 -> K (c ++ Zej a.others) 0 -> Zbal a c K := fun c hc h => by
    dsimp only [Zbal, Zbjs]; refine Zm.over a.others (fun pre => ((pre.length : Int), c ++ Zej pre, ())) (fun _ => True) (by simp [Zej]) trivial (fun pre x post hp hn _ next hx => ?_) (fun _ next _ => ?_)
    . intro _; dsimp only [Zbit]; have hpre : Zcc (-1) pre = true ∧ Zcc (lastOf (-1) pre) (x :: post) = true := by have := hoth; rw [hp, Zqc, Bool.and_eq_true] at this; exact this
      have hb := Zbda pre _ hpre.1; have hx2 : x.2.length <= 255 := by have := hpre.2; simp only [Zcc, Bool.and_eq_true, decide_eq_true_eq] at this; exact this.1.2
      refine ifT (decide_eq_true (show (pre.length : Int) < (a.others.length : Int) by omega)) ⟨by omega, AtN.of (Zbs hp) fun _ _ _ => ?_⟩
      refine Zbtq _ 224 x.1 [x.2] _ (.inr (.inr (.inr rfl))) (by simp) (by simp; omega) (by simp only [List.length_append]; omega) fun _ _ => of_eq (hx trivial) ?_
      rw [Zj (by omega) (by omega)]
      simp [Zej]
    dsimp only [Zbit]; exact ifF (decide_eq_false (show ¬ (a.others.length : Int) < (a.others.length : Int) by omega)) h
  have s3 : ∀ (c : List UInt8) (b : Bool), c.length <= 10000 -> K (c ++ ((if b then attB 192 18 (be4 a.makerAS.toNat ++ be4 a.maker.toNat) else []) ++ Zej a.others)) 0 -> Zos a c b K := fun c b hc h => by
    dsimp only [Zos]; have hb := Zdy 192 18 (be4 a.makerAS.toNat ++ be4 a.maker.toNat); simp only [List.length_append, Zea] at hb; refine IfB.intro (fun h1 _ => Zic _ _ fun _ _ => Zic _ _ fun _ _ _ => Zhw c 18 _ _ (.inr (.inr (.inl rfl))) (by simp) ?_ (by omega) fun _ _ => s4 _ ?_ (Zhi h ?_)) (fun h1 => s4 _ (by omega) (Zhi h ?_))
    simp only [List.flatten_cons, List.flatten_nil, List.append_nil, List.length_append, Zea]; omega
    . simp only [List.flatten_cons, List.flatten_nil, List.append_nil, List.length_append]; have : Zcg 18 = 192 := rfl; rw [this]; (dsimp only [Za.origin, Za.path, Za.next, Za.hasMed, Za.med, Za.hasLocal, Za.loc, Za.atomic, Za.hasMaker, Za.makerAS, Za.maker, Za.comms, Za.others] at *; omega)
    rw [if_pos h1, ← List.append_assoc]; simp only [List.flatten_cons, List.flatten_nil, List.append_nil]; rfl; rw [h1]; simp
  have s2 : ∀ (c : List UInt8), c.length <= 9000 -> K (c ++ ((if !four && (a.hasMaker && Zbn a.makerAS) then attB 192 18 (be4 a.makerAS.toNat ++ be4 a.maker.toNat) else []) ++ Zej a.others)) 0 -> Zbas four a c K := fun c hc h => by
    dsimp only [Zbas]; rw [Zbmy]; refine IfB.intro (fun h1 => IfB.intro (fun h2 => s3 _ _ (by omega) (Zhi h ?_)) (fun h2 => s3 _ _ (by omega) (Zhi h ?_))) (fun h1 => s3 _ _ (by omega) (Zhi h ?_))
    have h2 : a.hasMaker = true := h2; rw [h1, h2]; rfl; have h2 : a.hasMaker = false := h2; rw [h1, h2]; rfl; rw [h1]; rfl
  have s1 : ∀ (c : List UInt8) (b : Bool), c.length <= 5000 -> K (c ++ ((if b then attB 192 17 (Zbg true a.path) else []) ++ ((if !four && (a.hasMaker && Zbn a.makerAS) then attB 192 18 (be4 a.makerAS.toNat ++ be4 a.maker.toNat) else []) ++ Zej a.others))) 0 -> Zye four a c b K := fun c b hc' h => by
    dsimp only [Zye]; have hb := Zdy 192 17 (Zbg true a.path); refine IfB.intro (fun h1 _ => Zbrw a.path true _ hl hc fun _ _ _ => Zhw c 17 _ _ (.inr (.inr (.inl rfl))) (by simp) ?_ (by omega) fun _ _ => s2 _ ?_ (Zhi h ?_)) (fun h1 => s2 _ (by omega) (Zhi h ?_))
    rw [if_pos hpok]; simp only [List.flatten_cons, List.flatten_nil, List.append_nil]; omega
    . rw [if_pos hpok]; simp only [List.flatten_cons, List.flatten_nil, List.append_nil, List.length_append]; have : Zcg 17 = 192 := rfl; rw [this]; (dsimp only [Za.origin, Za.path, Za.next, Za.hasMed, Za.med, Za.hasLocal, Za.loc, Za.atomic, Za.hasMaker, Za.makerAS, Za.maker, Za.comms, Za.others] at *; omega)
    rw [if_pos h1, if_pos hpok, ← List.append_assoc]; simp only [List.flatten_cons, List.flatten_nil, List.append_nil]; rfl; rw [h1]; simp
  have hh := Zcuu (four := four) hpok; have hhd : Zht four a = attB 64 1 [ofI .u8 (IntKind.wrap .u8 a.origin)] ++ (attB 64 2 (Zbg four a.path) ++ attB 64 3 (be4 a.next.toNat)) := rfl; have hhl : (Zht four a).length = (attB 64 1 [ofI .u8 (IntKind.wrap .u8 a.origin)]).length + ((attB 64 2 (Zbg four a.path)).length + (attB 64 3 (be4 a.next.toNat)).length) := by rw [hhd]; simp only [List.length_append]
  have hp := Zbrq four a; have f1 : Zcg 1 = 64 := rfl; have f2 : Zcg 2 = 64 := rfl; have f3 : Zcg 3 = 64 := rfl; have e1 : ∀ x : List UInt8, [x].flatten = x := fun x => by simp
  refine fun _ => Zhw [] 1 _ _ (.inl rfl) (by simp) (by simp) (by simp) fun _ _ _ => ?_
  rw [e1, f1, List.nil_append]; refine fun _ => Zhw _ 2 _ _ (.inl rfl) (by simp) (by rw [e1]; (dsimp only [Za.origin, Za.path, Za.next, Za.hasMed, Za.med, Za.hasLocal, Za.loc, Za.atomic, Za.hasMaker, Za.makerAS, Za.maker, Za.comms, Za.others] at *; omega)) (by (dsimp only [Za.origin, Za.path, Za.next, Za.hasMed, Za.med, Za.hasLocal, Za.loc, Za.atomic, Za.hasMaker, Za.makerAS, Za.maker, Za.comms, Za.others] at *; omega)) fun _ _ _ => ?_
  rw [e1, f2]; refine Zic _ _ fun _ _ _ => Zhw _ 3 _ _ (.inl rfl) (by simp) (by rw [e1, Zea]; decide) (by simp only [List.length_append]; (dsimp only [Za.origin, Za.path, Za.next, Za.hasMed, Za.med, Za.hasLocal, Za.loc, Za.atomic, Za.hasMaker, Za.makerAS, Za.maker, Za.comms, Za.others] at *; omega)) fun _ _ => ?_
  rw [e1, f3, List.append_assoc]; rw [← hhd]; refine fun _ _ => Zccp _ a four _ (by (dsimp only [Za.origin, Za.path, Za.next, Za.hasMed, Za.med, Za.hasLocal, Za.loc, Za.atomic, Za.hasMaker, Za.makerAS, Za.maker, Za.comms, Za.others] at *; omega)) (by (dsimp only [Za.origin, Za.path, Za.next, Za.hasMed, Za.med, Za.hasLocal, Za.loc, Za.atomic, Za.hasMaker, Za.makerAS, Za.maker, Za.comms, Za.others] at *; omega)) fun _ _ => ?_
  have hfin : K ((Zht four a ++ Zjo four a) ++ ((if !four && Zco a.path then attB 192 17 (Zbg true a.path) else []) ++ ((if !four && (a.hasMaker && Zbn a.makerAS) then attB 192 18 (be4 a.makerAS.toNat ++ be4 a.maker.toNat) else []) ++ Zej a.others))) 0 := by
    have e : Zhs four a = (Zht four a ++ Zjo four a) ++ ((if !four && Zco a.path then attB 192 17 (Zbg true a.path) else []) ++ ((if !four && (a.hasMaker && Zbn a.makerAS) then attB 192 18 (be4 a.makerAS.toNat ++ be4 a.maker.toNat) else []) ++ Zej a.others)) := by unfold Zhs oldB; simp only [List.append_assoc]
    rw [← e]; exact h
  refine IfB.intro (fun h1 _ => Zcdz a.path _ hl hs fun _ => s1 _ _ (by simp only [List.length_append]; (dsimp only [Za.origin, Za.path, Za.next, Za.hasMed, Za.med, Za.hasLocal, Za.loc, Za.atomic, Za.hasMaker, Za.makerAS, Za.maker, Za.comms, Za.others] at *; omega)) (Zhi hfin ?_)) (fun h1 => s1 _ _ (by simp only [List.length_append]; (dsimp only [Za.origin, Za.path, Za.next, Za.hasMed, Za.med, Za.hasLocal, Za.loc, Za.atomic, Za.hasMaker, Za.makerAS, Za.maker, Za.comms, Za.others] at *; omega)) (Zhi hfin ?_))
  rw [h1]; rfl; rw [h1]; rfl
end Go.Proofs.YtboagabgpcghcaaGreatDoor
namespace Go.Proofs.YtboagabgpcghcaaGreatDoor
open Go.Sh
end Go.Proofs.YtboagabgpcghcaaGreatDoor
namespace Go.Proofs.YtboagabgpcghcaaGreatDoor
open Go.Sh
end Go.Proofs.YtboagabgpcghcaaGreatDoor
namespace Go.Proofs.YtboagabgpcghcaaGreatDoor
open Go.Sh
end Go.Proofs.YtboagabgpcghcaaGreatDoor
namespace Go.Proofs.YtboagabgpcghcaaGreatDoor
open Go.Sh
end Go.Proofs.YtboagabgpcghcaaGreatDoor
end
section
namespace Go.Proofs.YtboagabgpcghcaaGreatDoor
open Go.Sh
def numB (l : List UInt8) : Nat := l.foldl (fun a x => a * 256 + x.toNat) 0
theorem Zqs (n : Nat) (h : n < 4294967296) : numB (be4 n) = n := by simp only [numB, be4, List.foldl_cons, List.foldl_nil, UInt8.toNat_ofNat']; omega
theorem Zblw (n : Nat) (h : n < 65536) : numB (be2 n) = n := by simp only [numB, be2, List.foldl_cons, List.foldl_nil, UInt8.toNat_ofNat']; omega
def decN (size : Nat) : Nat -> List UInt8 -> List UInt32
  | 0, _ => []
  | k + 1, b => UInt32.ofNat (numB (b.take size)) :: decN size k (b.drop size)
theorem Zts (size : Nat) : ∀ (k : Nat) (b : List UInt8), (decN size k b).length = k
  | 0, _ => rfl
  | k + 1, b => by simp [decN, Zts size k]
def Zcu (four : Bool) : Nat := if four then 4 else 2
def Zet (size : Nat) : Nat -> List UInt8 -> Option (List Seg)
  | _, [] => some []
  | 0, _ :: _ => none
  | _ + 1, [_] => none
  | f + 1, k :: n :: r => if (k = 1 ∨ k = 2) ∧ n.toNat * size <= r.length then (Zet size f (r.drop (n.toNat * size))).map fun t => (k == 1, decN size n.toNat r) :: t else none
theorem Zbwc (size : Nat) : ∀ (f g : Nat) (b : List UInt8), b.length <= f -> b.length <= g -> Zet size f b = Zet size g b
  | 0, 0, _, _, _ => rfl
  | 0, _ + 1, [], _, _ => rfl
  | 0, _ + 1, _ :: _, h, _ => by simp at h
  | _ + 1, 0, [], _, _ => rfl
  | _ + 1, 0, _ :: _, _, h => by simp at h
  | _ + 1, _ + 1, [], _, _ => rfl
  | _ + 1, _ + 1, [_], _, _ => rfl
  | f + 1, g + 1, k :: n :: r, hf, hg => by simp only [List.length_cons] at hf hg; simp only [Zet]; rw [Zbwc size f g _ (by simp only [List.length_drop]; omega) (by simp only [List.length_drop]; omega)]
def Zeg (four : Bool) (b : List UInt8) : Option (List Seg) := match Zet (Zcu four) b.length b with
  | some p => if Zba p = true then some p else none
  | none => none
def trA (four : Bool) (x : UInt32) : UInt32 := if four then x else if x.toNat > 65535 then 23456 else x
def trS (four : Bool) (s : Seg) : Seg := (s.1, s.2.map (trA four))
theorem Zxn (four : Bool) (x : UInt32) : (Zbf four x).length = Zcu four := by unfold Zbf Zcu; cases four <;> rfl
theorem Zbpx (four : Bool) : ∀ l : List UInt32, (l.flatMap (Zbf four)).length = l.length * Zcu four
  | [] => by simp
  | x :: l => by simp only [List.flatMap_cons, List.length_append, Zxn, Zbpx four l, List.length_cons, Nat.succ_mul]; omega
theorem Zbep (four : Bool) (x : UInt32) : UInt32.ofNat (numB (Zbf four x)) = trA four x := by
  have hx := UInt32.toNat_lt x; unfold Zbf trA; cases four with
  | true => rw [if_pos rfl, if_pos rfl, Zqs _ hx]; simp
  | false =>
    simp only [Bool.false_eq_true, if_false]; by_cases h : x.toNat > 65535
    . rw [if_pos h, if_pos h, Zblw _ (by omega)]; rfl
    . rw [if_neg h, if_neg h, Zblw _ (by omega)]; simp
theorem Zbwe (four : Bool) (rest : List UInt8) : ∀ l : List UInt32, decN (Zcu four) l.length (l.flatMap (Zbf four) ++ rest) = l.map (trA four)
  | [] => rfl
  | x :: l => by
    simp only [List.length_cons, decN, List.flatMap_cons, List.append_assoc, List.map_cons]; have h1 : (Zbf four x ++ (l.flatMap (Zbf four) ++ rest)).take (Zcu four) = Zbf four x := by rw [← Zxn four x, List.take_left]
    have h2 : (Zbf four x ++ (l.flatMap (Zbf four) ++ rest)).drop (Zcu four) = l.flatMap (Zbf four) ++ rest := by rw [← Zxn four x, List.drop_left]
    rw [h1, h2, Zbep, Zbwe four rest l]
theorem Zbmt (four : Bool) : ∀ (p : List Seg) (f : Nat), p.all Zes = true -> (Zbg four p).length <= f -> Zet (Zcu four) f (Zbg four p) = some (p.map (trS four))
  | [], f, _, _ => by show Zet _ f [] = some []; cases f <;> rfl
  | s :: p, f, hok, hf => by
    simp only [List.all_cons, Bool.and_eq_true] at hok; have hs := hok.1; simp only [Zes, Bool.and_eq_true, decide_eq_true_eq] at hs; have e : Zbg four (s :: p) = (if s.1 then 1 else 2) :: UInt8.ofNat s.2.length :: (s.2.flatMap (Zbf four) ++ Zbg four p) := by simp [Zbg, Zpi]
    rw [e] at hf ⊢; simp only [List.length_cons, List.length_append] at hf; have hn : (UInt8.ofNat s.2.length).toNat = s.2.length := by rw [UInt8.toNat_ofNat']; omega
    cases f with
    | zero => omega
    | succ f =>
      simp only [Zet]; have hlen := Zbpx four s.2; rw [hn, if_pos ⟨by cases s.1 <;> simp, by rw [List.length_append, hlen]; omega⟩, ← hlen, List.drop_left, Zbmt four p f hok.2 (by omega), Zbwe]
      simp only [Option.map_some, List.map_cons, trS]; congr 2; cases s.1 <;> rfl
theorem Zbqp {four : Bool} {x : UInt32} (h : (x != 0) = true) : (trA four x != 0) = true := by unfold trA; split; exact h; split; decide; exact h
theorem Zchy {four : Bool} {s : Seg} (h : Zes s = true) : Zes (trS four s) = true := by simp only [Zes, trS, Bool.and_eq_true, decide_eq_true_eq, List.length_map, List.all_eq_true] at h ⊢; refine ⟨h.1, fun x hx => ?_⟩; obtain ⟨y, hy, rfl⟩ := List.mem_map.1 hx; exact Zbqp (h.2 y hy)
theorem Zcom {four : Bool} {p : List Seg} (h : Zba p = true) : Zba (p.map (trS four)) = true := by
  simp only [Zba, Bool.and_eq_true, decide_eq_true_eq] at h ⊢; refine ⟨List.all_eq_true.2 fun x hx => ?_, ?_⟩; obtain ⟨y, hy, rfl⟩ := List.mem_map.1 hx; exact Zchy (List.all_eq_true.1 h.1 y hy)
  . have : cnt (p.map (trS four)) = cnt p := by simp only [cnt, List.map_map]; congr 1; exact List.map_congr_left fun s _ => by simp [trS]
    rw [this]; exact h.2
theorem Zbpc (four : Bool) {p : List Seg} (h : Zba p = true) : Zeg four (Zbg four p) = some (p.map (trS four)) := by
  unfold Zeg; rw [Zbmt four p _ (by simp only [Zba, Bool.and_eq_true] at h; exact h.1) (Nat.le_refl _)]
  simp only [Zcom h, if_true]
theorem Zbxv (p : List Seg) : p.map (trS true) = p := by
  conv => rhs; rw [← List.map_id p]
  exact List.map_congr_left fun s _ => by
    have : s.2.map (trA true) = s.2 := by
      conv => rhs; rw [← List.map_id s.2]
      exact List.map_congr_left fun x _ => rfl
    simp only [trS, this]; rfl
theorem Zcqf {p : List Seg} (h : Zco p = false) : p.map (trS false) = p := by
  conv => rhs; rw [← List.map_id p]
  refine List.map_congr_left fun s hs => ?_; have : s.2.map (trA false) = s.2 := by
    conv => rhs; rw [← List.map_id s.2]
    refine List.map_congr_left fun x hx => ?_; have hb : Zbn x = false := by
      cases hb : Zbn x with
      | false => rfl
      | true =>
        have : Zco p = true := List.any_eq_true.2 ⟨s, hs, List.any_eq_true.2 ⟨x, hx, hb⟩⟩; rw [this] at h; cases h
    have : ¬ x.toNat > 65535 := by unfold Zbn at hb; have := of_decide_eq_false hb; omega
    show trA false x = x; unfold trA; rw [if_neg (by decide), if_neg this]
  simp only [trS, this]; rfl
theorem Zbov {four : Bool} {b : List UInt8} {p : List Seg} (h : Zeg four b = some p) : Zba p = true := by unfold Zeg at h; split at h; split at h; rename_i hp; cases h; exact hp; cases h; cases h
def lenP (p : List Seg) : Nat := (p.map fun s => if s.1 then 1 else s.2.length).sum
def Zck : List Seg -> Nat -> List Seg
  | _, 0 => []
  | [], _ => []
  | s :: r, n + 1 => if s.1 then s :: Zck r n else (s.1, s.2.take (n + 1)) :: Zck r (n + 1 - min (n + 1) s.2.length)
def Zin (out rest : List Seg) : List Seg := match out.getLast?, rest with
  | some l, r :: rest' => if !l.1 && !r.1 then out.dropLast ++ (l.1, l.2 ++ r.2) :: rest' else out ++ rest
  | _, _ => out ++ rest
def Zds (two four : List Seg) : List Seg := if lenP two < lenP four then two else Zin (Zck two (lenP two - lenP four)) four
theorem Zcid (four : Bool) (p : List Seg) : lenP (p.map (trS four)) = lenP p := by unfold lenP; rw [List.map_map]; congr 1; exact List.map_congr_left fun s _ => by simp [trS]
theorem Zcdi (p : List Seg) : Zds (p.map (trS false)) p = p := by
  unfold Zds; rw [Zcid, if_neg (Nat.lt_irrefl _), Nat.sub_self]; have : Zck (p.map (trS false)) 0 = [] := by cases p <;> rfl
  rw [this]; rfl
def Zeh : List UInt8 -> Option (Nat × Nat × List UInt8 × Nat)
  | fl :: kd :: n1 :: r =>
    if fl.toNat / 16 % 2 = 1 then match r with
      | n2 :: r' => if n1.toNat * 256 + n2.toNat <= r'.length then some (fl.toNat / 64 * 64, kd.toNat, r'.take (n1.toNat * 256 + n2.toNat), 4 + (n1.toNat * 256 + n2.toNat)) else none
      | [] => none
    else if n1.toNat <= r.length then some (fl.toNat / 64 * 64, kd.toNat, r.take n1.toNat, 3 + n1.toNat) else none
  | _ => none
theorem Zbiw {b : List UInt8} {fl kd : Nat} {d : List UInt8} {n : Nat} (h : Zeh b = some (fl, kd, d, n)) : 3 <= n ∧ n <= b.length ∧ kd < 256 ∧ d.length + 3 <= n := by unfold Zeh at h; split at h; rename_i f k n1 r; have hk := UInt8.toNat_lt k; split at h; split at h; rename_i n2 r'; split at h; rename_i hle; simp only [Option.some.injEq, Prod.mk.injEq] at h; obtain ⟨rfl, rfl, rfl, rfl⟩ := h; simp only [List.length_cons, List.length_take]; omega; cases h; cases h; split at h; rename_i hle; simp only [Option.some.injEq, Prod.mk.injEq] at h; obtain ⟨rfl, rfl, rfl, rfl⟩ := h; simp only [List.length_cons, List.length_take]; omega; cases h; cases h
def twoF (fl : Int) : Nat := fl.toNat / 64 * 64
theorem Zcmc {fl : Int} {kind : Nat} {data rest : List UInt8} (hf : okFl fl) (hk : kind < 256) (hd : data.length <= 65535) : Zeh (attB fl kind data ++ rest) = some (twoF fl, kind, data, (attB fl kind data).length) := by
  have hkd : (ofI .u8 (IntKind.wrap .u8 (kind : Int)) : UInt8).toNat = kind := by
    have e : IntKind.wrap .u8 (kind : Int) = (kind : Int) := by rw [Zlo]; omega
    rw [e]; have e2 : (ofI .u8 (kind : Int) : UInt8) = UInt8.ofNat kind := by simp [ofI]
    rw [e2, UInt8.toNat_ofNat', Nat.mod_eq_of_lt (by omega)]
  have hfl : ∃ f : Nat, fl = (f : Int) ∧ f + 16 < 256 ∧ f / 16 % 2 = 0 ∧ (f + 16) / 64 = f / 64 := by
    rcases hf with rfl | rfl | rfl | rfl; exact ⟨64, rfl, by decide, by decide, by decide⟩
    exact ⟨128, rfl, by decide, by decide, by decide⟩
    exact ⟨192, rfl, by decide, by decide, by decide⟩
    exact ⟨224, rfl, by decide, by decide, by decide⟩
  obtain ⟨f, rfl, hf1, hf2, hf3⟩ := hfl; have o1 : ∀ m : Nat, m < 256 -> (ofI .u8 (m : Int) : UInt8).toNat = m := fun m hm => by
    have e2 : (ofI .u8 (m : Int) : UInt8) = UInt8.ofNat m := by simp [ofI]
    rw [e2, UInt8.toNat_ofNat', Nat.mod_eq_of_lt (by omega)]
  have e16 : ((f : Int) + 16) = ((f + 16 : Nat) : Int) := by omega
  unfold attB twoF; rw [Int.toNat_natCast]; by_cases h : 255 < data.length
  . rw [if_pos h, e16]; simp only [List.cons_append, List.nil_append, Zeh, o1 _ hf1, hkd, UInt8.toNat_ofNat']; have e : data.length / 256 % 256 * 256 + data.length % 256 = data.length := by omega
    rw [if_pos (by omega), e, if_pos (by rw [List.length_append]; omega), List.take_left]
    simp only [Option.some.injEq, Prod.mk.injEq, true_and, List.length_cons]; omega
  . rw [if_neg h]; simp only [List.cons_append, List.nil_append, Zeh, o1 f (by omega), hkd, UInt8.toNat_ofNat']
    have e : data.length % 256 = data.length := by omega
    rw [if_neg (by omega), e, if_pos (by rw [List.length_append]; omega), List.take_left]
    simp only [Option.some.injEq, Prod.mk.injEq, true_and, List.length_cons]; omega
end Go.Proofs.YtboagabgpcghcaaGreatDoor
namespace Go.Proofs.YtboagabgpcghcaaGreatDoor
open Go.Sh
structure RdS where
  a : Za
  worst : Nat
  seen : List Nat
  p4 : Option (List Seg)
  m4 : Option (UInt32 × UInt32)
def Zcp : Za := (0, [], 0, false, 0, false, 0, false, false, 0, 0, [], [])
def rd0 : RdS := ⟨Zcp, 0, [], none, none⟩
def RdS.found (s : RdS) (w : Nat) : RdS := ⟨s.a, max s.worst w, s.seen, s.p4, s.m4⟩
def RdS.put (s : RdS) (a : Za) : RdS := ⟨a, s.worst, s.seen, s.p4, s.m4⟩
def RdS.see (s : RdS) (k : Nat) : RdS := ⟨s.a, s.worst, k :: s.seen, s.p4, s.m4⟩
def u32B (d : List UInt8) : UInt32 := UInt32.ofNat (numB d)
def oneF (four : Bool) (kind : Nat) (d : List UInt8) (s : RdS) : RdS :=
  let (origin, path, nxt, hasMed, med, hasLocal, loc, atomic, hasMaker, makerAS, maker, comms, others) := s.a
  if kind = 1 then (if d.length = 1 ∧ (d.headD 0).toNat <= 2 then s.put (((d.headD 0).toNat : Int), path, nxt, hasMed, med, hasLocal, loc, atomic, hasMaker, makerAS, maker, comms, others) else s.found 2)
  else if kind = 2 then (match Zeg four d with
    | some p => s.put (origin, p, nxt, hasMed, med, hasLocal, loc, atomic, hasMaker, makerAS, maker, comms, others)
    | none => s.found 2)
  else if kind = 3 then (if d.length = 4 ∧ numB d ≠ 0 ∧ numB d < 3758096384 then s.put (origin, path, u32B d, hasMed, med, hasLocal, loc, atomic, hasMaker, makerAS, maker, comms, others) else s.found 2)
  else if kind = 4 then (if d.length = 4 then s.put (origin, path, nxt, true, u32B d, hasLocal, loc, atomic, hasMaker, makerAS, maker, comms, others) else s.found 2)
  else if kind = 6 then (if d.length = 0 then s.put (origin, path, nxt, hasMed, med, hasLocal, loc, true, hasMaker, makerAS, maker, comms, others) else s.found 1)
  else if kind = 7 then (if d.length = Zcu four + 4 ∧ numB (d.take (Zcu four)) ≠ 0 then s.put (origin, path, nxt, hasMed, med, hasLocal, loc, atomic, true, u32B (d.take (Zcu four)), u32B (d.drop (Zcu four)), comms, others) else s.found 1)
  else if kind = 8 then (if d.length ≠ 0 ∧ d.length % 4 = 0 ∧ d.length / 4 <= 32 then s.put (origin, path, nxt, hasMed, med, hasLocal, loc, atomic, hasMaker, makerAS, maker, comms ++ decN 4 (d.length / 4) d, others) else s.found 2)
  else if kind = 17 then (if four then s else match Zeg true d with
    | some p => ⟨s.a, s.worst, s.seen, some p, s.m4⟩
    | none => s.found 1)
  else if kind = 18 then (if four then s else if d.length = 8 ∧ numB (d.take 4) ≠ 0 then ⟨s.a, s.worst, s.seen, s.p4, some (u32B (d.take 4), u32B (d.drop 4))⟩ else s.found 1)
  else s
def insO (k : Int) (d : List UInt8) : List Raw -> List Raw
  | [] => [(k, d)]
  | x :: r => if x.1 < k then x :: insO k d r else (k, d) :: x :: r
def Zhe (kind : Nat) (d : List UInt8) (s : RdS) : RdS :=
  let (origin, path, nxt, hasMed, med, hasLocal, loc, atomic, hasMaker, makerAS, maker, comms, others) := s.a
  if 8 <= others.length ∨ 255 < d.length then s.found 1 else s.put (origin, path, nxt, hasMed, med, hasLocal, loc, atomic, hasMaker, makerAS, maker, comms, insO kind d others)
def Zbt (four : Bool) (fl kind : Nat) (d : List UInt8) (s : RdS) : Option RdS :=
  if kind ∈ s.seen then some (s.found 1)
  else if Zex kind = true then (if (fl : Int) = Zcg kind then some (oneF four kind d (s.see kind)) else some ((s.see kind).found 2))
  else if fl < 128 then none else if fl = 192 then some (Zhe kind d (s.see kind)) else some (s.see kind)
def Zfd (four : Bool) : Nat -> List UInt8 -> RdS -> RdS × Option (List UInt8)
  | _, [], s => (s, none)
  | 0, _ :: _, s => (s, none)
  | f + 1, x :: b, s => match Zeh (x :: b) with
    | none => (s.found 2, none)
    | some (fl, kd, d, n) => match Zbt four fl kd d s with
      | none => (s, some ((x :: b).take n))
      | some s' => Zfd four f ((x :: b).drop n) s'
theorem Zbxt (four : Bool) : ∀ (f g : Nat) (b : List UInt8) (s : RdS), b.length <= f -> b.length <= g -> Zfd four f b s = Zfd four g b s
  | 0, 0, _, _, _, _ => rfl
  | 0, _ + 1, [], _, _, _ => rfl
  | 0, _ + 1, _ :: _, _, h, _ => by simp at h
  | _ + 1, 0, [], _, _, _ => rfl
  | _ + 1, 0, _ :: _, _, _, h => by simp at h
  | _ + 1, _ + 1, [], _, _, _ => rfl
  | f + 1, g + 1, x :: b, s, hf, hg => by
    simp only [Zfd]; cases hn : Zeh (x :: b) with
    | none => rfl
    | some r =>
      obtain ⟨fl, kd, d, n⟩ := r; obtain ⟨h1, _⟩ := Zbiw hn; simp only; cases Zbt four fl kd d s with
      | none => rfl
      | some s' =>
        simp only [List.length_cons] at hf hg; exact Zbxt four f g _ s' (by simp only [List.length_drop, List.length_cons]; omega) (by simp only [List.length_drop, List.length_cons]; omega)
def Zcz (s : RdS) : Za :=
  let (origin, path, nxt, hasMed, med, hasLocal, loc, atomic, hasMaker, makerAS, maker, comms, others) := s.a
  if hasMaker = true ∧ makerAS ≠ 23456 then s.a else
    let m : UInt32 × UInt32 := match hasMaker, s.m4 with
      | true, some m => m
      | _, _ => (makerAS, maker)
    let p : List Seg := match s.p4 with
      | some q => if Zba (Zds path q) = true then Zds path q else path
      | none => path
    (origin, p, nxt, hasMed, med, hasLocal, loc, atomic, hasMaker, m.1, m.2, comms, others)
def Zbx (four told : Bool) (b : List UInt8) : Za × Nat × Option (List UInt8) :=
  match Zfd four b.length b rd0 with
  | (_, some w) => (Zcp, 3, some w)
  | (s, none) =>
    let s' := if told = true ∧ ¬ (1 ∈ s.seen ∧ 2 ∈ s.seen ∧ 3 ∈ s.seen) then s.found 2 else s
    if 2 <= s'.worst then (Zcp, s'.worst, none) else (Zcz s', s'.worst, none)
def Zct (four : Bool) (s : Option RdS) (p : Int × Nat × List UInt8) : Option RdS := s.bind (Zbt four (twoF p.1) p.2.1 p.2.2)
theorem Zbqo (four : Bool) : ∀ ps : List (Int × Nat × List UInt8), ps.foldl (Zct four) none = none
  | [] => rfl
  | p :: ps => by rw [List.foldl_cons]; exact Zbqo four ps
theorem Zbmv (four : Bool) : ∀ (ps : List (Int × Nat × List UInt8)) (f : Nat) (s s' : RdS), (∀ p ∈ ps, okFl p.1 ∧ p.2.1 < 256 ∧ p.2.2.length <= 65535) -> (ps.flatMap fun p => attB p.1 p.2.1 p.2.2).length <= f -> ps.foldl (Zct four) (some s) = some s' ->
    Zfd four f (ps.flatMap fun p => attB p.1 p.2.1 p.2.2) s = (s', none)
  | [], f, s, s', _, _, h => by simp only [List.foldl_nil, Option.some.injEq] at h; subst h; cases f <;> rfl
  | p :: ps, f, s, s', hp, hf, h => by
    obtain ⟨h1, h2, h3⟩ := hp p List.mem_cons_self; have hn := Zcmc (rest := ps.flatMap fun p => attB p.1 p.2.1 p.2.2) h1 h2 h3; rw [List.flatMap_cons] at hf ⊢; rw [List.foldl_cons] at h; cases hs : Zbt four (twoF p.1) p.2.1 p.2.2 s with
    | none =>
      have : Zct four (some s) p = none := hs; rw [this, Zbqo] at h; cases h
    | some s1 =>
      have e1 : Zct four (some s) p = some s1 := hs; rw [e1] at h; obtain ⟨z1, z2, _⟩ := Zbiw hn; rw [List.length_append] at hf; generalize hX : attB p.1 p.2.1 p.2.2 ++ ps.flatMap (fun p => attB p.1 p.2.1 p.2.2) = X at *; have hdrop : X.drop (attB p.1 p.2.1 p.2.2).length = ps.flatMap fun p => attB p.1 p.2.1 p.2.2 := by rw [← hX, List.drop_left]
      cases X with
      | nil => simp [Zeh] at hn
      | cons x X =>
        cases f with
        | zero => omega
        | succ f =>
          simp only [Zfd]; rw [hn]; simp only; rw [hs]; simp only; rw [hdrop]; exact Zbmv four ps f s1 s' (fun q hq => hp q (List.mem_cons_of_mem _ hq)) (by omega) h
def optP (c : Bool) (p : Int × Nat × List UInt8) : List (Int × Nat × List UInt8) := if c then [p] else []
def Zkk (four : Bool) (a : Za) : List (Int × Nat × List UInt8) :=
  [(64, 1, [ofI .u8 (IntKind.wrap .u8 a.origin)]), (64, 2, Zbg four a.path), (64, 3, be4 a.next.toNat)] ++ (optP a.hasMed (128, 4, be4 a.med.toNat) ++ (optP a.atomic (64, 6, []) ++ (optP a.hasMaker (192, 7, Zbf four a.makerAS ++ be4 a.maker.toNat) ++ (optP (decide (0 < a.comms.length)) (192, 8, a.comms.flatMap fun x => be4 x.toNat) ++
    (optP (!four && Zco a.path) (192, 17, Zbg true a.path) ++ (optP (!four && (a.hasMaker && Zbn a.makerAS)) (192, 18, be4 a.makerAS.toNat ++ be4 a.maker.toNat) ++ a.others.map fun x => (224, x.1.toNat, x.2)))))))
theorem Zccn (c : Bool) (p : Int × Nat × List UInt8) : ((optP c p).flatMap fun p => attB p.1 p.2.1 p.2.2) = if c then attB p.1 p.2.1 p.2.2 else [] := by unfold optP; cases c <;> simp
theorem Zbtk (four : Bool) (a : Za) (ho : ∀ x ∈ a.others, 0 <= x.1) : Zhs four a = (Zkk four a).flatMap fun p => attB p.1 p.2.1 p.2.2 := by
  unfold Zkk; simp only [List.flatMap_append, Zccn, List.flatMap_cons, List.flatMap_nil, List.append_nil]; have e : ((a.others.map fun x => ((224 : Int), x.1.toNat, x.2)).flatMap fun p => attB p.1 p.2.1 p.2.2) = Zej a.others := by
    unfold Zej; rw [List.flatMap_map]; generalize a.others = l at *; induction l with
    | nil => rfl
    | cons x l ih =>
      rw [List.flatMap_cons, List.flatMap_cons, ih fun y hy => ho y (List.mem_cons_of_mem _ hy)]; have := ho x List.mem_cons_self; have e2 : ((x.1.toNat : Nat) : Int) = x.1 := by omega
      simp only [e2]
  rw [e]; unfold Zhs Zht Zjo oldB; simp only [List.append_assoc, decide_eq_true_eq]; rfl
end Go.Proofs.YtboagabgpcghcaaGreatDoor
namespace Go.Proofs.YtboagabgpcghcaaGreatDoor
open Go.Sh
structure Sg (s : RdS) (a : Za) (m : Nat) (p4 : Option (List Seg)) (m4 : Option (UInt32 × UInt32)) : Prop where
  a : s.a = a
  w : s.worst = 0
  le : ∀ k ∈ s.seen, k <= m
  kn : ∀ k ∈ s.seen, Zex (k : Int) = true
  s1 : 1 ∈ s.seen
  s2 : 2 ∈ s.seen
  s3 : 3 ∈ s.seen
  p : s.p4 = p4
  q : s.m4 = m4
theorem Zng {four c : Bool} {p : Int × Nat × List UInt8} {S : RdS -> Prop} {rest : List (Int × Nat × List UInt8)} {s : RdS} (h1 : c = true -> ∃ s', Zbt four (twoF p.1) p.2.1 p.2.2 s = some s' ∧ S s') (h0 : c = false -> S s) :
    ∃ s', (optP c p ++ rest).foldl (Zct four) (some s) = rest.foldl (Zct four) (some s') ∧ S s' := by
  cases c with
  | false => exact ⟨s, rfl, h0 rfl⟩
  | true =>
    obtain ⟨s', e, hs⟩ := h1 rfl; refine ⟨s', ?_, hs⟩; show (rest.foldl (Zct four) (Zct four (some s) p)) = _; have : Zct four (some s) p = some s' := e; rw [this]
theorem Zll {four : Bool} {fl kind : Nat} {d : List UInt8} {s : RdS} {m : Nat} (hle : ∀ k ∈ s.seen, k <= m) (hm : m < kind) (hk : Zex (kind : Int) = true) (hf : (fl : Int) = Zcg kind) : Zbt four fl kind d s = some (oneF four kind d (s.see kind)) := by unfold Zbt; rw [if_neg (fun h => by have := hle _ h; omega), if_pos hk, if_pos hf]
theorem Sg.see {s : RdS} {a : Za} {m : Nat} {p4 : Option (List Seg)} {m4 : Option (UInt32 × UInt32)} (h : Sg s a m p4 m4) {k : Nat} (hm : m < k) (hk : Zex (k : Int) = true) : Sg (s.see k) a k p4 m4 :=
  ⟨h.a, h.w, fun j hj => by rcases List.mem_cons.1 hj with rfl | hj; exact Nat.le_refl _; have := h.le j hj; omega, fun j hj => by rcases List.mem_cons.1 hj with rfl | hj; exact hk; exact h.kn j hj,
    List.mem_cons_of_mem _ h.s1, List.mem_cons_of_mem _ h.s2, List.mem_cons_of_mem _ h.s3, h.p, h.q⟩
theorem Sg.put {s : RdS} {a : Za} {m : Nat} {p4 : Option (List Seg)} {m4 : Option (UInt32 × UInt32)} (h : Sg s a m p4 m4) (b : Za) : Sg (s.put b) b m p4 m4 := ⟨rfl, h.w, h.le, h.kn, h.s1, h.s2, h.s3, h.p, h.q⟩
theorem Zbqk : ∀ l : List UInt32, decN 4 l.length (l.flatMap fun x => be4 x.toNat) = l
  | [] => rfl
  | x :: l => by have hx := UInt32.toNat_lt x; simp only [List.length_cons, decN, List.flatMap_cons]; have h1 : (be4 x.toNat ++ l.flatMap fun x => be4 x.toNat).take 4 = be4 x.toNat := rfl; have h2 : (be4 x.toNat ++ l.flatMap fun x => be4 x.toNat).drop 4 = l.flatMap fun x => be4 x.toNat := rfl; rw [h1, h2, Zqs _ hx, Zbqk l]; simp
theorem Zrz (x : UInt32) : u32B (be4 x.toNat) = x := by unfold u32B; rw [Zqs _ (UInt32.toNat_lt x)]; simp
theorem Zbvf {k : Int} {d : List UInt8} : ∀ l : List Raw, (∀ y ∈ l, y.1 < k) -> insO k d l = l ++ [(k, d)]
  | [], _ => rfl
  | x :: r, h => by simp only [insO]; rw [if_pos (h x List.mem_cons_self), Zbvf r fun y hy => h y (List.mem_cons_of_mem _ hy)]; rfl
theorem Zbuo (four : Bool) {o n : Int} {p : List Seg} {nx : UInt32} {hm : Bool} {md : UInt32} {hl : Bool} {lc : UInt32} {at_ hk : Bool} {as_ mk : UInt32} {cs : List UInt32} : ∀ (l pre : List Raw) (last : Int) (s : RdS), Zcc last l = true -> pre.length + l.length <= 8 -> (∀ y ∈ pre, y.1 <= last) -> -1 <= last ->
    s.a = (o, p, nx, hm, md, hl, lc, at_, hk, as_, mk, cs, pre) -> (∀ k ∈ s.seen, Zex (k : Int) = true ∨ (k : Int) <= last) ->
    ∃ s', (l.map fun x => ((224 : Int), x.1.toNat, x.2)).foldl (Zct four) (some s) = some s' ∧ s'.a = (o, p, nx, hm, md, hl, lc, at_, hk, as_, mk, cs, pre ++ l) ∧ s'.worst = s.worst ∧ s'.p4 = s.p4 ∧ s'.m4 = s.m4 ∧ ∀ k ∈ s.seen, k ∈ s'.seen
  | [], pre, last, s, _, _, _, _, ha, _ => ⟨s, rfl, by rw [ha, List.append_nil], rfl, rfl, rfl, fun k hk => hk⟩
  | x :: l, pre, last, s, ho, hlen, hpre, hlast, ha, hs => by
    simp only [Zcc, Bool.and_eq_true, Bool.not_eq_true', decide_eq_true_eq] at ho; obtain ⟨⟨⟨⟨h1, h2⟩, h3⟩, h4⟩, h5⟩ := ho; simp only [List.length_cons] at hlen; have hx : ((x.1.toNat : Nat) : Int) = x.1 := by omega
    have e : Zbt four (twoF 224) x.1.toNat x.2 s = some ((s.see x.1.toNat).put (o, p, nx, hm, md, hl, lc, at_, hk, as_, mk, cs, pre ++ [x])) := by
      unfold Zbt; rw [if_neg (fun h => by rcases hs _ h with h6 | h6 <;> rw [hx] at h6; rw [h1] at h6; cases h6; omega), hx, if_neg (by rw [h1]; decide), if_neg (by decide), if_pos (by decide)]
      unfold Zhe; have ha' : (s.see x.1.toNat).a = (o, p, nx, hm, md, hl, lc, at_, hk, as_, mk, cs, pre) := ha; rw [ha']; simp only; rw [if_neg (by omega), hx, Zbvf pre fun y hy => by have := hpre y hy; omega]
    obtain ⟨s', f1, f2, f3, f4, f5, f6⟩ := Zbuo four (n := n) l (pre ++ [x]) x.1 ((s.see x.1.toNat).put (o, p, nx, hm, md, hl, lc, at_, hk, as_, mk, cs, pre ++ [x])) h5 (by simp only [List.length_append, List.length_cons, List.length_nil]; omega)
      (fun y hy => by
        rcases List.mem_append.1 hy with hy | hy; have := hpre y hy; omega
        . rw [List.mem_singleton] at hy; subst hy; omega) (by omega) rfl (fun k hk => by
        rcases List.mem_cons.1 hk with rfl | hk; exact .inr (by omega)
        . rcases hs k hk with h6 | h6; exact .inl h6
          . exact .inr (by omega))
    refine ⟨s', ?_, by rw [f2, List.append_assoc]; rfl, f3, f4, f5, fun k hk => f6 k (List.mem_cons_of_mem _ hk)⟩
    rw [List.map_cons, List.foldl_cons]; have : Zct four (some s) (224, x.1.toNat, x.2) = some ((s.see x.1.toNat).put (o, p, nx, hm, md, hl, lc, at_, hk, as_, mk, cs, pre ++ [x])) := e; rw [this]; exact f1
theorem Sg.mono {s : RdS} {a : Za} {m m' : Nat} {p4 : Option (List Seg)} {m4 : Option (UInt32 × UInt32)} (h : Sg s a m p4 m4) (hm : m <= m') : Sg s a m' p4 m4 :=
  ⟨h.a, h.w, fun k hk => Nat.le_trans (h.le k hk) hm, h.kn, h.s1, h.s2, h.s3, h.p, h.q⟩
def gotA (four : Bool) (a : Za) : Za := (a.origin, a.path.map (trS four), a.next, a.hasMed, (if a.hasMed then a.med else 0), false, 0, a.atomic, a.hasMaker, (if a.hasMaker then trA four a.makerAS else 0), (if a.hasMaker then a.maker else 0), a.comms, a.others)
def gotP (four : Bool) (a : Za) : Option (List Seg) := if !four && Zco a.path then some a.path else none
def gotM (four : Bool) (a : Za) : Option (UInt32 × UInt32) := if !four && (a.hasMaker && Zbn a.makerAS) then some (a.makerAS, a.maker) else none
theorem Zcdu (four : Bool) (a : Za) (ha : Zec a = true) : ∃ s, (Zkk four a).foldl (Zct four) (some rd0) = some s ∧ s.a = gotA four a ∧ s.worst = 0 ∧ s.p4 = gotP four a ∧ s.m4 = gotM four a ∧ 1 ∈ s.seen ∧ 2 ∈ s.seen ∧ 3 ∈ s.seen := by
  obtain ⟨origin, path, nxt, hasMed, med, hasLocal, loc, atomic, hasMaker, makerAS, maker, comms, others⟩ := a; simp only [Zec, Za.origin, Za.path, Za.next, Za.hasMaker, Za.makerAS, Za.comms, Za.others, Bool.and_eq_true, decide_eq_true_eq] at ha; obtain ⟨⟨⟨⟨⟨⟨ho0, ho2⟩, hpath⟩, hnext⟩, hmk⟩, hcm⟩, hoth, ho8⟩ := ha; have hor : (ofI .u8 (IntKind.wrap .u8 origin) : UInt8).toNat = origin.toNat := by
    obtain ⟨k, rfl⟩ := Int.eq_ofNat_of_zero_le ho0; have e : IntKind.wrap .u8 (k : Int) = (k : Int) := by rw [Zlo]; omega
    rw [e, Int.toNat_natCast]; have e2 : (ofI .u8 (k : Int) : UInt8) = UInt8.ofNat k := by simp [ofI]
    rw [e2, UInt8.toNat_ofNat', Nat.mod_eq_of_lt (by omega)]
  have hnx := UInt32.toNat_lt nxt; have hmak := UInt32.toNat_lt makerAS; simp only [Zkk]; have t1 : Zct four (some rd0) (64, 1, [ofI .u8 (IntKind.wrap .u8 origin)]) = some ((rd0.see 1).put (origin, [], 0, false, 0, false, 0, false, false, 0, 0, [], [])) := by
    simp only [Zct, Option.bind_some]; unfold Zbt; rw [if_neg (by simp [rd0]), if_pos (by decide), if_pos (by decide)]
    have : (rd0.see 1).a = Zcp := rfl; unfold oneF; rw [this]; simp only [Zcp, List.headD_cons, hor]; rw [if_pos trivial, if_pos ⟨rfl, by omega⟩, show ((origin.toNat : Nat) : Int) = origin by omega]
  have t2 : Zct four (some ((rd0.see 1).put (origin, [], 0, false, 0, false, 0, false, false, 0, 0, [], []))) (64, 2, Zbg four path) = some ((((rd0.see 1).put (origin, [], 0, false, 0, false, 0, false, false, 0, 0, [], [])).see 2).put (origin, path.map (trS four), 0, false, 0, false, 0, false, false, 0, 0, [], [])) := by
    simp only [Zct, Option.bind_some]; unfold Zbt; rw [if_neg (by simp [rd0, RdS.see, RdS.put]), if_pos (by decide), if_pos (by decide)]
    unfold oneF; simp only [RdS.see, RdS.put]; rw [if_neg (by decide), if_pos trivial, Zbpc four hpath]
  have t3 : Zct four (some ((((rd0.see 1).put (origin, [], 0, false, 0, false, 0, false, false, 0, 0, [], [])).see 2).put (origin, path.map (trS four), 0, false, 0, false, 0, false, false, 0, 0, [], []))) (64, 3, be4 nxt.toNat) = some (((((rd0.see 1).put (origin, [], 0, false, 0, false, 0, false, false, 0, 0, [], [])).see 2).put (origin, path.map (trS four), 0, false, 0, false, 0, false, false, 0, 0, [], [])).see 3 |>.put (origin, path.map (trS four), nxt, false, 0, false, 0, false, false, 0, 0, [], [])) := by
    simp only [Zct, Option.bind_some]; unfold Zbt; rw [if_neg (by simp [rd0, RdS.see, RdS.put]), if_pos (by decide), if_pos (by decide)]
    unfold oneF; simp only [RdS.see, RdS.put]; rw [if_neg (by decide), if_neg (by decide), if_pos trivial, Zqs _ hnx, if_pos ⟨rfl, by omega, by omega⟩, Zrz]
  rw [List.foldl_append, List.foldl_cons, List.foldl_cons, List.foldl_cons, List.foldl_nil, t1, t2, t3]; generalize h3 : (((((rd0.see 1).put (origin, [], 0, false, 0, false, 0, false, false, 0, 0, [], [])).see 2).put (origin, path.map (trS four), 0, false, 0, false, 0, false, false, 0, 0, [], [])).see 3 |>.put (origin, path.map (trS four), nxt, false, 0, false, 0, false, false, 0, 0, [], [])) = s3; have g3 : Sg s3 (origin, path.map (trS four), nxt, false, 0, false, 0, false, false, 0, 0, [], []) 3 none none := by subst h3; exact ⟨rfl, rfl, by simp [RdS.see, RdS.put, rd0], by intro k hk; simp [RdS.see, RdS.put, rd0] at hk; rcases hk with rfl | rfl | rfl <;> decide, by simp [RdS.see, RdS.put, rd0], by simp [RdS.see, RdS.put, rd0], by simp [RdS.see, RdS.put, rd0], rfl, rfl⟩
  clear h3 t1 t2 t3
  obtain ⟨s4, e4, g4⟩ := Zng (four := four) (c := hasMed) (p := (128, 4, be4 med.toNat)) (rest := optP atomic (64, 6, []) ++ (optP hasMaker (192, 7, Zbf four makerAS ++ be4 maker.toNat) ++ (optP (decide (0 < comms.length)) (192, 8, comms.flatMap fun x => be4 x.toNat) ++ (optP (!four && Zco path) (192, 17, Zbg true path) ++ (optP (!four && (hasMaker && Zbn makerAS)) (192, 18, be4 makerAS.toNat ++ be4 maker.toNat) ++ others.map fun x => (224, x.1.toNat, x.2))))))
    (S := fun s => Sg s (origin, path.map (trS four), nxt, hasMed, (if hasMed then med else 0), false, 0, false, false, 0, 0, [], []) 4 none none) (s := s3) (fun hc => by
      have g := (g3.see (k := 4) (by decide) (by decide))
      refine ⟨_, Zll (fl := twoF 128) (kind := 4) g3.le (by decide) (by decide) (by decide), ?_⟩
      have e : oneF four 4 (be4 med.toNat) (s3.see 4) = (s3.see 4).put (origin, path.map (trS four), nxt, true, u32B (be4 med.toNat), false, 0, false, false, 0, 0, [], []) := by simp [oneF, g.a, Zea]
      rw [e, Zrz, hc]; exact g.put _) (fun hc => by rw [hc]; exact g3.mono (by decide))
  obtain ⟨s6, e6, g6⟩ := Zng (four := four) (c := atomic) (p := (64, 6, [])) (rest := optP hasMaker (192, 7, Zbf four makerAS ++ be4 maker.toNat) ++ (optP (decide (0 < comms.length)) (192, 8, comms.flatMap fun x => be4 x.toNat) ++ (optP (!four && Zco path) (192, 17, Zbg true path) ++ (optP (!four && (hasMaker && Zbn makerAS)) (192, 18, be4 makerAS.toNat ++ be4 maker.toNat) ++ others.map fun x => (224, x.1.toNat, x.2)))))
    (S := fun s => Sg s (origin, path.map (trS four), nxt, hasMed, (if hasMed then med else 0), false, 0, atomic, false, 0, 0, [], []) 6 none none) (s := s4) (fun hc => by
      have g := (g4.see (k := 6) (by decide) (by decide))
      refine ⟨_, Zll (fl := twoF 64) (kind := 6) g4.le (by decide) (by decide) (by decide), ?_⟩
      have e : oneF four 6 [] (s4.see 6) = (s4.see 6).put (origin, path.map (trS four), nxt, hasMed, (if hasMed then med else 0), false, 0, true, false, 0, 0, [], []) := by simp [oneF, g.a]
      rw [e, hc]; exact g.put _) (fun hc => by rw [hc]; exact g4.mono (by decide))
  obtain ⟨s7, e7, g7⟩ := Zng (four := four) (c := hasMaker) (p := (192, 7, Zbf four makerAS ++ be4 maker.toNat)) (rest := optP (decide (0 < comms.length)) (192, 8, comms.flatMap fun x => be4 x.toNat) ++ (optP (!four && Zco path) (192, 17, Zbg true path) ++ (optP (!four && (hasMaker && Zbn makerAS)) (192, 18, be4 makerAS.toNat ++ be4 maker.toNat) ++ others.map fun x => (224, x.1.toNat, x.2))))
    (S := fun s => Sg s (origin, path.map (trS four), nxt, hasMed, (if hasMed then med else 0), false, 0, atomic, hasMaker, (if hasMaker then trA four makerAS else 0), (if hasMaker then maker else 0), [], []) 7 none none) (s := s6) (fun hc => by
      have g := (g6.see (k := 7) (by decide) (by decide))
      refine ⟨_, Zll (fl := twoF 192) (kind := 7) g6.le (by decide) (by decide) (by decide), ?_⟩
      have hz := Zxn four makerAS; have q1 : (Zbf four makerAS ++ be4 maker.toNat).take (Zcu four) = Zbf four makerAS := by rw [← hz, List.take_left]
      have q2 : (Zbf four makerAS ++ be4 maker.toNat).drop (Zcu four) = be4 maker.toNat := by rw [← hz, List.drop_left]
      have hnum : numB (Zbf four makerAS) ≠ 0 := fun h => by
        have h2 := Zbep four makerAS; rw [h] at h2; have h3 : (makerAS != 0) = true := by
          rw [hc] at hmk; simp only [Bool.true_and, Bool.not_eq_true', beq_eq_false_iff_ne, ne_eq] at hmk; have : makerAS ≠ 0 := fun h => hmk (by rw [h]; rfl)
          simpa using this
        have h4 := Zbqp (four := four) h3; rw [← h2] at h4; exact absurd h4 (by decide)
      have e : oneF four 7 (Zbf four makerAS ++ be4 maker.toNat) (s6.see 7) = (s6.see 7).put (origin, path.map (trS four), nxt, hasMed, (if hasMed then med else 0), false, 0, atomic, true, u32B (Zbf four makerAS), u32B (be4 maker.toNat), [], []) := by unfold oneF; rw [g.a]; simp only [q1, q2]; rw [if_neg (by decide), if_neg (by decide), if_neg (by decide), if_neg (by decide), if_neg (by decide), if_pos trivial, if_pos ⟨by rw [List.length_append, hz, Zea], hnum⟩]
      rw [e, Zrz, hc]; have hu : u32B (Zbf four makerAS) = trA four makerAS := Zbep four makerAS; rw [hu]; exact g.put _) (fun hc => by rw [hc]; exact g6.mono (by decide))
  obtain ⟨s8, e8, g8⟩ := Zng (four := four) (c := decide (0 < comms.length)) (p := (192, 8, comms.flatMap fun x => be4 x.toNat)) (rest := optP (!four && Zco path) (192, 17, Zbg true path) ++ (optP (!four && (hasMaker && Zbn makerAS)) (192, 18, be4 makerAS.toNat ++ be4 maker.toNat) ++ others.map fun x => (224, x.1.toNat, x.2)))
    (S := fun s => Sg s (origin, path.map (trS four), nxt, hasMed, (if hasMed then med else 0), false, 0, atomic, hasMaker, (if hasMaker then trA four makerAS else 0), (if hasMaker then maker else 0), comms, []) 8 none none) (s := s7) (fun hc => by
      have hc : 0 < comms.length := of_decide_eq_true hc; have g := (g7.see (k := 8) (by decide) (by decide))
      refine ⟨_, Zll (fl := twoF 192) (kind := 8) g7.le (by decide) (by decide) (by decide), ?_⟩
      have hl := Zoh comms; have hdiv : 4 * comms.length / 4 = comms.length := by omega
      have e : oneF four 8 (comms.flatMap fun x => be4 x.toNat) (s7.see 8) = (s7.see 8).put (origin, path.map (trS four), nxt, hasMed, (if hasMed then med else 0), false, 0, atomic, hasMaker, (if hasMaker then trA four makerAS else 0), (if hasMaker then maker else 0), comms, []) := by unfold oneF; rw [g.a]; simp only [hl, hdiv, Zbqk, List.nil_append]; rw [if_neg (by decide), if_neg (by decide), if_neg (by decide), if_neg (by decide), if_neg (by decide), if_neg (by decide), if_pos trivial, if_pos ⟨by omega, by omega, by omega⟩]
      rw [e]; exact g.put _) (fun hc => by
      have hc : comms = [] := List.eq_nil_of_length_eq_zero (by have := of_decide_eq_false hc; omega)
      rw [hc]; exact g7.mono (by decide))
  obtain ⟨s17, e17, g17⟩ := Zng (four := four) (c := !four && Zco path) (p := (192, 17, Zbg true path)) (rest := optP (!four && (hasMaker && Zbn makerAS)) (192, 18, be4 makerAS.toNat ++ be4 maker.toNat) ++ others.map fun x => (224, x.1.toNat, x.2))
    (S := fun s => Sg s (origin, path.map (trS four), nxt, hasMed, (if hasMed then med else 0), false, 0, atomic, hasMaker, (if hasMaker then trA four makerAS else 0), (if hasMaker then maker else 0), comms, []) 17 (if !four && Zco path then some path else none) none) (s := s8) (fun hc => by
      have g := (g8.see (k := 17) (by decide) (by decide))
      refine ⟨_, Zll (fl := twoF 192) (kind := 17) g8.le (by decide) (by decide) (by decide), ?_⟩
      have h4 : four = false := by cases four <;> simp_all
      have e : oneF four 17 (Zbg true path) (s8.see 17) = ⟨(s8.see 17).a, (s8.see 17).worst, (s8.see 17).seen, some path, (s8.see 17).m4⟩ := by unfold oneF; rw [g.a]; simp only; rw [if_neg (by decide), if_neg (by decide), if_neg (by decide), if_neg (by decide), if_neg (by decide), if_neg (by decide), if_neg (by decide), if_pos trivial, h4, if_neg (by decide), Zbpc true hpath, Zbxv]
      rw [e, hc]; exact ⟨g.a, g.w, g.le, g.kn, g.s1, g.s2, g.s3, rfl, g.q⟩) (fun hc => by rw [hc]; exact g8.mono (by decide))
  obtain ⟨s18, e18, g18⟩ := Zng (four := four) (c := !four && (hasMaker && Zbn makerAS)) (p := (192, 18, be4 makerAS.toNat ++ be4 maker.toNat)) (rest := others.map fun x => (224, x.1.toNat, x.2))
    (S := fun s => Sg s (origin, path.map (trS four), nxt, hasMed, (if hasMed then med else 0), false, 0, atomic, hasMaker, (if hasMaker then trA four makerAS else 0), (if hasMaker then maker else 0), comms, []) 18 (if !four && Zco path then some path else none) (if !four && (hasMaker && Zbn makerAS) then some (makerAS, maker) else none)) (s := s17) (fun hc => by
      have g := (g17.see (k := 18) (by decide) (by decide))
      refine ⟨_, Zll (fl := twoF 192) (kind := 18) g17.le (by decide) (by decide) (by decide), ?_⟩
      have h4 : four = false := by cases four <;> simp_all
      have hb : Zbn makerAS = true := by cases h : Zbn makerAS <;> simp_all
      have hb2 : 65535 < makerAS.toNat := by unfold Zbn at hb; exact of_decide_eq_true hb
      have q1 : (be4 makerAS.toNat ++ be4 maker.toNat).take 4 = be4 makerAS.toNat := rfl; have q2 : (be4 makerAS.toNat ++ be4 maker.toNat).drop 4 = be4 maker.toNat := rfl; have e : oneF four 18 (be4 makerAS.toNat ++ be4 maker.toNat) (s17.see 18) = ⟨(s17.see 18).a, (s17.see 18).worst, (s17.see 18).seen, (s17.see 18).p4, some (makerAS, maker)⟩ := by unfold oneF; rw [g.a]; simp only [q1, q2]; rw [if_neg (by decide), if_neg (by decide), if_neg (by decide), if_neg (by decide), if_neg (by decide), if_neg (by decide), if_neg (by decide), if_neg (by decide), if_pos trivial, h4, if_neg (by decide), Zqs _ hmak, if_pos ⟨rfl, by omega⟩, Zrz, Zrz]
      rw [e, hc]; exact ⟨g.a, g.w, g.le, g.kn, g.s1, g.s2, g.s3, g.p, rfl⟩) (fun hc => by rw [hc]; exact g17.mono (by decide))
  obtain ⟨s, f1, f2, f3, f4, f5, f6⟩ := Zbuo four (n := 0) others [] (-1) s18 hoth (by simpa using ho8) (by simp) (by omega) g18.a (fun k hk => .inl (g18.kn k hk))
  refine ⟨s, ?_, f2, f3.trans g18.w, f4.trans g18.p, f5.trans g18.q, f6 1 g18.s1, f6 2 g18.s2, f6 3 g18.s3⟩; rw [e4, e6, e7, e8, e17, e18]; exact f1
end Go.Proofs.YtboagabgpcghcaaGreatDoor
namespace Go.Proofs.YtboagabgpcghcaaGreatDoor
open Go.Sh
def Zgm (a : Za) : Za := (a.origin, a.path, a.next, a.hasMed, (if a.hasMed then a.med else 0), false, 0, a.atomic, a.hasMaker, (if a.hasMaker then a.makerAS else 0), (if a.hasMaker then a.maker else 0), a.comms, a.others)
theorem Zcaf {four : Bool} {a : Za} {s : RdS} (hok : Zba a.path = true) (h1 : s.a = gotA four a) (h3 : s.p4 = gotP four a) (h4 : s.m4 = gotM four a) (hx : ¬ (four = false ∧ Zco a.path = true ∧ a.hasMaker = true ∧ a.makerAS.toNat <= 65535 ∧ a.makerAS ≠ 23456)) : Zcz s = Zgm a := by
  obtain ⟨origin, path, nxt, hasMed, med, hasLocal, loc, atomic, hasMaker, makerAS, maker, comms, others⟩ := a; simp only [gotA, gotP, gotM, Zgm, Za.origin, Za.path, Za.next, Za.hasMed, Za.med, Za.atomic, Za.hasMaker, Za.makerAS, Za.maker, Za.comms, Za.others] at *; unfold Zcz; rw [h1, h3, h4]; simp only; cases four with
  | true =>
    simp only [Zbxv, Bool.not_true, Bool.false_and]; have e : trA true makerAS = makerAS := rfl; rw [e]; cases hasMaker <;> simp
  | false =>
    simp only [Bool.not_false, Bool.true_and]; by_cases hg : Zco path = true
    . have hm : Zds (path.map (trS false)) path = path := Zcdi path; rw [hg, if_pos rfl]; simp only [hm, hok, if_true]; cases hasMaker with
      | false => simp
      | true =>
        simp only [if_true, Bool.true_and, true_and]; by_cases hb : Zbn makerAS = true
        . have hb2 : 65535 < makerAS.toNat := by unfold Zbn at hb; exact of_decide_eq_true hb
          have e : trA false makerAS = 23456 := by unfold trA; rw [if_neg (by decide), if_pos hb2]
          rw [e, hb, if_neg (by simp), if_pos rfl]
        . have hb : Zbn makerAS = false := by simpa using hb
          have hb2 : ¬ 65535 < makerAS.toNat := by unfold Zbn at hb; exact of_decide_eq_false hb
          have e : trA false makerAS = makerAS := by unfold trA; rw [if_neg (by decide), if_neg hb2]
          have e2 : makerAS = 23456 := Classical.byContradiction fun h => hx ⟨rfl, hg, rfl, by omega, h⟩
          rw [e, hb, e2]; simp
    . have hg : Zco path = false := by simpa using hg
      rw [hg, Zcqf hg]; simp only [Bool.false_eq_true, if_false]; cases hasMaker with
      | false => simp
      | true =>
        simp only [if_true, Bool.true_and, true_and]; by_cases hb : Zbn makerAS = true
        . have hb2 : 65535 < makerAS.toNat := by unfold Zbn at hb; exact of_decide_eq_true hb
          have e : trA false makerAS = 23456 := by unfold trA; rw [if_neg (by decide), if_pos hb2]
          rw [e, hb, if_neg (by simp), if_pos rfl]
        . have hb : Zbn makerAS = false := by simpa using hb
          have hb2 : ¬ 65535 < makerAS.toNat := by unfold Zbn at hb; exact of_decide_eq_false hb
          have e : trA false makerAS = makerAS := by unfold trA; rw [if_neg (by decide), if_neg hb2]
          rw [e, hb]; simp
theorem Zcha (four told : Bool) {a : Za} (ha : Zec a = true) : ∃ r, Zbx four told (Zhs four a) = (r, 0, none) ∧
    (¬ (four = false ∧ Zco a.path = true ∧ a.hasMaker = true ∧ a.makerAS.toNat <= 65535 ∧ a.makerAS ≠ 23456) -> r = Zgm a) := by
  obtain ⟨s, e, h1, h2, h3, h4, k1, k2, k3⟩ := Zcdu four a ha; have ha' := ha; simp only [Zec, Bool.and_eq_true, decide_eq_true_eq] at ha'; obtain ⟨⟨⟨⟨⟨⟨ho0, ho2⟩, hpath⟩, hnext⟩, hmk⟩, hcm⟩, hoth, ho8⟩ := ha'; have hO : ∀ (l : List Raw) (last : Int), -1 <= last -> Zcc last l = true -> ∀ x ∈ l, 0 <= x.1 ∧ x.1 <= 255 ∧ x.2.length <= 255 := by
    intro l; induction l with
    | nil => intro _ _ _ x hx; simp at hx
    | cons y l ih =>
      intro last hl h x hx; simp only [Zcc, Bool.and_eq_true, decide_eq_true_eq] at h; rcases List.mem_cons.1 hx with rfl | hx; omega; exact ih y.1 (by omega) h.2 x hx
  have hO' := hO a.others (-1) (by omega) hoth
  have hp : ∀ p ∈ Zkk four a, okFl p.1 ∧ p.2.1 < 256 ∧ p.2.2.length <= 65535 := by
    intro p hp; have l0 := Zot (four := four) hpath; have l1 := Zot (four := true) hpath; have l2 := Zyp four a.makerAS; have l3 := Zoh a.comms; have b4 : ∀ n, (be4 n).length = 4 := fun _ => rfl; simp only [Zkk, optP, List.mem_append, List.mem_cons, List.not_mem_nil, or_false, List.mem_map] at hp; rcases hp with (rfl | rfl | rfl) | hp | hp | hp | hp | hp | hp | ⟨x, hx, rfl⟩; exact ⟨.inl rfl, by simp, by simp⟩
    exact ⟨.inl rfl, by simp, by simp only; omega⟩
    exact ⟨.inl rfl, by simp, by simp only [b4]; omega⟩
    . split at hp; rw [List.mem_singleton] at hp; subst hp; exact ⟨.inr (.inl rfl), by simp, by simp only [b4]; omega⟩
      simp at hp
    . split at hp; rw [List.mem_singleton] at hp; subst hp; exact ⟨.inl rfl, by simp, by simp⟩
      simp at hp
    . split at hp; rw [List.mem_singleton] at hp; subst hp; exact ⟨.inr (.inr (.inl rfl)), by simp, by simp only [List.length_append, b4]; omega⟩
      simp at hp
    . split at hp; rw [List.mem_singleton] at hp; subst hp; exact ⟨.inr (.inr (.inl rfl)), by simp, by simp only [l3]; omega⟩
      simp at hp
    . split at hp; rw [List.mem_singleton] at hp; subst hp; exact ⟨.inr (.inr (.inl rfl)), by simp, by simp only; omega⟩
      simp at hp
    . split at hp; rw [List.mem_singleton] at hp; subst hp; exact ⟨.inr (.inr (.inl rfl)), by simp, by simp only [List.length_append, b4]; omega⟩
      simp at hp
    have := hO' x hx; exact ⟨.inr (.inr (.inr rfl)), by simp only; omega, by simp only; omega⟩
  have hl := Zbmv four (Zkk four a) (Zhs four a).length rd0 s hp (by rw [Zbtk four a fun x hx => (hO' x hx).1]; exact Nat.le_refl _) e
  rw [← Zbtk four a fun x hx => (hO' x hx).1] at hl; refine ⟨Zcz s, ?_, fun hx => Zcaf hpath h1 h3 h4 hx⟩; unfold Zbx; rw [hl]; simp only; have hs' : (if told = true ∧ ¬ (1 ∈ s.seen ∧ 2 ∈ s.seen ∧ 3 ∈ s.seen) then s.found 2 else s) = s := if_neg fun h => h.2 ⟨k1, k2, k3⟩
  rw [hs', if_neg (by rw [h2]; decide), h2]
end Go.Proofs.YtboagabgpcghcaaGreatDoor
namespace Go.Proofs.YtboagabgpcghcaaGreatDoor
open Go.Sh
end Go.Proofs.YtboagabgpcghcaaGreatDoor
namespace Go.Proofs.YtboagabgpcghcaaGreatDoor
open Go.Sh
theorem Zbos {k : Int} {d : List UInt8} {x : Raw} : ∀ l : List Raw, x ∈ insO k d l -> x = (k, d) ∨ x ∈ l
  | [], h => by simp only [insO, List.mem_singleton] at h; exact .inl h
  | y :: r, h => by simp only [insO] at h; split at h; rcases List.mem_cons.1 h with rfl | h; exact .inr List.mem_cons_self; rcases Zbos r h with h | h; exact .inl h; exact .inr (List.mem_cons_of_mem _ h); rcases List.mem_cons.1 h with h | h; exact .inl h; exact .inr h
structure SafeS (s : RdS) : Prop where
  o : 0 <= s.a.origin ∧ s.a.origin <= 2
  p : s.worst <= 1 -> 2 ∈ s.seen -> Zba s.a.path = true
  n : s.worst <= 1 -> 3 ∈ s.seen -> s.a.next.toNat ≠ 0 ∧ s.a.next.toNat < 3758096384
  l : s.a.hasLocal = false
  m : s.a.hasMaker = true -> s.a.makerAS.toNat ≠ 0
  c : s.a.comms.length <= 32 ∧ (8 ∉ s.seen -> s.a.comms = [])
  t : Zcc (-1) s.a.others = true ∧ s.a.others.length <= 8 ∧ ∀ x ∈ s.a.others, x.1.toNat ∈ s.seen ∧ 0 <= x.1
  q : ∀ z, s.m4 = some z -> z.1.toNat ≠ 0
theorem Zbaz {d : List UInt8} (h : numB d < 4294967296) : (u32B d).toNat = numB d := by unfold u32B; rw [UInt32.toNat_ofNat', Nat.mod_eq_of_lt (by omega)]
theorem Zbta : ∀ (d : List UInt8) (a : Nat), d.foldl (fun a x => a * 256 + x.toNat) a < (a + 1) * 256 ^ d.length
  | [], a => by simp
  | x :: d, a => by
    have hx := UInt8.toNat_lt x; have ih := Zbta d (a * 256 + x.toNat); simp only [List.foldl_cons, List.length_cons, Nat.pow_succ]; have h3 : (a * 256 + x.toNat + 1) * 256 ^ d.length <= ((a + 1) * 256) * 256 ^ d.length := Nat.mul_le_mul_right _ (by omega)
    have h4 : (a + 1) * 256 * 256 ^ d.length = (a + 1) * (256 ^ d.length * 256) := by rw [Nat.mul_assoc, Nat.mul_comm 256]
    omega
theorem Zbld {d : List UInt8} (h : d.length <= 4) : numB d < 4294967296 := by
  have h1 := Zbta d 0; have h2 : 256 ^ d.length <= 256 ^ 4 := Nat.pow_le_pow_right (by decide) h
  have h3 : (256 : Nat) ^ 4 = 4294967296 := rfl; unfold numB; omega
end Go.Proofs.YtboagabgpcghcaaGreatDoor
namespace Go.Proofs.YtboagabgpcghcaaGreatDoor
open Go.Sh
theorem Zbtj {T X : Type} {fin : T -> Prop} {body : T -> X -> (T -> Prop) -> Prop} (S : List X -> T) : ∀ (post pre : List X), (∀ pre' x post', pre ++ post = pre' ++ x :: post' -> ∀ next : T -> Prop, next (S (pre' ++ [x])) -> body (S pre') x next) -> fin (S (pre ++ post)) -> Zil fin body post (S pre)
  | [], pre, _, he => by rw [List.append_nil] at he; exact he
  | x :: r, pre, hr, he => by
    have e : pre ++ x :: r = (pre ++ [x]) ++ r := by simp
    exact hr pre x r rfl _ (Zbtj S r (pre ++ [x]) (fun pre' y post' h => hr pre' y post' (by rw [e]; exact h)) (by rw [← e]; exact he))
theorem Zbss (l : List UInt8) (x : UInt8) : numB (l ++ [x]) = numB l * 256 + x.toNat := by simp [numB]
theorem Zwm : ∀ (d : List UInt8), numB d < 256 ^ d.length := fun d => by
  have : ∀ (d : List UInt8) (a : Nat), d.foldl (fun a x => a * 256 + x.toNat) a < (a + 1) * 256 ^ d.length := by
    intro d; induction d with
    | nil => intro a; simp
    | cons x d ih =>
      intro a; have hx := UInt8.toNat_lt x; have ih := ih (a * 256 + x.toNat); simp only [List.foldl_cons, List.length_cons, Nat.pow_succ]; have h3 : (a * 256 + x.toNat + 1) * 256 ^ d.length <= ((a + 1) * 256) * 256 ^ d.length := Nat.mul_le_mul_right _ (by omega)
      have h4 : (a + 1) * 256 * 256 ^ d.length = (a + 1) * (256 ^ d.length * 256) := by rw [Nat.mul_assoc, Nat.mul_comm 256]
      omega
  have := this d 0; unfold numB; omega
theorem Zbhf {size : Nat} (hs : 1 <= size) : ∀ (n : Nat) (s : List UInt8), s.length = n * size -> (Zgd s size).map (fun c => UInt32.ofNat (numB c.1)) = decN size n s ∧ ∀ c ∈ Zgd s size, c.1.length = size
  | 0, s, h => by
    have : s = [] := List.eq_nil_of_length_eq_zero (by omega)
    subst this; exact ⟨rfl, fun c hc => by simp [Zclk] at hc⟩
  | n + 1, s, h => by
    have hne : s ≠ [] := fun e => by subst e; simp [Nat.succ_mul] at h; omega
    rw [Nat.succ_mul] at h; rw [Zbsn (by omega) hne]
    obtain ⟨h1, h2⟩ := Zbhf hs n (s.drop size) (by rw [List.length_drop]; omega)
    rw [Int.toNat_natCast]; refine ⟨by simp only [List.map_cons, decN, h1], fun c hc => ?_⟩
    rcases List.mem_cons.1 hc with rfl | hc; simp only [List.length_take]; omega; exact h2 c hc
def rpK (four : Bool) (b : List UInt8) (K : List Seg -> Int -> Prop) : Prop := match Zeg four b with
  | some p => K p 0
  | none => K [] 7
def rpT (size : Nat) (p : List Seg) (r : List UInt8) (K : List Seg -> Int -> Prop) : Prop := match Zet size r.length r with
  | some t => if Zba (p ++ t) = true then K (p ++ t) 0 else K [] 7
  | none => K [] 7
theorem Zcvi {size : Nat} {p : List Seg} {K : List Seg -> Int -> Prop} (h : rpT size p [] K) : if Zba p = true then K p 0 else K [] 7 := by unfold rpT at h; simp only [List.length_nil, Zet, List.append_nil] at h; exact h
theorem Zcry {size : Nat} {p : List Seg} {x : UInt8} {K : List Seg -> Int -> Prop} (h : rpT size p [x] K) : K [] 7 := by unfold rpT at h; simp only [List.length_cons, List.length_nil, Zet] at h; exact h
theorem Zcua {size : Nat} {p : List Seg} {x y : UInt8} {r : List UInt8} {K : List Seg -> Int -> Prop} (hc : ¬ ((x = 1 ∨ x = 2) ∧ y.toNat * size <= r.length)) (h : rpT size p (x :: y :: r) K) : K [] 7 := by unfold rpT at h; simp only [List.length_cons, Zet] at h; rw [if_neg hc] at h; exact h
theorem Zckp {size : Nat} {p : List Seg} {x y : UInt8} {r : List UInt8} {K : List Seg -> Int -> Prop} (hc : (x = 1 ∨ x = 2) ∧ y.toNat * size <= r.length) (h : rpT size p (x :: y :: r) K) : rpT size (p ++ [(x == 1, decN size y.toNat r)]) (r.drop (y.toNat * size)) K := by
  unfold rpT at h ⊢; simp only [List.length_cons, Zet] at h; rw [if_pos hc, Zbwc size (r.length + 1) (r.drop (y.toNat * size)).length _ (by simp only [List.length_drop]; omega) (Nat.le_refl _)] at h
  cases hs : Zet size (r.drop (y.toNat * size)).length (r.drop (y.toNat * size)) with
  | none => rw [hs] at h; exact h
  | some t =>
    rw [hs] at h; simp only [Option.map_some] at h; simp only [List.append_assoc, List.cons_append, List.nil_append]; exact h
theorem Zcno {four : Bool} {b : List UInt8} {K : List Seg -> Int -> Prop} (h : rpK four b K) : rpT (Zcu four) [] b K := by
  unfold rpK Zeg at h; unfold rpT; cases hs : Zet (Zcu four) b.length b with
  | none => rw [hs] at h; exact h
  | some t =>
    rw [hs] at h; simp only [List.nil_append] at h ⊢; by_cases hp : Zba t = true; rw [if_pos hp] at h ⊢; exact h; rw [if_neg hp] at h ⊢; exact h
theorem Zceu (p : List Seg) (s : Seg) : cnt (p ++ [s]) = cnt p + s.2.length := by simp [cnt]
theorem Zbkm (b : List UInt8) (size : Nat) (K : List Seg -> Int -> Prop) (hs : size = 4 ∨ size = 2) (hl : b.length <= 1000000000) (h : rpT size [] b K) : Zbbs b size K := by
  unfold Zbbs; refine ⟨fun k x => ∃ (r : List UInt8) (p : List Seg), x = (r, p, ()) ∧ k = r.length ∧ p.length + cnt p + r.length <= b.length ∧ rpT size p r K, b.length, ⟨b, [], rfl, rfl, by simp [cnt], h⟩, ?_⟩
  rintro k x ⟨r, p, rfl, rfl, hlen, hr⟩; intro _; dsimp only [Zbrx]; cases r with
  | nil =>
    refine ifF rfl fun _ => Zwf p _ (by omega) (by omega) fun _ => ?_
    have h1 := Zcvi hr; cases hp : Zba p with
    | true => rw [hp, if_pos rfl] at h1; exact ifT rfl h1
    | false => rw [hp, if_neg (by decide)] at h1; exact ifF rfl h1
  | cons x r =>
  refine ifT (decide_eq_true (by simp only [List.length_cons]; omega)) ?_
  cases r with
  | nil =>
    refine ifT rfl ?_; unfold Zim; exact ifT rfl (Zcry hr)
  | cons y r =>
  simp only [List.length_cons] at hlen; have hx := UInt8.toNat_lt x; have hy := UInt8.toNat_lt y; have hsz : size <= 4 ∧ 1 <= size := by omega
  have hmul : y.toNat * size <= 255 * 4 := Nat.mul_le_mul (by omega) hsz.1
  have wl : IntKind.wrap .i64 ((((x :: y :: r).length : Nat) : Int) - 2) = (r.length : Int) := by rw [Zj (by simp only [List.length_cons]; omega) (by simp only [List.length_cons]; omega)]; simp only [List.length_cons]; omega
  have wm : IntKind.wrap .i64 (IntKind.wrap .i64 (y.toNat : Int) * (size : Int)) = ((y.toNat * size : Nat) : Int) := by rw [Zj (n := (y.toNat : Int)) (by omega) (by omega), ← Int.natCast_mul, Zj (by omega) (by omega)]
  have bad : ¬ ((x = 1 ∨ x = 2) ∧ y.toNat * size <= r.length) -> Zim (x :: y :: r) size p (fun x' => ∃ k', k' < (x :: y :: r).length ∧ ∃ (r : List UInt8) (p : List Seg), x' = (r, p, ()) ∧ k' = r.length ∧ p.length + cnt p + r.length <= b.length ∧ rpT size p r K) true K := fun hc => by unfold Zim; exact ifT rfl (Zcua hc hr)
  have good : (x = 1 ∨ x = 2) -> Zim (x :: y :: r) size p (fun x' => ∃ k', k' < (x :: y :: r).length ∧ ∃ (r : List UInt8) (p : List Seg), x' = (r, p, ()) ∧ k' = r.length ∧ p.length + cnt p + r.length <= b.length ∧ rpT size p r K) (decide (((y.toNat * size : Nat) : Int) > (r.length : Int))) K := fun hk => by
    by_cases hc : y.toNat * size <= r.length
    case neg =>
      rw [decide_eq_true (by omega)]
      exact bad fun h => hc h.2
    rw [decide_eq_false (by omega)]
    unfold Zim; refine ifF rfl ⟨by decide, AtN.of rfl fun _ => ⟨by decide, AtN.of rfl fun _ => ?_⟩⟩
    have w2 : IntKind.wrap .i64 (2 + ((y.toNat * size : Nat) : Int)) = ((2 + y.toNat * size : Nat) : Int) := by rw [Zj (by omega) (by omega)]; omega
    rw [wm, w2, Int.toNat_natCast]; have hd : ((x :: y :: r).take (2 + y.toNat * size)).drop 2 = r.take (y.toNat * size) := by rw [Nat.add_comm]; rfl
    have hdr : (x :: y :: r).drop (2 + y.toNat * size) = r.drop (y.toNat * size) := by rw [Nat.add_comm]; rfl
    refine ⟨by omega, by simp only [List.length_cons]; omega, by decide, by omega, ifF (decide_eq_false (by omega)) ⟨⟨by show (1 : Int) <= size; omega, by show (size : Int) <= _; omega, ?_⟩, ?_⟩⟩
    show (((x :: y :: r).take (2 + y.toNat * size)).drop 2).length <= _; rw [hd, List.length_take]; omega
    . show Zil _ _ (Zgd (((x :: y :: r).take (2 + y.toNat * size)).drop 2) (size : Int)) _; rw [hd]; obtain ⟨c1, c2⟩ := Zbhf hsz.2 y.toNat (r.take (y.toNat * size)) (by rw [List.length_take]; omega)
      have hx1 : (((x.toNat : Int) : Int) == 1) = (x == 1) := by by_cases e : x = 1; subst e; rfl; rw [beq_eq_false_iff_ne.2 e, beq_eq_false_iff_ne.2 fun h => e (UInt8.toNat_inj.1 (by show x.toNat = 1; omega))]
      rw [hx1]; refine Zbtj (fun pre : List (List UInt8 × Unit) => ((x == 1), pre.map (fun c => UInt32.ofNat (numB c.1)), ())) _ [] (fun pre c post hp2 next hn => ?_) ?_
      . intro _ _; have hcl : c.1.length = size := c2 c (by rw [← List.nil_append (Zgd _ _), hp2]; simp)
        have hcn : (Zgd (r.take (y.toNat * size)) (size : Int)).length = y.toNat := by have := congrArg List.length c1; rw [List.length_map, Zts] at this; exact this
        have hpl : pre.length < y.toNat := by have := congrArg List.length hp2; simp only [List.length_append, List.length_cons, List.nil_append] at this; omega
        dsimp only [Zbnw]; refine Zm.over c.1 (fun z => ((numB z : Int), (z.length : Int), (x == 1), pre.map (fun c => UInt32.ofNat (numB c.1)), ())) (fun _ => True) rfl trivial (fun z v post2 hz hz2 _ next2 hn2 => ?_) (fun _ next2 _ => ?_)
        . intro _; dsimp only [Zbcg]; have hv := UInt8.toNat_lt v; have hnb := Zwm z; have hz3 : z.length <= 3 := by rw [hcl] at hz2; omega
          have hnb2 : numB z < 16777216 := by
            have : 256 ^ z.length <= 256 ^ 3 := Nat.pow_le_pow_right (by decide) hz3
            omega
          refine ifT (decide_eq_true (by omega)) ⟨by omega, AtN.of (Zbs hz) fun _ => ⟨by decide, of_eq (hn2 trivial) ?_⟩⟩
          rw [Zbss, show (numB z : Int) * 256 = ((numB z * 256 : Nat) : Int) by omega, wu32 (by omega), wu32 (by omega), Zjh .u32 _ _ (Zfh (by omega)) (Zfh (by omega)), Zvv _ _ (by omega), wu32 (by omega), Zj (by omega) (by omega)]
          simp
        . dsimp only [Zbcg]; refine ifF (decide_eq_false (by omega)) ⟨by simp only [List.length_map, List.length_cons, List.length_nil]; omega, of_eq hn ?_⟩
          have e : (ofI .u32 (numB c.1 : Int) : UInt32) = UInt32.ofNat (numB c.1) := by simp [ofI]
          rw [e, List.map_append]; rfl
      . intro _; dsimp only [List.nil_append]; rw [c1]; unfold Zbuv; rw [wm, w2, Int.toNat_natCast, hdr]; have hdl := Zts size y.toNat (r.take (y.toNat * size)); have hdt : decN size y.toNat (r.take (y.toNat * size)) = decN size y.toNat r := by
          have : ∀ (n : Nat) (s : List UInt8), n * size <= s.length -> decN size n (s.take (n * size)) = decN size n s := by
            intro n; induction n with
            | zero => intro s _; rfl
            | succ n ih =>
              intro s hsl; rw [Nat.succ_mul] at hsl; simp only [decN]; have e1 : (s.take ((n + 1) * size)).take size = s.take size := by rw [List.take_take, Nat.min_eq_left]; rw [Nat.succ_mul]; omega
              have e2 : (s.take ((n + 1) * size)).drop size = (s.drop size).take (n * size) := by rw [List.drop_take, Nat.succ_mul, Nat.add_sub_cancel]
              rw [e1, e2, ih (s.drop size) (by rw [List.length_drop]; omega)]
          exact this y.toNat r hc
        have hny : y.toNat * 1 <= y.toNat * size := Nat.mul_le_mul_left _ hsz.2; refine ⟨by omega, by simp only [List.length_cons]; omega, by simp only [List.length_cons, List.length_nil]; omega, _, ?_, _, _, rfl, rfl, ?_, ?_⟩
        simp only [List.length_drop, List.length_cons]; omega; rw [Zceu, List.length_append, hdl]; simp only [List.length_cons, List.length_nil, List.length_drop]; omega; rw [hdt]; exact Zckp ⟨hk, hc⟩ hr
  refine ifF (decide_eq_false (by simp only [List.length_cons]; omega)) ⟨by decide, AtN.of rfl fun _ => IfB.intro (fun h1 => ?_) (fun h1 => ?_)⟩
  . have h1 : x.toNat ≠ 1 := fun e => by rw [e] at h1; simp at h1
    refine ⟨by decide, AtN.of rfl fun _ => IfB.intro (fun h2 => ?_) (fun h2 => ?_)⟩
    . have h2 : x.toNat ≠ 2 := fun e => by rw [e] at h2; simp at h2
      exact bad fun h => by rcases h.1 with e | e <;> subst e; exact h1 rfl; exact h2 rfl
    . have h2 : x.toNat = 2 := by
        have : ((x.toNat : Int) : Int) = 2 := by simpa using h2
        omega
      refine ⟨by decide, AtN.of rfl fun _ => ?_⟩
      rw [wl, wm]; exact good (.inr (UInt8.toNat_inj.1 h2))
  . have h1 : x.toNat = 1 := by
      have : ((x.toNat : Int) : Int) = 1 := by simpa using h1
      omega
    refine ⟨by decide, AtN.of rfl fun _ => ?_⟩
    rw [wl, wm]; exact good (.inl (UInt8.toNat_inj.1 h1))
theorem Zchj (b : List UInt8) (four : Bool) (K : List Seg -> Int -> Prop) (hl : b.length <= 1000000000) (h : rpK four b K) : Zbea b four K := by
  unfold Zbea; have := Zcno h; cases four with
  | true => exact ifT rfl (Zbkm b 4 K (.inl rfl) hl this)
  | false => exact ifF rfl (Zbkm b 2 K (.inr rfl) hl this)
end Go.Proofs.YtboagabgpcghcaaGreatDoor
namespace Go.Proofs.YtboagabgpcghcaaGreatDoor
open Go.Sh
theorem Zcrz (n : Int) (K : List UInt32 -> Prop) (h0 : 0 <= n) (hn : n <= 1000000000) (h : K []) : Zse n K := by
  unfold Zse; have e : IntKind.wrap .i64 (n - IntKind.wrap .i64 (0 - 0)) = n := by
    rw [Zj (n := 0 - 0) (by omega) (by omega)]
    exact Zj (by omega) (by omega) |>.trans (by omega)
  rw [e]; refine ifF (decide_eq_false (by omega)) (IfB.intro (fun h1 => ?_) (fun _ => h))
  have h1 : 0 < n := by simpa using h1
  exact ⟨by omega, by omega, h1, hn, by omega, by omega, by simpa using h⟩
theorem Zbpt {pre post : List (List UInt32)} {x : List UInt32} : (pre ++ x :: post).flatten.length = pre.flatten.length + x.length + post.flatten.length := by simp; omega
theorem Zcfz (l : List (List UInt32)) (K : List UInt32 -> Prop) (hl : l.length <= 1000000000) (hf : l.flatten.length <= 1000000000) (h : K l.flatten) : Zvb l K := by
  unfold Zvb; refine Zm.over l (fun pre => ((pre.flatten.length : Int), (pre.length : Int), ())) (fun _ => True) rfl trivial (fun pre x post hp hn _ next hx => ?_) (fun _ next _ => ?_)
  . intro _; dsimp only [Zbfq]; have hs := Zbpt (pre := pre) (x := x) (post := post); rw [← hp] at hs; refine ifT (decide_eq_true (by omega)) ⟨by omega, AtN.of (Zbs hp) fun _ => ?_⟩
    rw [Zj (n := (pre.flatten.length : Int) + x.length) (by omega) (by omega)]
    refine ifF (decide_eq_false (by omega)) (of_eq (hx trivial) ?_)
    rw [Zj (by omega) (by omega)]
    simp
  . dsimp only [Zbfq]; refine ifF (decide_eq_false (by omega)) fun _ => Zcrz _ _ (by omega) (by omega) fun _ => ?_
    refine Zm.over l (fun pre => (pre.flatten, (pre.length : Int), ())) (fun _ => True) rfl trivial (fun pre x post hp hn _ next hx => ?_) (fun _ next _ => ?_)
    . intro _; dsimp only [Zbfe]; have hs := Zbpt (pre := pre) (x := x) (post := post); rw [← hp] at hs; refine ifT (decide_eq_true (by omega)) ⟨by omega, AtN.of (Zbs hp) fun _ => ⟨by omega, of_eq (hx trivial) ?_⟩⟩
      rw [Zj (by omega) (by omega)]
      simp
    dsimp only [Zbfe]; exact ifF (decide_eq_false (by omega)) h
theorem Zbtv (p q : List Seg) : lenP (p ++ q) = lenP p + lenP q := by simp [lenP]
theorem Zyt : ∀ p : List Seg, lenP p <= p.length + cnt p
  | [] => by simp [lenP]
  | s :: p => by
    have ih := Zyt p; have e1 : lenP (s :: p) = (if s.1 then 1 else s.2.length) + lenP p := by simp [lenP]
    have e2 : cnt (s :: p) = s.2.length + cnt p := by simp [cnt]
    rw [e1, e2, List.length_cons]; split <;> omega
theorem Zbji (p : List Seg) (K : Int -> Prop) (hl : p.length + cnt p <= 1000000000) (h : K (lenP p)) : Zro p K := by
  unfold Zro; refine Zm.over p (fun pre => ((lenP pre : Int), (pre.length : Int), ())) (fun _ => True) rfl trivial (fun pre s post hp hn _ next hx => ?_) (fun _ next _ => ?_)
  . intro _; dsimp only [Zbim, Zbib]; have e := Zbtv pre (s :: post); rw [← hp] at e; have e2 : lenP (pre ++ [s]) = lenP pre + (if s.1 then 1 else s.2.length) := by rw [Zbtv]; simp [lenP]
    have e3 : lenP (s :: post) = (if s.1 then 1 else s.2.length) + lenP post := by simp [lenP]
    have hle := Zyt p; refine ifT (decide_eq_true (by omega)) ⟨by omega, AtN.of (Zbs hp) fun _ => IfB.intro (fun h1 => of_eq (hx trivial) ?_) (fun h1 => of_eq (hx trivial) ?_)⟩
    . rw [h1, if_pos rfl] at e2 e3; rw [Zj (by omega) (by omega), Zj (by omega) (by omega), e2]
      simp
    . rw [h1, if_neg (by decide)] at e2 e3
      rw [Zj (by omega) (by omega), Zj (by omega) (by omega), e2]
      simp
  dsimp only [Zbim]; exact ifF (decide_eq_false (by omega)) h
theorem Zbyg (s : List UInt32) (K : List UInt32 -> Prop) (hl : s.length <= 1000000000) (h : K s) : Zbdr s K := by
  intro isnil hn; refine IfB.intro (fun h1 => ?_) (fun _ => ⟨by simp only [List.length_nil]; omega, by simpa using h⟩)
  have : s = [] := List.eq_nil_of_length_eq_zero (hn h1); rw [this] at h; exact h
theorem Zyk {p : List Seg} {s : Seg} (h : s ∈ p) : s.2.length <= cnt p := by obtain ⟨a, b, rfl⟩ := List.append_of_mem h; simp [cnt]; omega
theorem Zbbz (p : List Seg) (K : List Seg -> Prop) (hl : p.length + cnt p <= 1000000000) (h : K p) : Zlt p K := by
  unfold Zlt; refine ⟨by decide, by omega, by omega, ?_⟩
  refine Zm.over p (fun pre => (pre, (pre.length : Int), ())) (fun _ => True) rfl trivial (fun pre s post hp hn _ next hx => ?_) (fun _ next _ => ?_)
  . intro _; dsimp only [Zbdc]; have hm := Zyk (p := p) (s := s) (by rw [hp]; simp)
    refine ifT (decide_eq_true (by omega)) ⟨by omega, AtN.of (Zbs hp) fun _ _ => Zbyg s.2 _ (by omega) fun _ => ⟨by simp only [List.length_cons, List.length_nil]; omega, of_eq (hx trivial) ?_⟩⟩
    rw [Zj (by omega) (by omega)]
    simp
  dsimp only [Zbdc]; exact ifF (decide_eq_false (by omega)) h
theorem Zcex (p : List Seg) (n0 : Nat) (K : List Seg -> Prop) (hl : p.length + cnt p <= 1000000000) (hn0 : n0 <= 1000000000) (h : K (Zck p n0)) : Zth p n0 K := by
  unfold Zth; refine fun _ => Zbbz p _ hl fun _ => ?_; refine ⟨fun k x => ∃ (i n : Nat) (out : List Seg), x = ((n : Int), out, (i : Int), ()) ∧ k = p.length - i ∧ i <= p.length ∧ out ++ Zck (p.drop i) n = Zck p n0 ∧ out.length <= i ∧ n <= n0, p.length, ⟨0, n0, [], rfl, by omega, Nat.zero_le _, rfl, by simp, Nat.le_refl _⟩, ?_⟩
  rintro k x ⟨i, n, out, rfl, rfl, hi, ho, hlen, hnn⟩; intro _; dsimp only [Zbiz]; by_cases h1 : i < p.length
  case neg =>
    refine ifF (decide_eq_false (by omega)) ?_
    rw [List.drop_eq_nil_of_le (by omega)] at ho
    have e : Zck [] n = [] := by cases n <;> rfl
    rw [e, List.append_nil] at ho; rw [ho]; exact h
  have hd : p.drop i = p[i] :: p.drop (i + 1) := List.drop_eq_getElem_cons h1; have hm := Zyk (p := p) (s := p[i]) (List.getElem_mem h1); refine ifT (decide_eq_true (by omega)) ⟨by omega, by omega, AtN.of (by rw [Int.toNat_natCast]; exact List.getElem?_eq_getElem h1) fun _ => IfB.intro (fun h2 => ?_) (fun h2 => ?_)⟩
  . have h2 : n = 0 := by have := of_decide_eq_true h2; omega
    subst h2; have e : Zck (p.drop i) 0 = [] := by cases p.drop i <;> rfl
    rw [e, List.append_nil] at ho; rw [ho]; exact h
  have h2 : 0 < n := by have := of_decide_eq_false h2; omega
  obtain ⟨m, rfl⟩ : ∃ m, n = m + 1 := ⟨n - 1, by omega⟩
  have hw : IntKind.wrap .i64 ((i : Int) + 1) = ((i + 1 : Nat) : Int) := by rw [Zj (by omega) (by omega)]; omega
  rw [hd] at ho; refine IfB.intro (fun h3 => ?_) (fun h3 => ?_)
  . unfold Zud; rw [hw]; have e : Zck (p[i] :: p.drop (i + 1)) (m + 1) = p[i] :: Zck (p.drop (i + 1)) m := by simp only [Zck]; rw [if_pos h3]
    rw [e] at ho; refine ⟨by simp only [List.length_cons, List.length_nil]; omega, p.length - (i + 1), by omega, i + 1, m, out ++ [p[i]], ?_, rfl, by omega, by rw [List.append_assoc]; exact ho, by simp only [List.length_append, List.length_cons, List.length_nil]; omega, by omega⟩
    rw [Zj (by omega) (by omega)]
    congr 1; omega
  . unfold Zud; rw [hw]; have hmin : (min ((m + 1 : Nat) : Int) (p[i].2.length : Int)).toNat = min (m + 1) p[i].2.length := by omega
    rw [hmin]; have htk : p[i].2.take (min (m + 1) p[i].2.length) = p[i].2.take (m + 1) := by rcases Nat.le_total (m + 1) p[i].2.length with h4 | h4; rw [Nat.min_eq_left h4]; rw [Nat.min_eq_right h4, List.take_length, List.take_of_length_le h4]
    rw [htk]; have e : Zck (p[i] :: p.drop (i + 1)) (m + 1) = (p[i].1, p[i].2.take (m + 1)) :: Zck (p.drop (i + 1)) (m + 1 - min (m + 1) p[i].2.length) := by simp only [Zck]; rw [if_neg (by rw [h3]; decide)]
    rw [e] at ho; refine ⟨by omega, by omega, by simp only [List.length_cons, List.length_nil]; omega, p.length - (i + 1), by omega, i + 1, m + 1 - min (m + 1) p[i].2.length, out ++ [(p[i].1, p[i].2.take (m + 1))], ?_, rfl, by omega, by rw [List.append_assoc]; exact ho, by simp only [List.length_append, List.length_cons, List.length_nil]; omega, by omega⟩
    rw [List.length_take, Zj (by omega) (by omega)]
    congr 1; omega
theorem Zsf : ∀ (p : List Seg) (n : Nat), (Zck p n).length <= p.length ∧ cnt (Zck p n) <= cnt p
  | [], n => by cases n <;> simp [Zck, cnt]
  | s :: p, 0 => by simp [Zck, cnt]
  | s :: p, n + 1 => by
    have e2 : cnt (s :: p) = s.2.length + cnt p := by simp [cnt]
    simp only [Zck]; split
    . obtain ⟨h1, h2⟩ := Zsf p n; have e3 : cnt (s :: Zck p n) = s.2.length + cnt (Zck p n) := by simp [cnt]
      rw [e3, e2]; simp only [List.length_cons]; omega
    . obtain ⟨h1, h2⟩ := Zsf p (n + 1 - min (n + 1) s.2.length); have e3 : cnt ((s.1, s.2.take (n + 1)) :: Zck p (n + 1 - min (n + 1) s.2.length)) = (s.2.take (n + 1)).length + cnt (Zck p (n + 1 - min (n + 1) s.2.length)) := by simp [cnt]
      rw [e3, e2]; simp only [List.length_cons, List.length_take]; omega
theorem Zciv (two four : List Seg) (K : List Seg -> Prop) (h2 : two.length + cnt two <= 1000000) (h4 : four.length + cnt four <= 1000000) (h : K (Zds two four)) : Zbfx two four K := by
  have l2 := Zyt two; have l4 := Zyt four; unfold Zbfx; refine fun _ => Zbji two _ (by omega) fun _ _ => Zbji four _ (by omega) fun _ => ?_
  rw [Zj (n := (lenP two : Int) - (lenP four : Int)) (by omega) (by omega)]
  unfold Zds at h; by_cases hlt : lenP two < lenP four; rw [if_pos hlt] at h; exact ifT (decide_eq_true (by omega)) fun _ => Zbbz two _ (by omega) fun _ => h
  rw [if_neg hlt] at h; have hsub : (lenP two : Int) - (lenP four : Int) = ((lenP two - lenP four : Nat) : Int) := by omega
  rw [hsub]; refine ifF (decide_eq_false (by omega)) fun _ => Zcex two _ _ (by omega) (by omega) fun _ _ => Zbbz four _ (by omega) fun _ => ?_
  obtain ⟨f1, f2⟩ := Zsf two (lenP two - lenP four); generalize Zck two (lenP two - lenP four) = out at *; have plain : Zin out four = out ++ four -> Zky out four false K := fun e => by unfold Zky Zzw; rw [e] at h; exact ifF rfl ⟨by omega, h⟩
  rw [Zj (n := (out.length : Int) - 1) (by omega) (by omega)]
  rcases List.eq_nil_or_concat out with rfl | ⟨init, s, rfl⟩; exact ifF (by rfl) (plain rfl)
  have hlast : (init ++ [s]).getLast? = some s := by simp
  have hlen : (((init ++ [s]).length : Nat) : Int) - 1 = (init.length : Int) := by simp
  have hat : (init ++ [s])[init.length]? = some s := by simp
  rw [List.concat_eq_append] at *; rw [hlen]; refine ifT (decide_eq_true (by omega)) ?_
  cases four with
  | nil =>
    refine ifF (by rfl) (plain ?_)
    unfold Zin; rw [hlast]
  | cons t rest =>
    refine ifT (decide_eq_true (by simp only [List.length_cons]; omega)) ⟨by omega, by simp only [List.length_append, List.length_cons, List.length_nil]; omega, ?_⟩
    rw [Int.toNat_natCast]; refine AtN.of hat fun _ => IfB.intro (fun h5 => ?_) (fun h5 => plain ?_)
    . refine ⟨by decide, by simp only [List.length_cons]; omega, AtN.of rfl fun _ => ?_⟩
      cases h6 : t.1 with
      | true =>
        refine plain ?_; unfold Zin; rw [hlast]; simp only [h6, Bool.not_true, Bool.and_false, Bool.false_eq_true, if_false]
      | false =>
        have hg : Zin (init ++ [s]) (t :: rest) = init ++ (s.1, s.2 ++ t.2) :: rest := by unfold Zin; rw [hlast]; simp only [h5, h6, Bool.not_false, Bool.and_true, if_true, List.dropLast_concat]
        rw [hg] at h; have hs := Zyk (p := init ++ [s]) (s := s) (by simp)
        have ht := Zyk (p := t :: rest) (s := t) (by simp)
        unfold Zky; refine ifT rfl ?_; rw [Zj (n := (((init ++ [s]).length : Nat) : Int) - 1) (by omega) (by omega), hlen, Int.toNat_natCast]
        refine ⟨by omega, by simp only [List.length_append, List.length_cons, List.length_nil]; omega, AtN.of hat fun _ => ⟨by decide, by simp only [List.length_cons]; omega, AtN.of rfl fun _ _ => Zcfz [s.2, t.2] _ (by simp) (by simp; omega) fun _ => ⟨by omega, by simp only [List.length_append, List.length_cons, List.length_nil]; omega, AtN.of hat fun _ => ⟨by decide, by simp only [List.length_cons]; omega, ?_⟩⟩⟩⟩
        unfold Zzw; have e1 : (init ++ [s]).set init.length (s.1, [s.2, t.2].flatten) = init ++ [(s.1, s.2 ++ t.2)] := by rw [List.set_append_right _ _ (Nat.le_refl _), Nat.sub_self]; simp
        rw [e1]; refine ⟨by simp only [List.length_append, List.length_cons, List.length_nil, List.length_drop] at *; omega, of_eq h ?_⟩
        simp
    . have h5 : s.1 = true := by simpa using h5
      unfold Zin; rw [hlast]; simp only [h5, Bool.not_true, Bool.false_and, Bool.false_eq_true, if_false]
end Go.Proofs.YtboagabgpcghcaaGreatDoor
namespace Go.Proofs.YtboagabgpcghcaaGreatDoor
open Go.Sh
theorem Zcnd : ∀ n : Nat, n < 256 -> n &&& 192 = n / 64 * 64 := by decide +kernel
theorem Zcrq (n : Nat) : n &&& 16 = 16 * (n / 16 % 2) := Zbyn 4 n
theorem Zcqi (x y z w : UInt8) (r : List UInt8) (K : Int -> Prop) (h : K (numB [x, y, z, w])) : Zbbx (x :: y :: z :: w :: r) K := by
  have hx := UInt8.toNat_lt x; have hy := UInt8.toNat_lt y; have hz := UInt8.toNat_lt z; have hw := UInt8.toNat_lt w; unfold Zbbx; refine ⟨by decide, AtN.of rfl fun _ => ⟨by decide, by decide, AtN.of rfl fun _ => ⟨by decide, by decide, AtN.of rfl fun _ => ⟨by decide, by decide, AtN.of rfl fun _ => of_eq h ?_⟩⟩⟩⟩
  rw [wu32 (a := x.toNat) (by omega), wu32 (a := y.toNat) (by omega), wu32 (a := z.toNat) (by omega), wu32 (a := w.toNat) (by omega),
    show (x.toNat : Int) * 16777216 = ((2 ^ 24 * x.toNat : Nat) : Int) by omega, show (y.toNat : Int) * 65536 = ((y.toNat * 65536 : Nat) : Int) by omega, show (z.toNat : Int) * 256 = ((z.toNat * 256 : Nat) : Int) by omega,
    wu32 (a := 2 ^ 24 * x.toNat) (by omega), wu32 (a := y.toNat * 65536) (by omega), wu32 (a := z.toNat * 256) (by omega)]
  rw [Zjh .u32 _ _ (Zfh (by omega)) (Zfh (by omega)), Zon 24 _ _ (by omega), wu32 (by omega)]
  rw [show 2 ^ 24 * x.toNat + y.toNat * 65536 = 2 ^ 16 * (x.toNat * 256 + y.toNat) by omega, Zjh .u32 _ _ (Zfh (by omega)) (Zfh (by omega)), Zon 16 _ _ (by omega), wu32 (by omega)]
  rw [show 2 ^ 16 * (x.toNat * 256 + y.toNat) + z.toNat * 256 = 2 ^ 8 * ((x.toNat * 256 + y.toNat) * 256 + z.toNat) by omega, Zjh .u32 _ _ (Zfh (by omega)) (Zfh (by omega)), Zon 8 _ _ (by omega), wu32 (by omega)]
  simp only [numB, List.foldl_cons, List.foldl_nil]; omega
def nxK (b : List UInt8) (K : (UInt8 × Int × List UInt8 × Int) -> Bool -> Prop) : Prop := match Zeh b with
  | some (fl, kd, d, n) => K (UInt8.ofNat fl, (kd : Int), d, (n : Int)) true
  | none => K (0, 0, [], 0) false
theorem Zchh (b : List UInt8) (K : (UInt8 × Int × List UInt8 × Int) -> Bool -> Prop) (hl : b.length <= 1000000000) (h : nxK b K) : Zbft b K := by
  unfold Zbft; unfold nxK Zeh at h
  match b, hl, h with
  | [], _, h => exact ifT rfl h
  | [_], _, h => exact ifT rfl h
  | [_, _], _, h => exact ifT rfl h
  | fl :: kd :: n1 :: r, hl, h =>
    have hf := UInt8.toNat_lt fl; have hk := UInt8.toNat_lt kd; have h1 := UInt8.toNat_lt n1; simp only [List.length_cons] at hl; have eF : (ofI .u8 (Zfb .u8 (fl.toNat : Int) 192) : UInt8) = UInt8.ofNat (fl.toNat / 64 * 64) := by
      rw [show (192 : Int) = ((192 : Nat) : Int) from rfl, Zbia .u8 _ _ (Zti (by omega)) (Zti (by decide)), Zcnd _ (by omega)]
      have : IntKind.wrap .u8 ((fl.toNat / 64 * 64 : Nat) : Int) = ((fl.toNat / 64 * 64 : Nat) : Int) := by rw [Zlo]; omega
      rw [this]; show UInt8.ofNat (((fl.toNat / 64 * 64 : Nat) : Int)).toNat = _; rw [Int.toNat_natCast]
    have eK : IntKind.wrap .i64 (kd.toNat : Int) = (kd.toNat : Int) := Zj (by omega) (by omega)
    have e16 : Zfb .u8 (fl.toNat : Int) 16 = ((16 * (fl.toNat / 16 % 2) : Nat) : Int) := by
      rw [show (16 : Int) = ((16 : Nat) : Int) from rfl, Zbia .u8 _ _ (Zti (by omega)) (Zti (by decide)), Zcrq]
      rw [Zlo]; omega
    have tail : ∀ (head n : Nat) (r' : List UInt8), head <= 4 -> n <= 65535 -> (fl :: kd :: n1 :: r).length = head + r'.length -> (fl :: kd :: n1 :: r).drop head = r' -> (if n <= r'.length then K (UInt8.ofNat (fl.toNat / 64 * 64), (kd.toNat : Int), r'.take n, ((head + n : Nat) : Int)) true else K (0, 0, [], 0) false) -> Zzn (fl :: kd :: n1 :: r) (head : Int) (n : Int) K := fun head n r' hh hn hlen hd hK => by
      unfold Zzn; have hb : (fl :: kd :: n1 :: r).length <= 1000000000 := by simp only [List.length_cons]; omega
      generalize hB : fl :: kd :: n1 :: r = B at *; rw [Zj (n := (B.length : Int) - (head : Int)) (by omega) (by omega)]
      by_cases hc : n <= r'.length
      . rw [if_pos hc] at hK; have w : IntKind.wrap .i64 ((head : Int) + (n : Int)) = ((head + n : Nat) : Int) := by rw [Zj (by omega) (by omega)]; omega
        rw [w, Int.toNat_natCast, Int.toNat_natCast]; refine ifT (decide_eq_true (by omega)) ⟨by decide, AtN.of (by rw [← hB]; rfl) fun _ => ⟨by decide, AtN.of (x := kd) (by rw [← hB]; rfl) fun _ => ⟨by omega, by omega, by omega, by omega, ?_⟩⟩⟩
        rw [eF, eK]; have e9 : (B.take (head + n)).drop head = r'.take n := by rw [List.drop_take, hd, show head + n - head = n by omega]
        rw [e9]; exact hK
      rw [if_neg hc] at hK; exact ifF (decide_eq_false (by omega)) hK
    refine ifF (decide_eq_false (by simp only [List.length_cons]; omega)) ⟨by decide, AtN.of rfl fun _ => ⟨by decide, AtN.of rfl fun _ => IfB.intro (fun h2 => ?_) (fun h2 => ?_)⟩⟩
    . have h2 : fl.toNat / 16 % 2 = 1 := by rw [e16] at h2; rcases Nat.mod_two_eq_zero_or_one (fl.toNat / 16) with e | e; rw [e] at h2; simp at h2; exact e
      simp only at h; rw [if_pos h2] at h; cases r with
      | nil => exact ifT rfl h
      | cons n2 r' =>
        have hn2 := UInt8.toNat_lt n2; simp only [List.length_cons] at hl; refine ifF (decide_eq_false (by simp only [List.length_cons]; omega)) ⟨by decide, by decide, AtN.of rfl fun _ => ?_⟩
        rw [Zj (n := (n1.toNat : Int)) (by omega) (by omega), Zj (n := (n2.toNat : Int)) (by omega) (by omega), show (n1.toNat : Int) * 256 = ((n1.toNat * 256 : Nat) : Int) by omega, Zj (n := ((n1.toNat * 256 : Nat) : Int)) (by omega) (by omega), Zjh .i64 _ _ (Zxl (by omega)) (Zxl (by omega)), Zvv _ _ (by omega), Zj (n := ((n1.toNat * 256 + n2.toNat : Nat) : Int)) (by omega) (by omega)]
        refine tail 4 (n1.toNat * 256 + n2.toNat) r' (by omega) (by omega) (by simp only [List.length_cons]; omega) rfl ?_
        by_cases hc : n1.toNat * 256 + n2.toNat <= r'.length; simp only at h; rw [if_pos hc] at h ⊢; exact h; simp only at h; rw [if_neg hc] at h ⊢; exact h
    . have h2 : ¬ fl.toNat / 16 % 2 = 1 := fun e => by rw [e16, e] at h2; simp at h2
      simp only at h; rw [if_neg h2] at h; rw [Zj (n := (n1.toNat : Int)) (by omega) (by omega)]
      refine tail 3 n1.toNat r (by omega) (by omega) (by simp only [List.length_cons]; omega) rfl ?_
      by_cases hc : n1.toNat <= r.length; rw [if_pos hc] at h ⊢; exact h; rw [if_neg hc] at h ⊢; exact h
end Go.Proofs.YtboagabgpcghcaaGreatDoor
end
section
set_option maxRecDepth 100000
namespace Go.Proofs.YtboagabgpcghcaaGreatDoor
open Go.Sh
noncomputable def Zbch : List Value := (Zcs Tryz.prog Zdj).getD []
def Zbsf : Plan := ⟨[(12, [0, 1, 2, 3, 4, 5, 6, 7, 8], [76]), (14, [0, 1, 2, 3, 4, 5, 6, 7, 8, 9, 10, 11], [87])], [(2, [0], [.slice], [2, 6, 8, 9])], [], []⟩
theorem Zcqo : Known Tryz.prog Zlx Tryz.f28 Zbsf (Zg Tryz.f28) := by refine ⟨Tryz.func28, ?_, ?_, ?_, ?_, ?_⟩ <;> kernel_rfl
def Zbpm (x6b : Nat) (x8b : Nat) (x14b : Nat) (x70 : Int) (next2 : ((Option Addr × Nat × Nat) × Unit) -> Heap -> Prop) (H16 : Heap) (R : Value -> Heap -> Prop) : Prop :=
 IfB (decide ((x70 : Int) ≥ 2))
 (∃ bs : List Nat, (∀ b ∈ bs, ∃ o, H16 b = some o) ∧
 x14b ∈ bs ∧ ∃ x76 : Int, H16.cell ⟨x14b, 14, none⟩ = some (Value.int .i64 x76) ∧
 Zi H16 ⟨x6b, 0, none⟩ (Value.int .i64 0) fun H17 =>
 Zi H17 ⟨x6b, 1, none⟩ (Value.slice none 0 0) fun H18 =>
 Zi H18 ⟨x6b, 2, none⟩ (Value.int .u32 0) fun H19 =>
 Zi H19 ⟨x6b, 3, none⟩ (Value.bool false) fun H20 =>
 Zi H20 ⟨x6b, 4, none⟩ (Value.int .u32 0) fun H21 =>
 Zi H21 ⟨x6b, 5, none⟩ (Value.bool false) fun H22 =>
 Zi H22 ⟨x6b, 6, none⟩ (Value.int .u32 0) fun H23 =>
 Zi H23 ⟨x6b, 7, none⟩ (Value.bool false) fun H24 =>
 Zi H24 ⟨x6b, 8, none⟩ (Value.bool false) fun H25 =>
 Zi H25 ⟨x6b, 9, none⟩ (Value.int .u32 0) fun H26 =>
 Zi H26 ⟨x6b, 10, none⟩ (Value.int .u32 0) fun H27 =>
 Zi H27 ⟨x6b, 11, none⟩ (Value.slice none 0 0) fun H28 =>
 Zi H28 ⟨x6b, 12, none⟩ (Value.slice none 0 0) fun H29 =>
 Zef bs H16 H29 ∧ Zi H29 ⟨x8b, 0, none⟩ (Value.int .i64 0) fun H30 =>
 Zi H30 ⟨x8b, 1, none⟩ (Value.int .i64 0) fun H31 =>
 Zi H31 ⟨x8b, 2, none⟩ (Value.slice none 0 0) fun H32 =>
 ∃ r0c0 : Int, H32.cell ⟨x6b, 0, none⟩ = some (Value.int .i64 r0c0) ∧ ∃ (r0c1a : Option Addr) (r0c1n r0c1c : Nat), H32.cell ⟨x6b, 1, none⟩ = some (Value.slice r0c1a r0c1n r0c1c) ∧ ∃ r0c2 : Int, H32.cell ⟨x6b, 2, none⟩ = some (Value.int .u32 r0c2) ∧ ∃ r0c3 : Bool, H32.cell ⟨x6b, 3, none⟩ = some (Value.bool r0c3) ∧ ∃ r0c4 : Int, H32.cell ⟨x6b, 4, none⟩ = some (Value.int .u32 r0c4) ∧ ∃ r0c5 : Bool, H32.cell ⟨x6b, 5, none⟩ = some (Value.bool r0c5) ∧ ∃ r0c6 : Int, H32.cell ⟨x6b, 6, none⟩ = some (Value.int .u32 r0c6) ∧ ∃ r0c7 : Bool, H32.cell ⟨x6b, 7, none⟩ = some (Value.bool r0c7) ∧ ∃ r0c8 : Bool, H32.cell ⟨x6b, 8, none⟩ = some (Value.bool r0c8) ∧ ∃ r0c9 : Int, H32.cell ⟨x6b, 9, none⟩ = some (Value.int .u32 r0c9) ∧ ∃ r0c10 : Int, H32.cell ⟨x6b, 10, none⟩ = some (Value.int .u32 r0c10) ∧ ∃ (r0c11a : Option Addr) (r0c11n r0c11c : Nat), H32.cell ⟨x6b, 11, none⟩ = some (Value.slice r0c11a r0c11n r0c11c) ∧ ∃ (r0c12a : Option Addr) (r0c12n r0c12c : Nat), H32.cell ⟨x6b, 12, none⟩ = some (Value.slice r0c12a r0c12n r0c12c) ∧ ∃ r2c0 : Int, H32.cell ⟨x8b, 0, none⟩ = some (Value.int .i64 r2c0) ∧ ∃ r2c1 : Int, H32.cell ⟨x8b, 1, none⟩ = some (Value.int .i64 r2c1) ∧ ∃ (r2c2a : Option Addr) (r2c2n r2c2c : Nat), H32.cell ⟨x8b, 2, none⟩ = some (Value.slice r2c2a r2c2n r2c2c) ∧ R (Value.tuple ⟨[(Value.agg ⟨[(Value.int .i64 r0c0), (Value.slice r0c1a r0c1n r0c1c), (Value.int .u32 r0c2), (Value.bool r0c3), (Value.int .u32 r0c4), (Value.bool r0c5), (Value.int .u32 r0c6), (Value.bool r0c7), (Value.bool r0c8), (Value.int .u32 r0c9), (Value.int .u32 r0c10), (Value.slice r0c11a r0c11n r0c11c), (Value.slice r0c12a r0c12n r0c12c)]⟩), (Value.int .i64 x76), (Value.agg ⟨[(Value.int .i64 r2c0), (Value.int .i64 r2c1), (Value.slice r2c2a r2c2n r2c2c)]⟩)]⟩) H32)
 (FnW Tryz.prog Zsw ⟨[(Value.pointer (some ⟨x14b, 0, none⟩))]⟩ H16 fun x79v H33 =>
 x79v = (Value.tuple ⟨[]⟩) ∧
 ∃ bs : List Nat, (∀ b ∈ bs, ∃ o, H33 b = some o) ∧
 ∃ x83c0 : Int, H33.cell ⟨x14b, 0, none⟩ = some (Value.int .i64 x83c0) ∧ ∃ (x83c1a : Option Addr) (x83c1n x83c1c : Nat), H33.cell ⟨x14b, 1, none⟩ = some (Value.slice x83c1a x83c1n x83c1c) ∧ ∃ x83c2 : Int, H33.cell ⟨x14b, 2, none⟩ = some (Value.int .u32 x83c2) ∧ ∃ x83c3 : Bool, H33.cell ⟨x14b, 3, none⟩ = some (Value.bool x83c3) ∧ ∃ x83c4 : Int, H33.cell ⟨x14b, 4, none⟩ = some (Value.int .u32 x83c4) ∧ ∃ x83c5 : Bool, H33.cell ⟨x14b, 5, none⟩ = some (Value.bool x83c5) ∧ ∃ x83c6 : Int, H33.cell ⟨x14b, 6, none⟩ = some (Value.int .u32 x83c6) ∧ ∃ x83c7 : Bool, H33.cell ⟨x14b, 7, none⟩ = some (Value.bool x83c7) ∧ ∃ x83c8 : Bool, H33.cell ⟨x14b, 8, none⟩ = some (Value.bool x83c8) ∧ ∃ x83c9 : Int, H33.cell ⟨x14b, 9, none⟩ = some (Value.int .u32 x83c9) ∧ ∃ x83c10 : Int, H33.cell ⟨x14b, 10, none⟩ = some (Value.int .u32 x83c10) ∧ ∃ (x83c11a : Option Addr) (x83c11n x83c11c : Nat), H33.cell ⟨x14b, 11, none⟩ = some (Value.slice x83c11a x83c11n x83c11c) ∧ ∃ (x83c12a : Option Addr) (x83c12n x83c12c : Nat), H33.cell ⟨x14b, 12, none⟩ = some (Value.slice x83c12a x83c12n x83c12c) ∧ x14b ∈ bs ∧ ∃ x87 : Int, H33.cell ⟨x14b, 14, none⟩ = some (Value.int .i64 x87) ∧
 Zi H33 ⟨x6b, 0, none⟩ (Value.int .i64 x83c0) fun H34 =>
 Zi H34 ⟨x6b, 1, none⟩ (Value.slice x83c1a x83c1n x83c1c) fun H35 =>
 Zi H35 ⟨x6b, 2, none⟩ (Value.int .u32 x83c2) fun H36 =>
 Zi H36 ⟨x6b, 3, none⟩ (Value.bool x83c3) fun H37 =>
 Zi H37 ⟨x6b, 4, none⟩ (Value.int .u32 x83c4) fun H38 =>
 Zi H38 ⟨x6b, 5, none⟩ (Value.bool x83c5) fun H39 =>
 Zi H39 ⟨x6b, 6, none⟩ (Value.int .u32 x83c6) fun H40 =>
 Zi H40 ⟨x6b, 7, none⟩ (Value.bool x83c7) fun H41 =>
 Zi H41 ⟨x6b, 8, none⟩ (Value.bool x83c8) fun H42 =>
 Zi H42 ⟨x6b, 9, none⟩ (Value.int .u32 x83c9) fun H43 =>
 Zi H43 ⟨x6b, 10, none⟩ (Value.int .u32 x83c10) fun H44 =>
 Zi H44 ⟨x6b, 11, none⟩ (Value.slice x83c11a x83c11n x83c11c) fun H45 =>
 Zi H45 ⟨x6b, 12, none⟩ (Value.slice x83c12a x83c12n x83c12c) fun H46 =>
 Zef bs H33 H46 ∧ Zi H46 ⟨x8b, 0, none⟩ (Value.int .i64 0) fun H47 =>
 Zi H47 ⟨x8b, 1, none⟩ (Value.int .i64 0) fun H48 =>
 Zi H48 ⟨x8b, 2, none⟩ (Value.slice none 0 0) fun H49 =>
 ∃ r0c0_1 : Int, H49.cell ⟨x6b, 0, none⟩ = some (Value.int .i64 r0c0_1) ∧ ∃ (r0c1a_1 : Option Addr) (r0c1n_1 r0c1c_1 : Nat), H49.cell ⟨x6b, 1, none⟩ = some (Value.slice r0c1a_1 r0c1n_1 r0c1c_1) ∧ ∃ r0c2_1 : Int, H49.cell ⟨x6b, 2, none⟩ = some (Value.int .u32 r0c2_1) ∧ ∃ r0c3_1 : Bool, H49.cell ⟨x6b, 3, none⟩ = some (Value.bool r0c3_1) ∧ ∃ r0c4_1 : Int, H49.cell ⟨x6b, 4, none⟩ = some (Value.int .u32 r0c4_1) ∧ ∃ r0c5_1 : Bool, H49.cell ⟨x6b, 5, none⟩ = some (Value.bool r0c5_1) ∧ ∃ r0c6_1 : Int, H49.cell ⟨x6b, 6, none⟩ = some (Value.int .u32 r0c6_1) ∧ ∃ r0c7_1 : Bool, H49.cell ⟨x6b, 7, none⟩ = some (Value.bool r0c7_1) ∧ ∃ r0c8_1 : Bool, H49.cell ⟨x6b, 8, none⟩ = some (Value.bool r0c8_1) ∧ ∃ r0c9_1 : Int, H49.cell ⟨x6b, 9, none⟩ = some (Value.int .u32 r0c9_1) ∧ ∃ r0c10_1 : Int, H49.cell ⟨x6b, 10, none⟩ = some (Value.int .u32 r0c10_1) ∧ ∃ (r0c11a_1 : Option Addr) (r0c11n_1 r0c11c_1 : Nat), H49.cell ⟨x6b, 11, none⟩ = some (Value.slice r0c11a_1 r0c11n_1 r0c11c_1) ∧ ∃ (r0c12a_1 : Option Addr) (r0c12n_1 r0c12c_1 : Nat), H49.cell ⟨x6b, 12, none⟩ = some (Value.slice r0c12a_1 r0c12n_1 r0c12c_1) ∧ ∃ r2c0_1 : Int, H49.cell ⟨x8b, 0, none⟩ = some (Value.int .i64 r2c0_1) ∧ ∃ r2c1_1 : Int, H49.cell ⟨x8b, 1, none⟩ = some (Value.int .i64 r2c1_1) ∧ ∃ (r2c2a_1 : Option Addr) (r2c2n_1 r2c2c_1 : Nat), H49.cell ⟨x8b, 2, none⟩ = some (Value.slice r2c2a_1 r2c2n_1 r2c2c_1) ∧ R (Value.tuple ⟨[(Value.agg ⟨[(Value.int .i64 r0c0_1), (Value.slice r0c1a_1 r0c1n_1 r0c1c_1), (Value.int .u32 r0c2_1), (Value.bool r0c3_1), (Value.int .u32 r0c4_1), (Value.bool r0c5_1), (Value.int .u32 r0c6_1), (Value.bool r0c7_1), (Value.bool r0c8_1), (Value.int .u32 r0c9_1), (Value.int .u32 r0c10_1), (Value.slice r0c11a_1 r0c11n_1 r0c11c_1), (Value.slice r0c12a_1 r0c12n_1 r0c12c_1)]⟩), (Value.int .i64 x87), (Value.agg ⟨[(Value.int .i64 r2c0_1), (Value.int .i64 r2c1_1), (Value.slice r2c2a_1 r2c2n_1 r2c2c_1)]⟩)]⟩) H49)
def Zuw (x6b : Nat) (x8b : Nat) (x14b : Nat) (next2 : ((Option Addr × Nat × Nat) × Unit) -> Heap -> Prop) (H15 : Heap) (R : Value -> Heap -> Prop) : Prop :=
 ∃ x70 : Int, H15.cell ⟨x14b, 14, none⟩ = some (Value.int .i64 x70) ∧
 Zbpm x6b x8b x14b x70 next2 H15 R
def Zmf (x6b : Nat) (x8b : Nat) (x14b : Nat) (next2 : ((Option Addr × Nat × Nat) × Unit) -> Heap -> Prop) (x64 : Bool) (H13 : Heap) (R : Value -> Heap -> Prop) : Prop :=
 IfB x64
 (FnW Tryz.prog Zgw ⟨[(Value.pointer (some ⟨x14b, 0, none⟩)), (Value.int .i64 2)]⟩ H13 fun x66v H14 =>
 x66v = (Value.tuple ⟨[]⟩) ∧
 Zuw x6b x8b x14b next2 H14 R)
 (Zuw x6b x8b x14b next2 H13 R)
def Zxf (told2 : Bool) (x6b : Nat) (x8b : Nat) (x14b : Nat) (next2 : ((Option Addr × Nat × Nat) × Unit) -> Heap -> Prop) (H12 : Heap) (R : Value -> Heap -> Prop) : Prop :=
 IfB told2
 (InB 1 256 fun x47i =>
 ∃ x48 : Bool, H12.cell ⟨x14b, 15 + x47i * 1, none⟩ = some (Value.bool x48) ∧
 IfB x48
 (InB 2 256 fun x53i =>
 ∃ x54 : Bool, H12.cell ⟨x14b, 15 + x53i * 1, none⟩ = some (Value.bool x54) ∧
 IfB x54
 (InB 3 256 fun x60i =>
 ∃ x61 : Bool, H12.cell ⟨x14b, 15 + x60i * 1, none⟩ = some (Value.bool x61) ∧
 Zmf x6b x8b x14b next2 (!x61) H12 R)
 (Zmf x6b x8b x14b next2 true H12 R))
 (Zmf x6b x8b x14b next2 true H12 R))
 (Zmf x6b x8b x14b next2 false H12 R)
def Zbnz (told2 : Bool) (x6b : Nat) (x8b : Nat) (x14b : Nat) (b0a_1 : Option Addr) (b0n_1 : Nat) (b0c_1 : Nat) (H4 : Heap) (next2 : ((Option Addr × Nat × Nat) × Unit) -> Heap -> Prop) (R : Value -> Heap -> Prop) : Prop :=
 IfB (decide (((b0n_1 : Int) : Int) > 0))
 (FnW Tryz.prog Zyn ⟨[(Value.slice b0a_1 b0n_1 b0c_1)]⟩ H4 fun x20v H5 =>
 ∃ x20r0c0 : Int, ∃ x20r0c1 : Int, ∃ (x20r0c2a : Option Addr) (x20r0c2n x20r0c2c : Nat), ∃ x20r0c3 : Int, ∃ x20r1 : Bool, x20v = (Value.tuple ⟨[(Value.agg ⟨[(Value.int .u8 x20r0c0), (Value.int .i64 x20r0c1), (Value.slice x20r0c2a x20r0c2n x20r0c2c), (Value.int .i64 x20r0c3)]⟩), (Value.bool x20r1)]⟩) ∧
 NewW H5 (Obj.cells ⟨[(Value.int .u8 0), (Value.int .i64 0), (Value.slice none 0 0), (Value.int .i64 0)]⟩ Zjv) fun p10b H6 =>
 Zi H6 ⟨p10b, 0, none⟩ (Value.int .u8 x20r0c0) fun H7 =>
 Zi H7 ⟨p10b, 1, none⟩ (Value.int .i64 x20r0c1) fun H8 =>
 Zi H8 ⟨p10b, 2, none⟩ (Value.slice x20r0c2a x20r0c2n x20r0c2c) fun H9 =>
 Zi H9 ⟨p10b, 3, none⟩ (Value.int .i64 x20r0c3) fun H10 =>
 IfB (!x20r1)
 (FnW Tryz.prog Zgw ⟨[(Value.pointer (some ⟨x14b, 0, none⟩)), (Value.int .i64 2)]⟩ H10 fun x26v H11 =>
 x26v = (Value.tuple ⟨[]⟩) ∧
 Zxf told2 x6b x8b x14b next2 H11 R)
 (∃ x28c0 : Int, H10.cell ⟨p10b, 0, none⟩ = some (Value.int .u8 x28c0) ∧ ∃ x28c1 : Int, H10.cell ⟨p10b, 1, none⟩ = some (Value.int .i64 x28c1) ∧ ∃ (x28c2a : Option Addr) (x28c2n x28c2c : Nat), H10.cell ⟨p10b, 2, none⟩ = some (Value.slice x28c2a x28c2n x28c2c) ∧ ∃ x28c3 : Int, H10.cell ⟨p10b, 3, none⟩ = some (Value.int .i64 x28c3) ∧ FnW Tryz.prog Zqp ⟨[(Value.pointer (some ⟨x14b, 0, none⟩)), (Value.agg ⟨[(Value.int .u8 x28c0), (Value.int .i64 x28c1), (Value.slice x28c2a x28c2n x28c2c), (Value.int .i64 x28c3)]⟩)]⟩ H10 fun x29v H50 =>
 ∃ x29 : Bool, x29v = (Value.bool x29) ∧
 IfB (!x29)
 (∃ x34 : Int, H50.cell ⟨p10b, 3, none⟩ = some (Value.int .i64 x34) ∧
 InC x34 b0c_1 fun x35h =>
 FnW Tryz.prog Zpd ⟨[(Value.slice b0a_1 x35h b0c_1)]⟩ H50 fun x36v H51 =>
 ∃ (x36a : Option Addr) (x36n x36c : Nat), x36v = (Value.slice x36a x36n x36c) ∧
 Zi H51 ⟨x6b, 0, none⟩ (Value.int .i64 0) fun H52 =>
 Zi H52 ⟨x6b, 1, none⟩ (Value.slice none 0 0) fun H53 =>
 Zi H53 ⟨x6b, 2, none⟩ (Value.int .u32 0) fun H54 =>
 Zi H54 ⟨x6b, 3, none⟩ (Value.bool false) fun H55 =>
 Zi H55 ⟨x6b, 4, none⟩ (Value.int .u32 0) fun H56 =>
 Zi H56 ⟨x6b, 5, none⟩ (Value.bool false) fun H57 =>
 Zi H57 ⟨x6b, 6, none⟩ (Value.int .u32 0) fun H58 =>
 Zi H58 ⟨x6b, 7, none⟩ (Value.bool false) fun H59 =>
 Zi H59 ⟨x6b, 8, none⟩ (Value.bool false) fun H60 =>
 Zi H60 ⟨x6b, 9, none⟩ (Value.int .u32 0) fun H61 =>
 Zi H61 ⟨x6b, 10, none⟩ (Value.int .u32 0) fun H62 =>
 Zi H62 ⟨x6b, 11, none⟩ (Value.slice none 0 0) fun H63 =>
 Zi H63 ⟨x6b, 12, none⟩ (Value.slice none 0 0) fun H64 =>
 Zi H64 ⟨x8b, 0, none⟩ (Value.int .i64 3) fun H65 =>
 Zi H65 ⟨x8b, 1, none⟩ (Value.int .i64 2) fun H66 =>
 Zi H66 ⟨x8b, 2, none⟩ (Value.slice x36a x36n x36c) fun H67 =>
 ∃ r0c0_2 : Int, H67.cell ⟨x6b, 0, none⟩ = some (Value.int .i64 r0c0_2) ∧ ∃ (r0c1a_2 : Option Addr) (r0c1n_2 r0c1c_2 : Nat), H67.cell ⟨x6b, 1, none⟩ = some (Value.slice r0c1a_2 r0c1n_2 r0c1c_2) ∧ ∃ r0c2_2 : Int, H67.cell ⟨x6b, 2, none⟩ = some (Value.int .u32 r0c2_2) ∧ ∃ r0c3_2 : Bool, H67.cell ⟨x6b, 3, none⟩ = some (Value.bool r0c3_2) ∧ ∃ r0c4_2 : Int, H67.cell ⟨x6b, 4, none⟩ = some (Value.int .u32 r0c4_2) ∧ ∃ r0c5_2 : Bool, H67.cell ⟨x6b, 5, none⟩ = some (Value.bool r0c5_2) ∧ ∃ r0c6_2 : Int, H67.cell ⟨x6b, 6, none⟩ = some (Value.int .u32 r0c6_2) ∧ ∃ r0c7_2 : Bool, H67.cell ⟨x6b, 7, none⟩ = some (Value.bool r0c7_2) ∧ ∃ r0c8_2 : Bool, H67.cell ⟨x6b, 8, none⟩ = some (Value.bool r0c8_2) ∧ ∃ r0c9_2 : Int, H67.cell ⟨x6b, 9, none⟩ = some (Value.int .u32 r0c9_2) ∧ ∃ r0c10_2 : Int, H67.cell ⟨x6b, 10, none⟩ = some (Value.int .u32 r0c10_2) ∧ ∃ (r0c11a_2 : Option Addr) (r0c11n_2 r0c11c_2 : Nat), H67.cell ⟨x6b, 11, none⟩ = some (Value.slice r0c11a_2 r0c11n_2 r0c11c_2) ∧ ∃ (r0c12a_2 : Option Addr) (r0c12n_2 r0c12c_2 : Nat), H67.cell ⟨x6b, 12, none⟩ = some (Value.slice r0c12a_2 r0c12n_2 r0c12c_2) ∧ ∃ r2c0_2 : Int, H67.cell ⟨x8b, 0, none⟩ = some (Value.int .i64 r2c0_2) ∧ ∃ r2c1_2 : Int, H67.cell ⟨x8b, 1, none⟩ = some (Value.int .i64 r2c1_2) ∧ ∃ (r2c2a_2 : Option Addr) (r2c2n_2 r2c2c_2 : Nat), H67.cell ⟨x8b, 2, none⟩ = some (Value.slice r2c2a_2 r2c2n_2 r2c2c_2) ∧ R (Value.tuple ⟨[(Value.agg ⟨[(Value.int .i64 r0c0_2), (Value.slice r0c1a_2 r0c1n_2 r0c1c_2), (Value.int .u32 r0c2_2), (Value.bool r0c3_2), (Value.int .u32 r0c4_2), (Value.bool r0c5_2), (Value.int .u32 r0c6_2), (Value.bool r0c7_2), (Value.bool r0c8_2), (Value.int .u32 r0c9_2), (Value.int .u32 r0c10_2), (Value.slice r0c11a_2 r0c11n_2 r0c11c_2), (Value.slice r0c12a_2 r0c12n_2 r0c12c_2)]⟩), (Value.int .i64 3), (Value.agg ⟨[(Value.int .i64 r2c0_2), (Value.int .i64 r2c1_2), (Value.slice r2c2a_2 r2c2n_2 r2c2c_2)]⟩)]⟩) H67)
 (∃ x40 : Int, H50.cell ⟨p10b, 3, none⟩ = some (Value.int .i64 x40) ∧
 InC x40 b0n_1 fun x41l =>
 next2 (((if b0c_1 = x41l then b0a_1 else Option.map (fun a => Addr.add a (x41l * 1)) b0a_1), b0n_1 - x41l, b0c_1 - x41l), ()) H50)))
 (Zxf told2 x6b x8b x14b next2 H4 R)
def Zbpw (b0a : Option Addr) (b0n : Nat) (b0c : Nat) (four1 : Bool) (told2 : Bool) (H : Heap) (R : Value -> Heap -> Prop) : Prop :=
 NewW H (Obj.cells ⟨[(Value.int .i64 0), (Value.slice none 0 0), (Value.int .u32 0), (Value.bool false), (Value.int .u32 0), (Value.bool false), (Value.int .u32 0), (Value.bool false), (Value.bool false), (Value.int .u32 0), (Value.int .u32 0), (Value.slice none 0 0), (Value.slice none 0 0)]⟩ Zgl) fun x6b H1 =>
 NewW H1 (Obj.cells ⟨[(Value.int .i64 0), (Value.int .i64 0), (Value.slice none 0 0)]⟩ Zhv) fun x8b H2 =>
 NewW H2 (Obj.cells ⟨(setL Zbch 13 [(Value.bool four1)])⟩ Zdj) fun x14b H3 =>
 Zkm ((Option Addr × Nat × Nat) × Unit) ((b0a, b0n, b0c), ()) H3 fun x H next => ∀ _g : Env, Zbnz told2 x6b x8b x14b x.1.1 x.1.2.1 x.1.2.2 H next R
theorem Zbyf (b0a : Option Addr) (b0n : Nat) (b0c : Nat) (four1 : Bool) (told2 : Bool) (H : Heap) (R : Value -> Heap -> Prop) : Zbpw b0a b0n b0c four1 told2 H R = Zc Tryz.prog Zbsf (Zg Tryz.f28) (env0 [(Value.slice b0a b0n b0c), (Value.bool four1), (Value.bool told2)]) H (RetW Tryz.prog Tryz.f28.results.toList R) := by kernel_rfl
theorem Zcpq (b0a : Option Addr) (b0n : Nat) (b0c : Nat) (four1 : Bool) (told2 : Bool) {H : Heap} {R : Value -> Heap -> Prop} (h : Zbpw b0a b0n b0c four1 told2 H fun v H1 => ∀ H2, Shut H H1 H2 -> R v H2) : FnW Tryz.prog Zlx ⟨[(Value.slice b0a b0n b0c), (Value.bool four1), (Value.bool told2)]⟩ H R := FnW.of_code Zcqo (by kernel_rfl) (Eq.mp (Zbyf b0a b0n b0c four1 told2 H _) h)
def Zbmg : Plan := ⟨[], [], [], []⟩
theorem Zbym : Known Tryz.prog Zgw Tryz.f58 Zbmg (Zg Tryz.f58) := by refine ⟨Tryz.func58, ?_, ?_, ?_, ?_, ?_⟩ <;> kernel_rfl
def Zbvx (r0b : Nat) (worth1 : Int) (H : Heap) (R : Value -> Heap -> Prop) : Prop :=
 ∃ x8 : Int, H.cell ⟨r0b, 14, none⟩ = some (Value.int .i64 x8) ∧
 Zi H ⟨r0b, 14, none⟩ (Value.int .i64 (max x8 worth1)) fun H1 =>
 R (Value.tuple ⟨[]⟩) H1
theorem Zcms (r0b : Nat) (worth1 : Int) (H : Heap) (R : Value -> Heap -> Prop) : Zbvx r0b worth1 H R = Zc Tryz.prog Zbmg (Zg Tryz.f58) (env0 [(Value.pointer (some ⟨r0b, 0, none⟩)), (Value.int .i64 worth1)]) H (RetW Tryz.prog Tryz.f58.results.toList R) := by kernel_rfl
theorem Zcoh (r0b : Nat) (worth1 : Int) {H : Heap} {R : Value -> Heap -> Prop} (h : Zbvx r0b worth1 H fun v H1 => ∀ H2, Shut H H1 H2 -> R v H2) : FnW Tryz.prog Zgw ⟨[(Value.pointer (some ⟨r0b, 0, none⟩)), (Value.int .i64 worth1)]⟩ H R := FnW.of_code Zbym (by kernel_rfl) (Eq.mp (Zcms r0b worth1 H _) h)
def Zbrt : Plan := ⟨[], [], [], []⟩
theorem Zcub : Known Tryz.prog Zqp Tryz.f59 Zbrt (Zg Tryz.f59) := by refine ⟨Tryz.func59, ?_, ?_, ?_, ?_, ?_⟩ <;> kernel_rfl
def Zbow (H8 : Heap) (R : Value -> Heap -> Prop) : Prop :=
 R (Value.bool true) H8
def Zbps (r0b : Nat) (x74 : Bool) (H12 : Heap) (R : Value -> Heap -> Prop) : Prop :=
 IfB (!x74)
 (FnW Tryz.prog Zgw ⟨[(Value.pointer (some ⟨r0b, 0, none⟩)), (Value.int .i64 1)]⟩ H12 fun x77v H13 =>
 x77v = (Value.tuple ⟨[]⟩) ∧
 R (Value.bool true) H13)
 (R (Value.bool true) H12)
def Zbtf (r0b : Nat) (x63 : Bool) (H15 : Heap) (R : Value -> Heap -> Prop) : Prop :=
 IfB (!x63)
 (FnW Tryz.prog Zgw ⟨[(Value.pointer (some ⟨r0b, 0, none⟩)), (Value.int .i64 2)]⟩ H15 fun x66v H16 =>
 x66v = (Value.tuple ⟨[]⟩) ∧
 R (Value.bool true) H16)
 (R (Value.bool true) H15)
def Zjq (r0b : Nat) (p3b : Nat) (x67 : Bool) (H10 : Heap) (R : Value -> Heap -> Prop) : Prop :=
 IfB x67
 (∃ x73c0 : Int, H10.cell ⟨p3b, 0, none⟩ = some (Value.int .u8 x73c0) ∧ ∃ x73c1 : Int, H10.cell ⟨p3b, 1, none⟩ = some (Value.int .i64 x73c1) ∧ ∃ (x73c2a : Option Addr) (x73c2n x73c2c : Nat), H10.cell ⟨p3b, 2, none⟩ = some (Value.slice x73c2a x73c2n x73c2c) ∧ ∃ x73c3 : Int, H10.cell ⟨p3b, 3, none⟩ = some (Value.int .i64 x73c3) ∧ FnW Tryz.prog Ztt ⟨[(Value.pointer (some ⟨r0b, 0, none⟩)), (Value.agg ⟨[(Value.int .u8 x73c0), (Value.int .i64 x73c1), (Value.slice x73c2a x73c2n x73c2c), (Value.int .i64 x73c3)]⟩)]⟩ H10 fun x74v H11 =>
 ∃ x74 : Bool, x74v = (Value.bool x74) ∧
 Zbps r0b x74 H11 R)
 (∃ x62c0 : Int, H10.cell ⟨p3b, 0, none⟩ = some (Value.int .u8 x62c0) ∧ ∃ x62c1 : Int, H10.cell ⟨p3b, 1, none⟩ = some (Value.int .i64 x62c1) ∧ ∃ (x62c2a : Option Addr) (x62c2n x62c2c : Nat), H10.cell ⟨p3b, 2, none⟩ = some (Value.slice x62c2a x62c2n x62c2c) ∧ ∃ x62c3 : Int, H10.cell ⟨p3b, 3, none⟩ = some (Value.int .i64 x62c3) ∧ FnW Tryz.prog Zxc ⟨[(Value.pointer (some ⟨r0b, 0, none⟩)), (Value.agg ⟨[(Value.int .u8 x62c0), (Value.int .i64 x62c1), (Value.slice x62c2a x62c2n x62c2c), (Value.int .i64 x62c3)]⟩)]⟩ H10 fun x63v H14 =>
 ∃ x63 : Bool, x63v = (Value.bool x63) ∧
 Zbtf r0b x63 H14 R)
def Zvr (r0b : Nat) (p3b : Nat) (x25r0 : Int) (x25r1 : Bool) (x37 : Bool) (H6 : Heap) (R : Value -> Heap -> Prop) : Prop :=
 IfB x37
 (∃ x55c0 : Int, H6.cell ⟨p3b, 0, none⟩ = some (Value.int .u8 x55c0) ∧ ∃ x55c1 : Int, H6.cell ⟨p3b, 1, none⟩ = some (Value.int .i64 x55c1) ∧ ∃ (x55c2a : Option Addr) (x55c2n x55c2c : Nat), H6.cell ⟨p3b, 2, none⟩ = some (Value.slice x55c2a x55c2n x55c2c) ∧ ∃ x55c3 : Int, H6.cell ⟨p3b, 3, none⟩ = some (Value.int .i64 x55c3) ∧ FnW Tryz.prog Zyy ⟨[(Value.pointer (some ⟨r0b, 0, none⟩)), (Value.agg ⟨[(Value.int .u8 x55c0), (Value.int .i64 x55c1), (Value.slice x55c2a x55c2n x55c2c), (Value.int .i64 x55c3)]⟩)]⟩ H6 fun x56v H7 =>
 x56v = (Value.tuple ⟨[]⟩) ∧
 Zbow H7 R)
 (IfB (!x25r1)
 (Zbow H6 R)
 (∃ x52 : Int, H6.cell ⟨p3b, 0, none⟩ = some (Value.int .u8 x52) ∧
 IfB ((x25r0 : Int) != x52)
 (FnW Tryz.prog Zgw ⟨[(Value.pointer (some ⟨r0b, 0, none⟩)), (Value.int .i64 2)]⟩ H6 fun x58v H9 =>
 x58v = (Value.tuple ⟨[]⟩) ∧
 R (Value.bool true) H9)
 (∃ x60 : Int, H6.cell ⟨p3b, 1, none⟩ = some (Value.int .i64 x60) ∧
 IfB ((x60 : Int) == 6)
 (Zjq r0b p3b ((x60 : Int) == 6) H6 R)
 (IfB ((x60 : Int) == 7)
 (Zjq r0b p3b ((x60 : Int) == 7) H6 R)
 (IfB ((x60 : Int) == 17)
 (Zjq r0b p3b ((x60 : Int) == 17) H6 R)
 (Zjq r0b p3b ((x60 : Int) == 18) H6 R))))))
def Zbba (r0b : Nat) (p3b : Nat) (x25r0 : Int) (x25r1 : Bool) (x28 : Bool) (H5 : Heap) (R : Value -> Heap -> Prop) : Prop :=
 IfB x28
 (R (Value.bool false) H5)
 (IfB (!x25r1)
 (∃ x42 : Int, H5.cell ⟨p3b, 0, none⟩ = some (Value.int .u8 x42) ∧
 Zvr r0b p3b x25r0 x25r1 (((Zfb .u8 x42 64) : Int) != 0) H5 R)
 (Zvr r0b p3b x25r0 x25r1 false H5 R))
def Zbja (r0b : Nat) (p1c0 : Int) (p1c1 : Int) (p1c2a : Option Addr) (p1c2n : Nat) (p1c2c : Nat) (p1c3 : Int) (H : Heap) (R : Value -> Heap -> Prop) : Prop :=
 NewW H (Obj.cells ⟨[(Value.int .u8 p1c0), (Value.int .i64 p1c1), (Value.slice p1c2a p1c2n p1c2c), (Value.int .i64 p1c3)]⟩ Zjv) fun p3b H1 =>
 ∃ x9 : Int, H1.cell ⟨p3b, 1, none⟩ = some (Value.int .i64 x9) ∧
 InB x9 256 fun x12i =>
 ∃ x13 : Bool, H1.cell ⟨r0b, 15 + x12i * 1, none⟩ = some (Value.bool x13) ∧
 IfB x13
 (FnW Tryz.prog Zgw ⟨[(Value.pointer (some ⟨r0b, 0, none⟩)), (Value.int .i64 1)]⟩ H1 fun x15v H2 =>
 x15v = (Value.tuple ⟨[]⟩) ∧
 R (Value.bool true) H2)
 (∃ x18 : Int, H1.cell ⟨p3b, 1, none⟩ = some (Value.int .i64 x18) ∧
 InB x18 256 fun x21i =>
 Zi H1 ⟨r0b, 15 + x21i * 1, none⟩ (Value.bool true) fun H3 =>
 ∃ x24 : Int, H3.cell ⟨p3b, 1, none⟩ = some (Value.int .i64 x24) ∧
 FnW Tryz.prog Zks ⟨[(Value.int .i64 x24)]⟩ H3 fun x25v H4 =>
 ∃ x25r0 : Int, ∃ x25r1 : Bool, x25v = (Value.tuple ⟨[(Value.int .u8 x25r0), (Value.bool x25r1)]⟩) ∧
 IfB (!x25r1)
 (∃ x33 : Int, H4.cell ⟨p3b, 0, none⟩ = some (Value.int .u8 x33) ∧
 Zbba r0b p3b x25r0 x25r1 (((Zfb .u8 x33 128) : Int) == 0) H4 R)
 (Zbba r0b p3b x25r0 x25r1 false H4 R))
theorem Zcku (r0b : Nat) (p1c0 : Int) (p1c1 : Int) (p1c2a : Option Addr) (p1c2n : Nat) (p1c2c : Nat) (p1c3 : Int) (H : Heap) (R : Value -> Heap -> Prop) : Zbja r0b p1c0 p1c1 p1c2a p1c2n p1c2c p1c3 H R = Zc Tryz.prog Zbrt (Zg Tryz.f59) (env0 [(Value.pointer (some ⟨r0b, 0, none⟩)), (Value.agg ⟨[(Value.int .u8 p1c0), (Value.int .i64 p1c1), (Value.slice p1c2a p1c2n p1c2c), (Value.int .i64 p1c3)]⟩)]) H (RetW Tryz.prog Tryz.f59.results.toList R) := by kernel_rfl
theorem Zclu (r0b : Nat) (p1c0 : Int) (p1c1 : Int) (p1c2a : Option Addr) (p1c2n : Nat) (p1c2c : Nat) (p1c3 : Int) {H : Heap} {R : Value -> Heap -> Prop} (h : Zbja r0b p1c0 p1c1 p1c2a p1c2n p1c2c p1c3 H fun v H1 => ∀ H2, Shut H H1 H2 -> R v H2) : FnW Tryz.prog Zqp ⟨[(Value.pointer (some ⟨r0b, 0, none⟩)), (Value.agg ⟨[(Value.int .u8 p1c0), (Value.int .i64 p1c1), (Value.slice p1c2a p1c2n p1c2c), (Value.int .i64 p1c3)]⟩)]⟩ H R := FnW.of_code Zcub (by kernel_rfl) (Eq.mp (Zcku r0b p1c0 p1c1 p1c2a p1c2n p1c2c p1c3 H _) h)
def Zbyd : Plan := ⟨[(2, [0, 1, 2, 3, 4, 5, 7, 8, 9, 10, 11, 6, 12, 13, 14, 15, 16, 17, 18, 19, 20], [1000000, 38])], [], [], []⟩
theorem Zcfr : Known Tryz.prog Zsw Tryz.f61 Zbyd (Zg Tryz.f61) := by refine ⟨Tryz.func61, ?_, ?_, ?_, ?_, ?_⟩ <;> kernel_rfl
def Zzz (r0b : Nat) (H7 : Heap) (R : Value -> Heap -> Prop) : Prop :=
 ∃ x50 : Bool, H7.cell ⟨r0b, 273, none⟩ = some (Value.bool x50) ∧
 IfB (!x50)
 (R (Value.tuple ⟨[]⟩) H7)
 (∃ (x56a : Option Addr) (x56n x56c : Nat), H7.cell ⟨r0b, 1, none⟩ = some (Value.slice x56a x56n x56c) ∧
 ∃ (x60a : Option Addr) (x60n x60c : Nat), H7.cell ⟨r0b, 271, none⟩ = some (Value.slice x60a x60n x60c) ∧
 FnW Tryz.prog Zbat ⟨[(Value.slice x56a x56n x56c), (Value.slice x60a x60n x60c)]⟩ H7 fun x61v H8 =>
 ∃ (x61a : Option Addr) (x61n x61c : Nat), x61v = (Value.slice x61a x61n x61c) ∧
 FnW Tryz.prog Zjf ⟨[(Value.slice x61a x61n x61c)]⟩ H8 fun x63v H9 =>
 ∃ x63 : Int, x63v = (Value.int .i64 x63) ∧
 IfB ((x63 : Int) == 0)
 (Zi H9 ⟨r0b, 1, none⟩ (Value.slice x61a x61n x61c) fun H10 =>
 R (Value.tuple ⟨[]⟩) H10)
 (R (Value.tuple ⟨[]⟩) H9))
def Znz (r0b : Nat) (x27 : Bool) (H2 : Heap) (R : Value -> Heap -> Prop) : Prop :=
 IfB x27
 (∃ bs : List Nat, (∀ b ∈ bs, ∃ o, H2 b = some o) ∧
 ∃ (x33a : Option Addr) (x33n x33c : Nat), H2.cell ⟨r0b, 272, none⟩ = some (Value.slice x33a x33n x33c) ∧
 r0b ∈ bs ∧ ∃ (x38a : Option Addr) (x38n x38c : Nat), H2.cell ⟨r0b, 272, none⟩ = some (Value.slice x38a x38n x38c) ∧
 InC 4 x38n fun x39l =>
 FnW Tryz.prog Zgg ⟨[(Value.slice x33a x33n x33c)]⟩ H2 fun x34v H3 =>
 ∃ x34 : Int, x34v = (Value.int .u32 x34) ∧
 Zef bs H2 H3 ∧ FnW Tryz.prog Zgg ⟨[(Value.slice (if x38c = x39l then x38a else Option.map (fun a => Addr.add a (x39l * 1)) x38a) (x38n - x39l) (x38c - x39l))]⟩ H3 fun x40v H4 =>
 ∃ x40 : Int, x40v = (Value.int .u32 x40) ∧
 Zef bs H2 H4 ∧ Zi H4 ⟨r0b, 9, none⟩ (Value.int .u32 x34) fun H5 =>
 Zi H5 ⟨r0b, 10, none⟩ (Value.int .u32 x40) fun H6 =>
 Zzz r0b H6 R)
 (Zzz r0b H2 R)
def Zbax (r0b : Nat) (x15 : Bool) (H1 : Heap) (R : Value -> Heap -> Prop) : Prop :=
 IfB x15
 (R (Value.tuple ⟨[]⟩) H1)
 (∃ x20 : Bool, H1.cell ⟨r0b, 8, none⟩ = some (Value.bool x20) ∧
 IfB x20
 (∃ (x25a : Option Addr) (x25n x25c : Nat), H1.cell ⟨r0b, 272, none⟩ = some (Value.slice x25a x25n x25c) ∧
 Znz r0b (!x25a.isNone) H1 R)
 (Znz r0b false H1 R))
def Zbml (r0b : Nat) (H : Heap) (R : Value -> Heap -> Prop) : Prop :=
 ∃ x7 : Bool, H.cell ⟨r0b, 8, none⟩ = some (Value.bool x7) ∧
 IfB x7
 (∃ x13 : Int, H.cell ⟨r0b, 9, none⟩ = some (Value.int .u32 x13) ∧
 Zbax r0b ((x13 : Int) != 23456) H R)
 (Zbax r0b false H R)
theorem Zcip (r0b : Nat) (H : Heap) (R : Value -> Heap -> Prop) : Zbml r0b H R = Zc Tryz.prog Zbyd (Zg Tryz.f61) (env0 [(Value.pointer (some ⟨r0b, 0, none⟩))]) H (RetW Tryz.prog Tryz.f61.results.toList R) := by kernel_rfl
theorem Zcna (r0b : Nat) {H : Heap} {R : Value -> Heap -> Prop} (h : Zbml r0b H fun v H1 => ∀ H2, Shut H H1 H2 -> R v H2) : FnW Tryz.prog Zsw ⟨[(Value.pointer (some ⟨r0b, 0, none⟩))]⟩ H R := FnW.of_code Zcfr (by kernel_rfl) (Eq.mp (Zcip r0b H _) h)
def Zbme : Plan := ⟨[(6, [0, 1, 2, 3, 4, 5, 6, 7, 8, 9, 10, 11, 12, 13, 14, 15, 16, 17, 18], [40, 43])], [], [], []⟩
theorem Zcps : Known Tryz.prog Zyy Tryz.f95 Zbme (Zg Tryz.f95) := by refine ⟨Tryz.func95, ?_, ?_, ?_, ?_, ?_⟩ <;> kernel_rfl
def Zxt (r0b : Nat) (p3b : Nat) (k4 : Int) (H5 : Heap) (R : Value -> Heap -> Prop) : Prop :=
 ∃ bs : List Nat, (∀ b ∈ bs, ∃ o, H5 b = some o) ∧
 r0b ∈ bs ∧ ∃ (x40a : Option Addr) (x40n x40c : Nat), H5.cell ⟨r0b, 12, none⟩ = some (Value.slice x40a x40n x40c) ∧
 p3b ∈ bs ∧ ∃ x43 : Int, H5.cell ⟨p3b, 1, none⟩ = some (Value.int .i64 x43) ∧
 ∃ (x45a : Option Addr) (x45n x45c : Nat), H5.cell ⟨p3b, 2, none⟩ = some (Value.slice x45a x45n x45c) ∧
 FnW Tryz.prog Zpd ⟨[(Value.slice x45a x45n x45c)]⟩ H5 fun x46v H6 =>
 ∃ (x46a : Option Addr) (x46n x46c : Nat), x46v = (Value.slice x46a x46n x46c) ∧
 Zef bs H5 H6 ∧ NewW H6 (Obj.cells ⟨[(Value.int .i64 x43), (Value.slice x46a x46n x46c)]⟩ Zch) fun x48b H7 =>
 FnW Tryz.prog Zyi ⟨[(Value.slice x40a x40n x40c), (Value.int .i64 k4), (Value.slice (some ⟨x48b, 0, none⟩) 1 1)]⟩ H7 fun x49v H8 =>
 ∃ (x49a : Option Addr) (x49n x49c : Nat), x49v = (Value.slice x49a x49n x49c) ∧
 Zef bs H5 H8 ∧ Zi H8 ⟨r0b, 12, none⟩ (Value.slice x49a x49n x49c) fun H9 =>
 R (Value.tuple ⟨[]⟩) H9
def Zrg (r0b : Nat) (p3b : Nat) (x17 : Bool) (H2 : Heap) (R : Value -> Heap -> Prop) : Prop :=
 IfB x17
 (FnW Tryz.prog Zgw ⟨[(Value.pointer (some ⟨r0b, 0, none⟩)), (Value.int .i64 1)]⟩ H2 fun x19v H3 =>
 x19v = (Value.tuple ⟨[]⟩) ∧
 R (Value.tuple ⟨[]⟩) H3)
 (∃ (x24a : Option Addr) (x24n x24c : Nat), H2.cell ⟨r0b, 12, none⟩ = some (Value.slice x24a x24n x24c) ∧
 FnW Tryz.prog Zww ⟨[(Value.slice x24a x24n x24c), (Value.func (.func Zqo) #[] #[(Value.pointer (some ⟨p3b, 0, none⟩))])]⟩ H2 fun x26v H4 =>
 ∃ x26 : Int, x26v = (Value.int .i64 x26) ∧
 IfB (decide ((x26 : Int) < 0))
 (∃ (x33a : Option Addr) (x33n x33c : Nat), H4.cell ⟨r0b, 12, none⟩ = some (Value.slice x33a x33n x33c) ∧
 Zxt r0b p3b (x33n : Int) H4 R)
 (Zxt r0b p3b x26 H4 R))
def Zbwz (r0b : Nat) (p1c0 : Int) (p1c1 : Int) (p1c2a : Option Addr) (p1c2n : Nat) (p1c2c : Nat) (p1c3 : Int) (H : Heap) (R : Value -> Heap -> Prop) : Prop :=
 NewW H (Obj.cells ⟨[(Value.int .u8 p1c0), (Value.int .i64 p1c1), (Value.slice p1c2a p1c2n p1c2c), (Value.int .i64 p1c3)]⟩ Zjv) fun p3b H1 =>
 ∃ (x9a : Option Addr) (x9n x9c : Nat), H1.cell ⟨r0b, 12, none⟩ = some (Value.slice x9a x9n x9c) ∧
 IfB (decide (((x9n : Int) : Int) ≥ 8))
 (Zrg r0b p3b true H1 R)
 (∃ (x14a : Option Addr) (x14n x14c : Nat), H1.cell ⟨p3b, 2, none⟩ = some (Value.slice x14a x14n x14c) ∧
 Zrg r0b p3b (decide (((x14n : Int) : Int) > 255)) H1 R)
theorem Zcgx (r0b : Nat) (p1c0 : Int) (p1c1 : Int) (p1c2a : Option Addr) (p1c2n : Nat) (p1c2c : Nat) (p1c3 : Int) (H : Heap) (R : Value -> Heap -> Prop) : Zbwz r0b p1c0 p1c1 p1c2a p1c2n p1c2c p1c3 H R = Zc Tryz.prog Zbme (Zg Tryz.f95) (env0 [(Value.pointer (some ⟨r0b, 0, none⟩)), (Value.agg ⟨[(Value.int .u8 p1c0), (Value.int .i64 p1c1), (Value.slice p1c2a p1c2n p1c2c), (Value.int .i64 p1c3)]⟩)]) H (RetW Tryz.prog Tryz.f95.results.toList R) := by kernel_rfl
theorem Zcor (r0b : Nat) (p1c0 : Int) (p1c1 : Int) (p1c2a : Option Addr) (p1c2n : Nat) (p1c2c : Nat) (p1c3 : Int) {H : Heap} {R : Value -> Heap -> Prop} (h : Zbwz r0b p1c0 p1c1 p1c2a p1c2n p1c2c p1c3 H fun v H1 => ∀ H2, Shut H H1 H2 -> R v H2) : FnW Tryz.prog Zyy ⟨[(Value.pointer (some ⟨r0b, 0, none⟩)), (Value.agg ⟨[(Value.int .u8 p1c0), (Value.int .i64 p1c1), (Value.slice p1c2a p1c2n p1c2c), (Value.int .i64 p1c3)]⟩)]⟩ H R := FnW.of_code Zcps (by kernel_rfl) (Eq.mp (Zcgx r0b p1c0 p1c1 p1c2a p1c2n p1c2c p1c3 H _) h)
def Zbpf : Plan := ⟨[], [], [], []⟩
theorem Zcsv : Known Tryz.prog Ztt Tryz.f96 Zbpf (Zg Tryz.f96) := by refine ⟨Tryz.func96, ?_, ?_, ?_, ?_, ?_⟩ <;> kernel_rfl
def Zbqw (r0b : Nat) (x9a : Option Addr) (x9n : Nat) (x9c : Nat) (x60 : Bool) (H7 : Heap) (R : Value -> Heap -> Prop) : Prop :=
 IfB x60
 (R (Value.bool false) H7)
 (Zi H7 ⟨r0b, 272, none⟩ (Value.slice x9a x9n x9c) fun H8 =>
 R (Value.bool true) H8)
def Zbup (r0b : Nat) (p1c0 : Int) (p1c1 : Int) (p1c2a : Option Addr) (p1c2n : Nat) (p1c2c : Nat) (p1c3 : Int) (H : Heap) (R : Value -> Heap -> Prop) : Prop :=
 NewW H (Obj.cells ⟨[(Value.int .u8 p1c0), (Value.int .i64 p1c1), (Value.slice p1c2a p1c2n p1c2c), (Value.int .i64 p1c3)]⟩ Zjv) fun p3b H1 =>
 ∃ (x9a : Option Addr) (x9n x9c : Nat), H1.cell ⟨p3b, 2, none⟩ = some (Value.slice x9a x9n x9c) ∧
 ∃ x11 : Int, H1.cell ⟨p3b, 1, none⟩ = some (Value.int .i64 x11) ∧
 IfB ((x11 : Int) == 6)
 (Zi H1 ⟨r0b, 7, none⟩ (Value.bool (((x9n : Int) : Int) == 0)) fun H2 =>
 ∃ x25 : Bool, H2.cell ⟨r0b, 7, none⟩ = some (Value.bool x25) ∧
 R (Value.bool x25) H2)
 (IfB ((x11 : Int) == 7)
 (FnW Tryz.prog Zbaf ⟨[(Value.pointer (some ⟨r0b, 0, none⟩)), (Value.slice x9a x9n x9c)]⟩ H1 fun x30v H3 =>
 ∃ x30 : Bool, x30v = (Value.bool x30) ∧
 R (Value.bool x30) H3)
 (IfB ((x11 : Int) == 17)
 (∃ x36 : Bool, H1.cell ⟨r0b, 13, none⟩ = some (Value.bool x36) ∧
 IfB x36
 (R (Value.bool true) H1)
 (FnW Tryz.prog Zpc ⟨[(Value.slice x9a x9n x9c), (Value.bool true)]⟩ H1 fun x39v H4 =>
 ∃ (x39r0a : Option Addr) (x39r0n x39r0c : Nat), ∃ x39r1 : Int, x39v = (Value.tuple ⟨[(Value.slice x39r0a x39r0n x39r0c), (Value.int .i64 x39r1)]⟩) ∧
 Zi H4 ⟨r0b, 271, none⟩ (Value.slice x39r0a x39r0n x39r0c) fun H5 =>
 Zi H5 ⟨r0b, 273, none⟩ (Value.bool ((x39r1 : Int) == 0)) fun H6 =>
 ∃ x54 : Bool, H6.cell ⟨r0b, 273, none⟩ = some (Value.bool x54) ∧
 R (Value.bool x54) H6))
 (∃ x59 : Bool, H1.cell ⟨r0b, 13, none⟩ = some (Value.bool x59) ∧
 IfB x59
 (R (Value.bool true) H1)
 (IfB (((x9n : Int) : Int) != 8)
 (Zbqw r0b x9a x9n x9c true H1 R)
 (FnW Tryz.prog Zgg ⟨[(Value.slice x9a x9n x9c)]⟩ H1 fun x66v H9 =>
 ∃ x66 : Int, x66v = (Value.int .u32 x66) ∧
 Zbqw r0b x9a x9n x9c ((x66 : Int) == 0) H9 R)))))
theorem Zcqx (r0b : Nat) (p1c0 : Int) (p1c1 : Int) (p1c2a : Option Addr) (p1c2n : Nat) (p1c2c : Nat) (p1c3 : Int) (H : Heap) (R : Value -> Heap -> Prop) : Zbup r0b p1c0 p1c1 p1c2a p1c2n p1c2c p1c3 H R = Zc Tryz.prog Zbpf (Zg Tryz.f96) (env0 [(Value.pointer (some ⟨r0b, 0, none⟩)), (Value.agg ⟨[(Value.int .u8 p1c0), (Value.int .i64 p1c1), (Value.slice p1c2a p1c2n p1c2c), (Value.int .i64 p1c3)]⟩)]) H (RetW Tryz.prog Tryz.f96.results.toList R) := by kernel_rfl
theorem Zcoq (r0b : Nat) (p1c0 : Int) (p1c1 : Int) (p1c2a : Option Addr) (p1c2n : Nat) (p1c2c : Nat) (p1c3 : Int) {H : Heap} {R : Value -> Heap -> Prop} (h : Zbup r0b p1c0 p1c1 p1c2a p1c2n p1c2c p1c3 H fun v H1 => ∀ H2, Shut H H1 H2 -> R v H2) : FnW Tryz.prog Ztt ⟨[(Value.pointer (some ⟨r0b, 0, none⟩)), (Value.agg ⟨[(Value.int .u8 p1c0), (Value.int .i64 p1c1), (Value.slice p1c2a p1c2n p1c2c), (Value.int .i64 p1c3)]⟩)]⟩ H R := FnW.of_code Zcsv (by kernel_rfl) (Eq.mp (Zcqx r0b p1c0 p1c1 p1c2a p1c2n p1c2c p1c3 H _) h)
def Zbly : Plan := ⟨[], [], [], []⟩
theorem Zcfc : Known Tryz.prog Zxc Tryz.f97 Zbly (Zg Tryz.f97) := by refine ⟨Tryz.func97, ?_, ?_, ?_, ?_, ?_⟩ <;> kernel_rfl
def Zbcc (r0b : Nat) (x9a : Option Addr) (x9n : Nat) (x9c : Nat) (x22 : Bool) (H2 : Heap) (R : Value -> Heap -> Prop) : Prop :=
 IfB x22
 (R (Value.bool false) H2)
 (NilP x9a fun x25q =>
 InB 0 x9n fun x25i =>
 elemAt x25q x25i 1 fun x25p =>
 ∃ x26 : Int, H2.cell x25p = some (Value.int .u8 x26) ∧
 Zi H2 ⟨r0b, 0, none⟩ (Value.int .i64 (IntKind.wrap .i64 x26)) fun H3 =>
 R (Value.bool true) H3)
def Zbhs (r0b : Nat) (x9a : Option Addr) (x9n : Nat) (x9c : Nat) (x59 : Bool) (H6 : Heap) (R : Value -> Heap -> Prop) : Prop :=
 IfB x59
 (R (Value.bool false) H6)
 (FnW Tryz.prog Zgg ⟨[(Value.slice x9a x9n x9c)]⟩ H6 fun x62v H7 =>
 ∃ x62 : Int, x62v = (Value.int .u32 x62) ∧
 Zi H7 ⟨r0b, 2, none⟩ (Value.int .u32 x62) fun H8 =>
 R (Value.bool true) H8)
def Zbsv (r0b : Nat) (p1c0 : Int) (p1c1 : Int) (p1c2a : Option Addr) (p1c2n : Nat) (p1c2c : Nat) (p1c3 : Int) (H : Heap) (R : Value -> Heap -> Prop) : Prop :=
 NewW H (Obj.cells ⟨[(Value.int .u8 p1c0), (Value.int .i64 p1c1), (Value.slice p1c2a p1c2n p1c2c), (Value.int .i64 p1c3)]⟩ Zjv) fun p3b H1 =>
 ∃ (x9a : Option Addr) (x9n x9c : Nat), H1.cell ⟨p3b, 2, none⟩ = some (Value.slice x9a x9n x9c) ∧
 ∃ x11 : Int, H1.cell ⟨p3b, 1, none⟩ = some (Value.int .i64 x11) ∧
 IfB ((x11 : Int) == 1)
 (IfB (((x9n : Int) : Int) != 1)
 (Zbcc r0b x9a x9n x9c true H1 R)
 (NilP x9a fun x19q =>
 InB 0 x9n fun x19i =>
 elemAt x19q x19i 1 fun x19p =>
 ∃ x20 : Int, H1.cell x19p = some (Value.int .u8 x20) ∧
 Zbcc r0b x9a x9n x9c (decide ((x20 : Int) > 2)) H1 R))
 (IfB ((x11 : Int) == 2)
 (∃ x38 : Bool, H1.cell ⟨r0b, 13, none⟩ = some (Value.bool x38) ∧
 FnW Tryz.prog Zpc ⟨[(Value.slice x9a x9n x9c), (Value.bool x38)]⟩ H1 fun x39v H4 =>
 ∃ (x39r0a : Option Addr) (x39r0n x39r0c : Nat), ∃ x39r1 : Int, x39v = (Value.tuple ⟨[(Value.slice x39r0a x39r0n x39r0c), (Value.int .i64 x39r1)]⟩) ∧
 Zi H4 ⟨r0b, 1, none⟩ (Value.slice x39r0a x39r0n x39r0c) fun H5 =>
 R (Value.bool ((x39r1 : Int) == 0)) H5)
 (IfB ((x11 : Int) == 3)
 (IfB (((x9n : Int) : Int) != 4)
 (Zbhs r0b x9a x9n x9c true H1 R)
 (FnW Tryz.prog Zgg ⟨[(Value.slice x9a x9n x9c)]⟩ H1 fun x56v H9 =>
 ∃ x56 : Int, x56v = (Value.int .u32 x56) ∧
 FnW Tryz.prog Zmw ⟨[(Value.int .u32 x56)]⟩ H9 fun x57v H10 =>
 ∃ x57 : Bool, x57v = (Value.bool x57) ∧
 Zbhs r0b x9a x9n x9c (!x57) H10 R))
 (IfB ((x11 : Int) == 4)
 (IfB (((x9n : Int) : Int) != 4)
 (R (Value.bool false) H1)
 (FnW Tryz.prog Zgg ⟨[(Value.slice x9a x9n x9c)]⟩ H1 fun x74v H11 =>
 ∃ x74 : Int, x74v = (Value.int .u32 x74) ∧
 Zi H11 ⟨r0b, 3, none⟩ (Value.bool true) fun H12 =>
 Zi H12 ⟨r0b, 4, none⟩ (Value.int .u32 x74) fun H13 =>
 R (Value.bool true) H13))
 (IfB ((x11 : Int) == 8)
 (FnW Tryz.prog Zbhz ⟨[(Value.pointer (some ⟨r0b, 0, none⟩)), (Value.slice x9a x9n x9c)]⟩ H1 fun x85v H14 =>
 ∃ x85 : Bool, x85v = (Value.bool x85) ∧
 R (Value.bool x85) H14)
 (R (Value.bool true) H1)))))
theorem Zcig (r0b : Nat) (p1c0 : Int) (p1c1 : Int) (p1c2a : Option Addr) (p1c2n : Nat) (p1c2c : Nat) (p1c3 : Int) (H : Heap) (R : Value -> Heap -> Prop) : Zbsv r0b p1c0 p1c1 p1c2a p1c2n p1c2c p1c3 H R = Zc Tryz.prog Zbly (Zg Tryz.f97) (env0 [(Value.pointer (some ⟨r0b, 0, none⟩)), (Value.agg ⟨[(Value.int .u8 p1c0), (Value.int .i64 p1c1), (Value.slice p1c2a p1c2n p1c2c), (Value.int .i64 p1c3)]⟩)]) H (RetW Tryz.prog Tryz.f97.results.toList R) := by kernel_rfl
theorem Zcpi (r0b : Nat) (p1c0 : Int) (p1c1 : Int) (p1c2a : Option Addr) (p1c2n : Nat) (p1c2c : Nat) (p1c3 : Int) {H : Heap} {R : Value -> Heap -> Prop} (h : Zbsv r0b p1c0 p1c1 p1c2a p1c2n p1c2c p1c3 H fun v H1 => ∀ H2, Shut H H1 H2 -> R v H2) : FnW Tryz.prog Zxc ⟨[(Value.pointer (some ⟨r0b, 0, none⟩)), (Value.agg ⟨[(Value.int .u8 p1c0), (Value.int .i64 p1c1), (Value.slice p1c2a p1c2n p1c2c), (Value.int .i64 p1c3)]⟩)]⟩ H R := FnW.of_code Zcfc (by kernel_rfl) (Eq.mp (Zcig r0b p1c0 p1c1 p1c2a p1c2n p1c2c p1c3 H _) h)
def Zbrp : Plan := ⟨[], [(8, [6, 22], [.int .u32, .int .i64], [0, 1, 5, 20, 21])], [], []⟩
theorem Zcoz : Known Tryz.prog Zbaf Tryz.f126 Zbrp (Zg Tryz.f126) := by refine ⟨Tryz.func126, ?_, ?_, ?_, ?_, ?_⟩ <;> kernel_rfl
def Zbsi (r0b : Nat) (b1a : Option Addr) (b1n : Nat) (b1c : Nat) (n5 : Int) (x20h : Nat) (as6 : Int) (x22 : Int) (H2 : Heap) (next8 : (Int × Int × Unit) -> Heap -> Prop) (R : Value -> Heap -> Prop) : Prop :=
 IfB (decide ((x22 : Int) < (x20h : Int)))
 (NilP b1a fun x24q =>
 InB x22 x20h fun x24i =>
 elemAt x24q x24i 1 fun x24p =>
 ∃ x25 : Int, H2.cell x24p = some (Value.int .u8 x25) ∧
 (0 : Int) <= 8 ∧
 next8 ((Zeo .u32 (IntKind.wrap .u32 (as6 * 2 ^ (min (8 : Int).toNat (IntKind.bits .u32)))) (IntKind.wrap .u32 x25)), ((IntKind.wrap .i64 (x22 + 1)), ())) H2)
 (IfB ((as6 : Int) == 0)
 (R (Value.bool false) H2)
 (InC n5 b1n fun x40l =>
 FnW Tryz.prog Zgg ⟨[(Value.slice (if b1c = x40l then b1a else Option.map (fun a => Addr.add a (x40l * 1)) b1a) (b1n - x40l) (b1c - x40l))]⟩ H2 fun x41v H3 =>
 ∃ x41 : Int, x41v = (Value.int .u32 x41) ∧
 Zi H3 ⟨r0b, 8, none⟩ (Value.bool true) fun H4 =>
 Zi H4 ⟨r0b, 9, none⟩ (Value.int .u32 as6) fun H5 =>
 Zi H5 ⟨r0b, 10, none⟩ (Value.int .u32 x41) fun H6 =>
 R (Value.bool true) H6))
def Zxu (r0b : Nat) (b1a : Option Addr) (b1n : Nat) (b1c : Nat) (n5 : Int) (H1 : Heap) (R : Value -> Heap -> Prop) : Prop :=
 IfB (((b1n : Int) : Int) != (IntKind.wrap .i64 (n5 + 4)))
 (R (Value.bool false) H1)
 (InC n5 b1c fun x20h =>
 Zkm (Int × Int × Unit) (0, (0, ())) H1 fun x H next => ∀ _g : Env, Zbsi r0b b1a b1n b1c n5 x20h x.1 x.2.1 H next R)
def Zbla (r0b : Nat) (b1a : Option Addr) (b1n : Nat) (b1c : Nat) (H : Heap) (R : Value -> Heap -> Prop) : Prop :=
 ∃ x12 : Bool, H.cell ⟨r0b, 13, none⟩ = some (Value.bool x12) ∧
 IfB x12
 (Zxu r0b b1a b1n b1c 4 H R)
 (Zxu r0b b1a b1n b1c 2 H R)
theorem Zcfw (r0b : Nat) (b1a : Option Addr) (b1n : Nat) (b1c : Nat) (H : Heap) (R : Value -> Heap -> Prop) : Zbla r0b b1a b1n b1c H R = Zc Tryz.prog Zbrp (Zg Tryz.f126) (env0 [(Value.pointer (some ⟨r0b, 0, none⟩)), (Value.slice b1a b1n b1c)]) H (RetW Tryz.prog Tryz.f126.results.toList R) := by kernel_rfl
theorem Zbyu (r0b : Nat) (b1a : Option Addr) (b1n : Nat) (b1c : Nat) {H : Heap} {R : Value -> Heap -> Prop} (h : Zbla r0b b1a b1n b1c H fun v H1 => ∀ H2, Shut H H1 H2 -> R v H2) : FnW Tryz.prog Zbaf ⟨[(Value.pointer (some ⟨r0b, 0, none⟩)), (Value.slice b1a b1n b1c)]⟩ H R := FnW.of_code Zcoz (by kernel_rfl) (Eq.mp (Zcfw r0b b1a b1n b1c H _) h)
end Go.Proofs.YtboagabgpcghcaaGreatDoor
end
section
set_option maxRecDepth 100000
namespace Go.Proofs.YtboagabgpcghcaaGreatDoor
open Go.Sh
def Zjz : Plan := ⟨[(5, [0, 1, 2, 3, 4, 5, 6, 7, 8, 9, 10, 11, 12, 13], [24, 25, 29])], [], [], []⟩
theorem Zcih : Known Tryz.prog Zbhz Tryz.f128 Zjz (Zg Tryz.f128) := by refine ⟨Tryz.func128, ?_, ?_, ?_, ?_, ?_⟩ <;> kernel_rfl
def Zzc : Plan := ⟨[], [], [], []⟩
theorem Zcjs : Known Tryz.prog Zna Tryz.f157 Zzc (Zg Tryz.f157) := by refine ⟨Tryz.func157, ?_, ?_, ?_, ?_, ?_⟩ <;> kernel_rfl
def Zckf (r0b : Nat) (b1 : Value) (H : Heap) (K : Value -> Value -> Heap -> Prop) (R : Value -> Heap -> Prop) : Prop :=
 NewW H (Obj.cells ⟨[(Value.pointer (some ⟨r0b, 0, none⟩))]⟩ Zrr) fun r2b H1 =>
 K b1 (Value.pointer (some ⟨r2b, 0, none⟩)) H1
theorem Zcjc (ρ : Env) (r0b : Nat) (b1 : Value) (H : Heap) (K : Value -> Value -> Heap -> Prop) (R : Value -> Heap -> Prop) : Zckf r0b b1 H K R = Zc Tryz.prog Zjz (cL (Zg Tryz.f128)) (put (put ρ (some 0) (Value.pointer (some ⟨r0b, 0, none⟩))) (some 1) b1) H (Zei (fun ρ H => K (ρ 1) (ρ 2) H) (RetW Tryz.prog Tryz.f128.results.toList R)) := by kernel_rfl
def Ztg (b1a : Option Addr) (b1n : Nat) (b1c : Nat) (r2 : Value) (K : Value -> Value -> Heap -> Prop) (x20 : Bool) (H1 : Heap) (R : Value -> Heap -> Prop) : Prop :=
 IfB x20
 (R (Value.bool false) H1)
 (K (Value.slice b1a b1n b1c) r2 H1)
def Zbvm (b1a : Option Addr) (b1n : Nat) (b1c : Nat) (r2 : Value) (H : Heap) (K : Value -> Value -> Heap -> Prop) (R : Value -> Heap -> Prop) : Prop :=
 IfB (((b1n : Int) : Int) == 0)
 (Ztg b1a b1n b1c r2 K true H R)
 ((4 : Int) ≠ 0 ∧
 IfB (((Int.tmod (b1n : Int) 4) : Int) != 0)
 (Ztg b1a b1n b1c r2 K true H R)
 ((4 : Int) ≠ 0 ∧
 Ztg b1a b1n b1c r2 K (decide (((IntKind.wrap .i64 (Int.tdiv (b1n : Int) 4)) : Int) > 32)) H R))
theorem Zctp (ρ : Env) (b1a : Option Addr) (b1n : Nat) (b1c : Nat) (r2 : Value) (H : Heap) (K : Value -> Value -> Heap -> Prop) (R : Value -> Heap -> Prop) : Zbvm b1a b1n b1c r2 H K R = Zc Tryz.prog Zjz (cL (cR (Zg Tryz.f128))) (put (put ρ (some 1) (Value.slice b1a b1n b1c)) (some 2) r2) H (Zei (fun ρ H => K (ρ 1) (ρ 2) H) (RetW Tryz.prog Tryz.f128.results.toList R)) := by kernel_rfl
def Zcah (b1a : Option Addr) (b1n : Nat) (b1c : Nat) (r2 : Value) (H : Heap) (K : Value -> Value -> Heap -> Prop) (R : Value -> Heap -> Prop) : Prop :=
 FnW Tryz.prog Zna ⟨[(Value.slice b1a b1n b1c), (Value.int .i64 4)]⟩ H fun x22v H1 =>
 ∃ x22 : Value, x22v = x22 ∧
 K r2 x22 H1
theorem Zbyk (ρ : Env) (b1a : Option Addr) (b1n : Nat) (b1c : Nat) (r2 : Value) (H : Heap) (K : Value -> Value -> Heap -> Prop) (R : Value -> Heap -> Prop) : Zcah b1a b1n b1c r2 H K R = Zc Tryz.prog Zjz (cL (cL (cR (cR (Zg Tryz.f128))))) (put (put ρ (some 1) (Value.slice b1a b1n b1c)) (some 2) r2) H (Zei (fun ρ H => K (ρ 2) (ρ 22) H) (RetW Tryz.prog Tryz.f128.results.toList R)) := by kernel_rfl
def Zcji (x23 : Value) (r2 : Value) (H : Heap) (K : Value -> Value -> Heap -> Prop) (R : Value -> Heap -> Prop) : Prop :=
 K r2 x23 H
theorem Zcsj (ρ : Env) (x23 : Value) (r2 : Value) (H : Heap) (K : Value -> Value -> Heap -> Prop) (R : Value -> Heap -> Prop) : Zcji x23 r2 H K R = Zc Tryz.prog Zjz (cA (cK (cR (cL (cR (cR (Zg Tryz.f128))))))) (put (put ρ (some 23) x23) (some 2) r2) H (Zei (fun ρ H => K (ρ 2) (ρ 5) H) (RetW Tryz.prog Tryz.f128.results.toList R)) := by kernel_rfl
def Zcaw (r2b : Nat) (x5a : Option Addr) (x5n : Nat) (x5c : Nat) (H : Heap) (K : Heap -> Prop) (R : Value -> Heap -> Prop) : Prop :=
 ∃ bs : List Nat, (∀ b ∈ bs, ∃ o, H b = some o) ∧
 r2b ∈ bs ∧ ∃ x24 : Option Addr, H.cell ⟨r2b, 0, none⟩ = some (Value.pointer x24) ∧
 r2b ∈ bs ∧ ∃ x25 : Option Addr, H.cell ⟨r2b, 0, none⟩ = some (Value.pointer x25) ∧
 NilP x25 fun x26p =>
 x26p.block ∈ bs ∧ ∃ (x29a : Option Addr) (x29n x29c : Nat), H.cell ⟨x26p.block, x26p.off + 11, none⟩ = some (Value.slice x29a x29n x29c) ∧
 FnW Tryz.prog Zgg ⟨[(Value.slice x5a x5n x5c)]⟩ H fun x31v H1 =>
 ∃ x31 : Int, x31v = (Value.int .u32 x31) ∧
 Zef bs H H1 ∧ NewW H1 (Obj.cells ⟨[(Value.int .u32 x31)]⟩ Zdh) fun x32b H2 =>
 AppW Tryz.prog #[Zkd, Zkd] Zkd [(Value.slice x29a x29n x29c), (Value.slice (some ⟨x32b, 0, none⟩) 1 1)] H2 fun x33v H3 =>
 ∃ (x33a : Option Addr) (x33n x33c : Nat), x33v = (Value.slice x33a x33n x33c) ∧
 Zef bs H H3 ∧ NilP x24 fun x34p =>
 Zi H3 ⟨x34p.block, x34p.off + 11, none⟩ (Value.slice x33a x33n x33c) fun H4 =>
 K H4
theorem Zcai (ρ : Env) (r2b : Nat) (x5a : Option Addr) (x5n : Nat) (x5c : Nat) (H : Heap) (K : Heap -> Prop) (R : Value -> Heap -> Prop) : Zcaw r2b x5a x5n x5c H K R = Zc Tryz.prog Zjz (cB (cK (cR (cL (cR (cR (Zg Tryz.f128))))))) (put (put ρ (some 2) (Value.pointer (some ⟨r2b, 0, none⟩))) (some 5) (Value.slice x5a x5n x5c)) H (Zei (fun ρ H => K H) (RetW Tryz.prog Tryz.f128.results.toList R)) := by kernel_rfl
def Zcne (H : Heap) (K : Heap -> Prop) (R : Value -> Heap -> Prop) : Prop :=
 R (Value.bool true) H
theorem Zcgr (ρ : Env) (H : Heap) (K : Heap -> Prop) (R : Value -> Heap -> Prop) : Zcne H K R = Zc Tryz.prog Zjz (cR (cR (cR (Zg Tryz.f128)))) ρ H (Zei (fun ρ H => K H) (RetW Tryz.prog Tryz.f128.results.toList R)) := by kernel_rfl
def Zcfl (s0a : Option Addr) (s0n : Nat) (s0c : Nat) (n1 : Int) (H : Heap) (K : Value -> Value -> Heap -> Prop) (R : Value -> Heap -> Prop) : Prop :=
 NewW H (Obj.cells ⟨[(Value.slice s0a s0n s0c)]⟩ Zbfr) fun s2b H1 =>
 NewW H1 (Obj.cells ⟨[(Value.int .i64 n1)]⟩ Zik) fun n3b H2 =>
 K (Value.pointer (some ⟨s2b, 0, none⟩)) (Value.pointer (some ⟨n3b, 0, none⟩)) H2
theorem Zbzn (ρ : Env) (s0a : Option Addr) (s0n : Nat) (s0c : Nat) (n1 : Int) (H : Heap) (K : Value -> Value -> Heap -> Prop) (R : Value -> Heap -> Prop) : Zcfl s0a s0n s0c n1 H K R = Zc Tryz.prog Zzc (cL (Zg Tryz.f157)) (put (put ρ (some 0) (Value.slice s0a s0n s0c)) (some 1) (Value.int .i64 n1)) H (Zei (fun ρ H => K (ρ 2) (ρ 3) H) (RetW Tryz.prog Tryz.f157.results.toList R)) := by kernel_rfl
def Zcvj (s2 : Value) (n3b : Nat) (H : Heap) (K : Value -> Value -> Value -> Heap -> Prop) (R : Value -> Heap -> Prop) : Prop :=
 ∃ x5 : Int, H.cell ⟨n3b, 0, none⟩ = some (Value.int .i64 x5) ∧
 K s2 (Value.pointer (some ⟨n3b, 0, none⟩)) (Value.bool (decide ((x5 : Int) < 1))) H
theorem Zcso (ρ : Env) (s2 : Value) (n3b : Nat) (H : Heap) (K : Value -> Value -> Value -> Heap -> Prop) (R : Value -> Heap -> Prop) : Zcvj s2 n3b H K R = Zc Tryz.prog Zzc (cL (cL (cR (Zg Tryz.f157)))) (put (put ρ (some 2) s2) (some 3) (Value.pointer (some ⟨n3b, 0, none⟩))) H (Zei (fun ρ H => K (ρ 2) (ρ 3) (ρ 6) H) (RetW Tryz.prog Tryz.f157.results.toList R)) := by kernel_rfl
def Zccs (s2b : Nat) (n3b : Nat) (H : Heap) (K : Heap -> Prop) (R : Value -> Heap -> Prop) : Prop :=
 R (Value.func (.func Zhf) #[] #[(Value.pointer (some ⟨s2b, 0, none⟩)), (Value.pointer (some ⟨n3b, 0, none⟩))]) H
theorem Zccc (ρ : Env) (s2b : Nat) (n3b : Nat) (H : Heap) (K : Heap -> Prop) (R : Value -> Heap -> Prop) : Zccs s2b n3b H K R = Zc Tryz.prog Zzc (cR (cR (Zg Tryz.f157))) (put (put ρ (some 2) (Value.pointer (some ⟨s2b, 0, none⟩))) (some 3) (Value.pointer (some ⟨n3b, 0, none⟩))) H (Zei (fun ρ H => K H) (RetW Tryz.prog Tryz.f157.results.toList R)) := by kernel_rfl
end Go.Proofs.YtboagabgpcghcaaGreatDoor
end
section
set_option maxRecDepth 100000
namespace Go.Proofs.YtboagabgpcghcaaGreatDoor
open Go.Sh
def Zbpo : Plan := ⟨[], [(2, [8], [.int .i64], [0, 1, 7])], [], []⟩
theorem Zcio : Known Tryz.prog Zww Tryz.f123 Zbpo (Zg Tryz.f123) := by refine ⟨Tryz.func123, ?_, ?_, ?_, ?_, ?_⟩ <;> kernel_rfl
def Zbxf (s0a : Option Addr) (s0n : Nat) (s0c : Nat) (f : FuncId) (w0 : Value) (x8 : Int) (H1 : Heap) (next2 : (Int × Unit) -> Heap -> Prop) (R : Value -> Heap -> Prop) : Prop :=
 IfB (decide ((x8 : Int) < (s0n : Int)))
 (NilP s0a fun x14q =>
 InB x8 s0n fun x14i =>
 elemAt x14q x14i 2 fun x14p =>
 ∃ x15c0 : Int, H1.cell x14p = some (Value.int .i64 x15c0) ∧ ∃ (x15c1a : Option Addr) (x15c1n x15c1c : Nat), H1.cell ⟨x14p.block, x14p.off + 1, none⟩ = some (Value.slice x15c1a x15c1n x15c1c) ∧ FnW Tryz.prog f ⟨[(Value.agg ⟨[(Value.int .i64 x15c0), (Value.slice x15c1a x15c1n x15c1c)]⟩), w0]⟩ H1 fun x16v H2 =>
 ∃ x16 : Bool, x16v = (Value.bool x16) ∧
 IfB x16
 (R (Value.int .i64 x8) H2)
 (next2 ((IntKind.wrap .i64 (x8 + 1)), ()) H2))
 (R (Value.int .i64 (-1)) H1)
def Zbxx (s0a : Option Addr) (s0n : Nat) (s0c : Nat) (f : FuncId) (w0 : Value) (H : Heap) (R : Value -> Heap -> Prop) : Prop :=
 Zkm (Int × Unit) (0, ()) H fun x H next => ∀ _g : Env, Zbxf s0a s0n s0c f w0 x.1 H next R
theorem Zcdd (s0a : Option Addr) (s0n : Nat) (s0c : Nat) (f : FuncId) (w0 : Value) (H : Heap) (R : Value -> Heap -> Prop) : Zbxx s0a s0n s0c f w0 H R = Zc Tryz.prog Zbpo (Zg Tryz.f123) (env0 [(Value.slice s0a s0n s0c), (Value.func (.func f) #[] #[w0])]) H (RetW Tryz.prog Tryz.f123.results.toList R) := by kernel_rfl
theorem Zbyz (s0a : Option Addr) (s0n : Nat) (s0c : Nat) (f : FuncId) (w0 : Value) {H : Heap} {R : Value -> Heap -> Prop} (h : Zbxx s0a s0n s0c f w0 H fun v H1 => ∀ H2, Shut H H1 H2 -> R v H2) : FnW Tryz.prog Zww ⟨[(Value.slice s0a s0n s0c), (Value.func (.func f) #[] #[w0])]⟩ H R := FnW.of_code Zcio (by kernel_rfl) (Eq.mp (Zcdd s0a s0n s0c f w0 H _) h)
def Zbor : Plan := ⟨[], [], [], []⟩
theorem Zcbo : Known Tryz.prog Zqo Tryz.f124 Zbor (Zg Tryz.f124) := by refine ⟨Tryz.func124, ?_, ?_, ?_, ?_, ?_⟩ <;> kernel_rfl
def Zbtg (x0c0 : Int) (x0c1a : Option Addr) (x0c1n : Nat) (x0c1c : Nat) (b1 : Nat) (H : Heap) (R : Value -> Heap -> Prop) : Prop :=
 NewW H (Obj.cells ⟨[(Value.int .i64 x0c0), (Value.slice x0c1a x0c1n x0c1c)]⟩ Zch) fun x2b H1 =>
 ∃ x5 : Int, H1.cell ⟨x2b, 0, none⟩ = some (Value.int .i64 x5) ∧
 ∃ x7 : Int, H1.cell ⟨b1, 1, none⟩ = some (Value.int .i64 x7) ∧
 R (Value.bool (decide ((x5 : Int) > x7))) H1
theorem Zcue (x0c0 : Int) (x0c1a : Option Addr) (x0c1n : Nat) (x0c1c : Nat) (b1 : Nat) (H : Heap) (R : Value -> Heap -> Prop) : Zbtg x0c0 x0c1a x0c1n x0c1c b1 H R = Zc Tryz.prog Zbor (Zg Tryz.f124) (env0 [(Value.agg ⟨[(Value.int .i64 x0c0), (Value.slice x0c1a x0c1n x0c1c)]⟩), (Value.pointer (some ⟨b1, 0, none⟩))]) H (RetW Tryz.prog Tryz.f124.results.toList R) := by kernel_rfl
theorem Zcel (x0c0 : Int) (x0c1a : Option Addr) (x0c1n : Nat) (x0c1c : Nat) (b1 : Nat) {H : Heap} {R : Value -> Heap -> Prop} (h : Zbtg x0c0 x0c1a x0c1n x0c1c b1 H fun v H1 => ∀ H2, Shut H H1 H2 -> R v H2) : FnW Tryz.prog Zqo ⟨[(Value.agg ⟨[(Value.int .i64 x0c0), (Value.slice x0c1a x0c1n x0c1c)]⟩), (Value.pointer (some ⟨b1, 0, none⟩))]⟩ H R := FnW.of_code Zcbo (by kernel_rfl) (Eq.mp (Zcue x0c0 x0c1a x0c1n x0c1c b1 H _) h)
def Zbnn : Plan := ⟨[], [], [], []⟩
theorem Zclq : Known Tryz.prog Zyi Tryz.f125 Zbnn (Zg Tryz.f125) := by refine ⟨Tryz.func125, ?_, ?_, ?_, ?_, ?_⟩ <;> kernel_rfl
def Zbhm (s0a : Option Addr) (s0n : Nat) (s0c : Nat) (i1 : Int) (v2a : Option Addr) (v2n : Nat) (v2c : Nat) (H : Heap) (R : Value -> Heap -> Prop) : Prop :=
 InC i1 s0n fun x12l =>
 IfB (((v2n : Int) : Int) == 0)
 (R (Value.slice s0a s0n s0c) H)
 (IfB ((i1 : Int) == (s0n : Int))
 (AppW Tryz.prog #[Zdx, Zdx] Zdx [(Value.slice s0a s0n s0c), (Value.slice v2a v2n v2c)] H fun x25v H1 =>
 ∃ (x25a : Option Addr) (x25n x25c : Nat), x25v = (Value.slice x25a x25n x25c) ∧
 R (Value.slice x25a x25n x25c) H1)
 (IfB (decide (((IntKind.wrap .i64 ((s0n : Int) + (v2n : Int))) : Int) > (s0c : Int)))
 (InC i1 s0c fun x34h =>
 AppW Tryz.prog #[Zdx, Zik] Zdx [(Value.slice s0a x34h s0c), (Value.int .i64 (IntKind.wrap .i64 ((IntKind.wrap .i64 ((s0n : Int) + (v2n : Int))) - i1)))] H fun x40v H2 =>
 ∃ (x40a : Option Addr) (x40n x40c : Nat), x40v = (Value.slice x40a x40n x40c) ∧
 InC i1 x40n fun x43l =>
 Zfj Tryz.prog #[Zdx, Zdx] Zik [(Value.slice (if x40c = x43l then x40a else Option.map (fun a => Addr.add a (x43l * 2)) x40a) (x40n - x43l) (x40c - x43l)), (Value.slice v2a v2n v2c)] H2 fun x45v H3 =>
 ∃ x45 : Int, x45v = (Value.int .i64 x45) ∧
 InC (IntKind.wrap .i64 (i1 + (v2n : Int))) x40n fun x50l =>
 InC i1 s0n fun x53l =>
 Zfj Tryz.prog #[Zdx, Zdx] Zik [(Value.slice (if x40c = x50l then x40a else Option.map (fun a => Addr.add a (x50l * 2)) x40a) (x40n - x50l) (x40c - x50l)), (Value.slice (if s0c = x53l then s0a else Option.map (fun a => Addr.add a (x53l * 2)) s0a) (s0n - x53l) (s0c - x53l))] H3 fun x54v H4 =>
 ∃ x54 : Int, x54v = (Value.int .i64 x54) ∧
 R (Value.slice x40a x40n x40c) H4)
 (InC (IntKind.wrap .i64 ((s0n : Int) + (v2n : Int))) s0c fun x60h =>
 InC (IntKind.wrap .i64 (i1 + (v2n : Int))) x60h fun x66l =>
 ExtW Tryz.prog Zcev ⟨[(Value.slice v2a v2n v2c), (Value.slice (if s0c = x66l then s0a else Option.map (fun a => Addr.add a (x66l * 2)) s0a) (x60h - x66l) (s0c - x66l))]⟩ H fun x67v H5 =>
 ∃ x67 : Bool, x67v = (Value.bool x67) ∧
 IfB (!x67)
 (InC (IntKind.wrap .i64 (i1 + (v2n : Int))) x60h fun x73l =>
 InC i1 x60h fun x76l =>
 Zfj Tryz.prog #[Zdx, Zdx] Zik [(Value.slice (if s0c = x73l then s0a else Option.map (fun a => Addr.add a (x73l * 2)) s0a) (x60h - x73l) (s0c - x73l)), (Value.slice (if s0c = x76l then s0a else Option.map (fun a => Addr.add a (x76l * 2)) s0a) (x60h - x76l) (s0c - x76l))] H5 fun x77v H6 =>
 ∃ x77 : Int, x77v = (Value.int .i64 x77) ∧
 InC i1 x60h fun x80l =>
 Zfj Tryz.prog #[Zdx, Zdx] Zik [(Value.slice (if s0c = x80l then s0a else Option.map (fun a => Addr.add a (x80l * 2)) s0a) (x60h - x80l) (s0c - x80l)), (Value.slice v2a v2n v2c)] H6 fun x82v H7 =>
 ∃ x82 : Int, x82v = (Value.int .i64 x82) ∧
 R (Value.slice s0a x60h s0c) H7)
 (InC (s0n : Int) x60h fun x86l =>
 Zfj Tryz.prog #[Zdx, Zdx] Zik [(Value.slice (if s0c = x86l then s0a else Option.map (fun a => Addr.add a (x86l * 2)) s0a) (x60h - x86l) (s0c - x86l)), (Value.slice v2a v2n v2c)] H5 fun x88v H8 =>
 ∃ x88 : Int, x88v = (Value.int .i64 x88) ∧
 InC i1 x60h fun x91l =>
 FnW Tryz.prog Zcif ⟨[(Value.slice (if s0c = x91l then s0a else Option.map (fun a => Addr.add a (x91l * 2)) s0a) (x60h - x91l) (s0c - x91l)), (Value.int .i64 (v2n : Int))]⟩ H8 fun x93v H9 =>
 x93v = (Value.tuple ⟨[]⟩) ∧
 R (Value.slice s0a x60h s0c) H9))))
theorem Zcko (s0a : Option Addr) (s0n : Nat) (s0c : Nat) (i1 : Int) (v2a : Option Addr) (v2n : Nat) (v2c : Nat) (H : Heap) (R : Value -> Heap -> Prop) : Zbhm s0a s0n s0c i1 v2a v2n v2c H R = Zc Tryz.prog Zbnn (Zg Tryz.f125) (env0 [(Value.slice s0a s0n s0c), (Value.int .i64 i1), (Value.slice v2a v2n v2c)]) H (RetW Tryz.prog Tryz.f125.results.toList R) := by kernel_rfl
theorem Zcsu (s0a : Option Addr) (s0n : Nat) (s0c : Nat) (i1 : Int) (v2a : Option Addr) (v2n : Nat) (v2c : Nat) {H : Heap} {R : Value -> Heap -> Prop} (h : Zbhm s0a s0n s0c i1 v2a v2n v2c H fun v H1 => ∀ H2, Shut H H1 H2 -> R v H2) : FnW Tryz.prog Zyi ⟨[(Value.slice s0a s0n s0c), (Value.int .i64 i1), (Value.slice v2a v2n v2c)]⟩ H R := FnW.of_code Zclq (by kernel_rfl) (Eq.mp (Zcko s0a s0n s0c i1 v2a v2n v2c H _) h)
end Go.Proofs.YtboagabgpcghcaaGreatDoor
end
