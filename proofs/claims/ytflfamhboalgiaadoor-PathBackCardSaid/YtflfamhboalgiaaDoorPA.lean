/-
  Paths (layer 19): what the program's functions and the document's find.
  Attributes (layer 20): what the program's functions and the document's find.
  Attributes (layer 20): what the program puts.
  Attributes (layer 20): what the program puts, and what the document does.
  Attributes (layer 20): what the document puts; the copies.
  Reading paths and attributes, plainly (no program in sight): what is read, and that what was put is read back.
  Reading paths: what the program finds.
  Reading paths: what the document finds.
  Paths merged: what the program finds.
-/
import Derived.Test.YtflfamhboalgiaaDoorQA
import Derived.Test.YtflfamhboalgiaaDoorED
import Derived.Test.YtflfamhboalgiaaDoorBA
import Derived.Lib.ParseIntBCases
set_option linter.all false
section
namespace Go.Proofs.YtflfamhboalgiaaDoor
open Go.Sh
def cnt (p : List Seg) : Nat := (p.map (·.2.length)).sum
theorem Zds (p : List Seg) (s : Seg) : cnt (p ++ [s]) = cnt p + s.2.length := by simp [cnt]
theorem Zbmx (p : List Seg) (K : Int -> Prop) (hl : p.length <= 9223372036854775807) (hc : cnt p <= 9223372036854775807) (h : K (cnt p)) : Zyh p K := by
  unfold Zyh; refine Zj.list p (fun pre => ((cnt pre : Int), (pre.length : Int), ())) (fun _ => True) rfl trivial (fun pre s post hp _ next hn => ?_) (fun _ next _ => ?_)
  . intro _; dsimp only [Zbdx]; refine ifT (by simp [hp]; omega) ⟨by omega, AtN.of (Zbf hp) fun _ => of_eq (hn trivial) ?_⟩
    have h1 : p.length = pre.length + 1 + post.length := by rw [hp]; simp; omega
    have h2 : cnt p = cnt pre + s.2.length + cnt post := by rw [hp]; simp [cnt]; omega
    rw [Zg (by omega) (by omega), Zg (by omega) (by omega), Zds]
    simp
  dsimp only [Zbdx]; exact ifF (by simp) h
theorem Zcdb (l : List UInt32) (v : Int) (K : Int -> Prop) (hl : l.length <= 9223372036854775807) (h1 : ∀ i : Nat, (∃ x ∈ l, (x.toNat : Int) = v) -> K i) (h2 : (∀ x ∈ l, (x.toNat : Int) ≠ v) -> K (-1)) : Zua l v K := by
  unfold Zua; refine Zj.list l (fun pre => ((pre.length : Int), ())) (fun pre => ∀ x ∈ pre, (x.toNat : Int) ≠ v) rfl (by simp) (fun pre x post hp hP next hn => ?_) (fun hP next _ => ?_)
  . intro _; dsimp only [Zbgd]; refine ifT (by simp [hp]; omega) ⟨by omega, AtN.of (Zbf hp) fun _ => ?_⟩
    refine IfB.intro (fun h => ?_) (fun h => ?_); exact h1 pre.length ⟨x, by simp [hp], by simpa using (by simpa using h : v = (x.toNat : Int)).symm⟩
    . have hne : v ≠ (x.toNat : Int) := by simpa using h
      refine of_eq (hn fun y hy => ?_) ?_; rcases List.mem_append.1 hy with hy | hy; exact hP y hy; simp only [List.mem_singleton] at hy; subst hy; exact fun e => hne e.symm
      . have h1 : l.length = pre.length + 1 + post.length := by rw [hp]; simp; omega
        rw [Zg (by omega) (by omega)]
        simp
  dsimp only [Zbgd]; exact ifF (by simp) (h2 hP)
theorem Zbud (l : List UInt32) (v : Int) (K : Bool -> Prop) (hl : l.length <= 9223372036854775807) (h : K (l.any fun x => (x.toNat : Int) == v)) : Zwz l v K := by
  unfold Zwz; intro _; refine Zcdb l v _ hl (fun i hx _ => of_eq h ?_) (fun hx _ => of_eq h ?_)
  . obtain ⟨x, hx, hv⟩ := hx; rw [List.any_eq_true.2 ⟨x, hx, by simp [hv]⟩]
    simp
  . have : (l.any fun x => (x.toNat : Int) == v) = false := by rw [List.any_eq_false]; intro x h; simpa using hx x h
    rw [this]; rfl
theorem Zbgr (x : UInt32) : (x != 0) = !((x.toNat : Int) == 0) := by
  by_cases h : x = 0; subst h; rfl
  . have : x.toNat ≠ 0 := fun e => h (UInt32.toNat_inj.1 e); have h2 : ((x.toNat : Int) == 0) = false := by simpa using this
    rw [h2]; simp [h]
def Zbu (s : Seg) : Bool := decide (0 < s.2.length) && decide (s.2.length <= 255) && s.2.all fun x => x != 0
theorem Zcfp (s : Seg) (K : Bool -> Prop) (h : K (Zbu s)) : Ztz s K := by
  unfold Ztz; refine IfB.intro (fun h1 => IfB.intro (fun h2 => ?_) (fun h2 => of_eq h ?_)) (fun h1 => of_eq h ?_)
  . intro _; have h1 : 0 < s.2.length := by simpa using h1
    have h2 : s.2.length <= 255 := by simp at h2; omega
    refine Zbud s.2 0 _ (by omega) (fun _ => of_eq h ?_)
    have e : (s.2.all fun x => x != 0) = !(s.2.any fun x => (x.toNat : Int) == 0) := by rw [List.not_any_eq_all_not]; congr 1; funext x; exact Zbgr x
    simp [Zbu, h1, h2, e]
  . have : ¬ s.2.length <= 255 := by simp at h2; omega
    simp [Zbu, this]
  . have : ¬ 0 < s.2.length := by simp at h1; simp [h1]
    simp [Zbu, this]
def Zo (p : List Seg) : Bool := p.all Zbu && decide (cnt p <= 64)
def Zfo (b : Bool) : Int := if b then 0 else 2
theorem Zom (p : List Seg) (K : Int -> Prop) (hl : p.length <= 9223372036854775807) (hc : cnt p <= 9223372036854775807) (h : K (Zfo (Zo p))) : Zjc p K := by
  unfold Zjc; refine Zj.over p (fun pre => ((pre.length : Int), ())) (fun pre => pre.all Zbu = true) rfl rfl (fun pre s post hp hn hP next hx => ?_) (fun hP next _ => ?_)
  . intro _; dsimp only [Zbau]; refine ifT (decide_eq_true (by omega)) ⟨by omega, AtN.of (Zbf hp) fun _ _ => ?_⟩
    refine Zcfp s _ fun _ => IfB.intro (fun h1 => of_eq h ?_) (fun h1 => of_eq (hx ?_) ?_)
    . have : p.all Zbu = false := by rw [hp]; simp at h1; simp [h1]
      simp [Zo, this, Zfo]
    simp at h1; simp [h1]; simpa using hP
    . rw [Zg (by omega) (by omega)]; simp
  . dsimp only [Zbau]; refine ifF (decide_eq_false (by omega)) fun _ => Zbmx p _ hl hc fun _ => IfB.intro (fun h1 => of_eq h ?_) (fun h1 => of_eq h ?_)
    . have : ¬ cnt p <= 64 := by simp at h1; omega
      simp [Zo, this, Zfo]
    . have : cnt p <= 64 := by simp at h1; omega
      rw [Zo, hP, decide_eq_true this]; rfl
theorem Zcuf {p pre post : List Seg} {s : Seg} (hp : p = pre ++ s :: post) (h : Zbu s = false) : Zo p = false := by
  have : p.all Zbu = false := by rw [hp]; simp [h]
  simp [Zo, this]
theorem Zbzz {p : List Seg} (h : 64 < cnt p) : Zo p = false := by
  have : ¬ cnt p <= 64 := by omega
  simp [Zo, this]
theorem Zxq (pre post : List Seg) (s : Seg) : cnt (pre ++ s :: post) = cnt pre + s.2.length + cnt post := by simp [cnt]; omega
theorem Zny (p : List Seg) (K : Int -> Prop) (hl : p.length <= 9223372036854775807) (hc : cnt p <= 9223372036854775807) (h : K (Zfo (Zo p))) : Zjv p K := by
  unfold Zjv; refine Zj.over p (fun pre => ((cnt pre : Int), (pre.length : Int), ())) (fun pre => pre.all Zbu = true ∧ cnt pre <= 64) rfl ⟨rfl, by simp [cnt]⟩ (fun pre s post hp hn hP next hx => ?_) (fun hP next _ => ?_)
  . intro _; dsimp only [Zzb]; have hcs : cnt p = cnt pre + s.2.length + cnt post := by rw [hp, Zxq]
    refine ifT (decide_eq_true (by omega)) ⟨by omega, AtN.of (Zbf hp) fun _ => ?_⟩
    have bad : Zbu s = false -> K 2 := fun hb => of_eq h (by rw [Zcuf hp hb]; rfl)
    refine IfB.intro (fun h1 => ?_) (fun h1 => ⟨by omega, AtN.of (Zbf hp) fun _ => IfB.intro (fun h2 => ?_) (fun h2 => ?_)⟩)
    . have h1 : s.2.length = 0 := by simpa using h1
      exact bad (by simp [Zbu, h1])
    . have h2 : 255 < s.2.length := by simp at h2; omega
      exact bad (by
          have : ¬ s.2.length <= 255 := by omega
          simp [Zbu, this])
    . have h1 : s.2.length ≠ 0 := by simpa using h1
      have h2 : s.2.length <= 255 := by simp at h2; omega
      refine Zj.over s.2 (fun l => ((l.length : Int), ())) (fun l => l.all (fun x => x != 0) = true) rfl rfl (fun l x r hs hm hL next' hy => ?_) (fun hL next' _ => ?_)
      . intro _; dsimp only [Zbid]; refine ⟨by omega, AtN.of (Zbf hp) fun _ => ifT (decide_eq_true (by omega)) ⟨by omega, AtN.of (Zbf hp) fun _ => ⟨by omega, AtN.of (Zbf hs) fun _ => IfB.intro (fun h3 => ?_) (fun h3 => of_eq (hy ?_) ?_)⟩⟩⟩
        . refine bad ?_; have : (s.2.all fun x => x != 0) = false := by rw [List.all_eq_false]; exact ⟨x, by simp [hs], by simp [Zbgr, h3]⟩
          simp [Zbu, this]
        rw [List.all_append, hL]; simp [Zbgr, h3]
        . rw [Zg (by omega) (by omega)]; simp
      . dsimp only [Zbid]; refine ⟨by omega, AtN.of (Zbf hp) fun _ => ifF (decide_eq_false (by omega)) ⟨by omega, AtN.of (Zbf hp) fun _ => ?_⟩⟩
        rw [Zg (by omega) (by omega)]
        refine IfB.intro (fun h3 => of_eq h ?_) (fun h3 => of_eq (hx ⟨?_, ?_⟩) ?_)
        . have h3 : 64 < cnt pre + s.2.length := by simp at h3; omega
          rw [Zbzz (by omega)]; rfl
        . have : Zbu s = true := by simp [Zbu, h2]; exact ⟨by omega, by simpa using hL⟩
          rw [List.all_append, hP.1]; simp [this]
        . have h3 : cnt pre + s.2.length <= 64 := by simp at h3; omega
          rw [Zds]; omega
        . rw [Zg (by omega) (by omega), Zds]; simp
  . dsimp only [Zzb]; refine ifF (decide_eq_false (by omega)) (of_eq h ?_)
    simp [Zo, hP.1, hP.2, Zfo]
def Zcf (four : Bool) (x : UInt32) : List UInt8 := if four then be4 x.toNat else be2 (if x.toNat > 65535 then 23456 else x.toNat)
def Zjf (four : Bool) (s : Seg) : List UInt8 := [if s.1 then 1 else 2, UInt8.ofNat s.2.length] ++ s.2.flatMap (Zcf four)
def Zcd (four : Bool) (p : List Seg) : List UInt8 := p.flatMap (Zjf four)
theorem Zceh (four : Bool) (x : UInt32) : (Zcf four x).length <= 4 := by unfold Zcf; split <;> simp [be4, be2]
theorem Zyn (four : Bool) : ∀ l : List UInt32, (l.flatMap (Zcf four)).length <= 4 * l.length
  | [] => by simp
  | x :: l => by have h1 := Zceh four x; have h2 := Zyn four l; simp only [List.flatMap_cons, List.length_append, List.length_cons]; omega
theorem Zbex (four : Bool) : ∀ p : List Seg, (Zcd four p).length <= 2 * p.length + 4 * cnt p
  | [] => by simp [Zcd]
  | s :: p => by
    have h1 := Zyn four s.2; have h2 := Zbex four p; have h3 : cnt (s :: p) = s.2.length + cnt p := by simp [cnt]
    have h4 : (Zcd four (s :: p)).length = 2 + (s.2.flatMap (Zcf four)).length + (Zcd four p).length := by simp [Zcd, Zjf]; omega
    simp only [List.length_cons]; omega
theorem Zvd : ∀ p : List Seg, p.all Zbu = true -> p.length <= cnt p
  | [], _ => by simp
  | s :: p, h => by
    simp only [List.all_cons, Bool.and_eq_true] at h; have h1 := Zvd p h.2; have h2 : 0 < s.2.length := by have := h.1; simp only [Zbu, Bool.and_eq_true, decide_eq_true_eq] at this; exact this.1.1
    have h3 : cnt (s :: p) = s.2.length + cnt p := by simp [cnt]
    simp only [List.length_cons]; omega
theorem Zbrk (four : Bool) (p : List Seg) (s : Seg) : Zcd four (p ++ [s]) = Zcd four p ++ Zjf four s := by simp [Zcd]
theorem Zbwe {four : Bool} {p pre post : List Seg} {s : Seg} (hp : p = pre ++ s :: post) (hok : Zo p = true) : (Zcd four pre).length + 4 * s.2.length + 10 <= 1000 := by
  simp only [Zo, Bool.and_eq_true, decide_eq_true_eq] at hok; have h1 := Zvd p hok.1; have h2 := Zbex four pre; have h3 := Zxq pre post s; rw [← hp] at h3; have h4 : pre.length <= p.length := by rw [hp]; simp
  omega
theorem Zbhr (x : UInt32) : Zcf true x = [UInt8.ofNat (x.toNat / 16777216), UInt8.ofNat (x.toNat / 65536), UInt8.ofNat (x.toNat / 256), UInt8.ofNat x.toNat] := rfl
theorem Zcfa (s : Seg) (K : Int -> Prop) (h : K (if s.1 then 1 else 2)) : Zyv s K := by unfold Zyv; refine IfB.intro (fun h1 => of_eq h ?_) (fun h1 => of_eq h ?_) <;> simp [h1]
theorem Zym (p : List Seg) (four : Bool) (K : List UInt8 -> Int -> Prop) (hl : p.length <= 9223372036854775807) (hc : cnt p <= 9223372036854775807) (h : K (if Zo p then Zcd four p else []) (Zfo (Zo p))) : Znw p four K := by
  unfold Znw; intro _; refine Zom p _ hl hc fun _ => IfB.intro (fun h1 => ?_) (fun h1 => ?_)
  . have : Zo p = false := by cases hb : Zo p <;> simp [Zfo, hb] at h1 ⊢
    rw [this] at h ⊢; exact h
  . have hok : Zo p = true := by cases hb : Zo p <;> simp [Zfo, hb] at h1 ⊢
    rw [hok] at h; refine Zj.over p (fun pre => (Zcd four pre, (pre.length : Int), ())) (fun _ => True) rfl trivial (fun pre s post hp hn _ next hx => ?_) (fun _ next _ => ?_)
    . intro _; dsimp only [Zbaz]; have hsh := Zbwe (four := four) hp hok; refine ifT (decide_eq_true (by omega)) ⟨by omega, AtN.of (Zbf hp) fun _ _ => Zcfa s _ fun _ => ⟨by simp only [List.length_cons, List.length_nil]; omega, ?_⟩⟩
      refine Zj.over s.2 (fun l => (Zcd four pre ++ [if s.1 then 1 else 2, UInt8.ofNat s.2.length] ++ l.flatMap (Zcf four), (l.length : Int), ())) (fun _ => True) ?_ trivial (fun l x r hs hm _ next' hy => ?_) (fun _ next' _ => ?_)
      rw [of8w]; cases s.1 <;> simp [ofI]
      . intro _; dsimp only [Zbhs]; have h5 := Zyn four l; refine ifT (decide_eq_true (by omega)) ⟨by omega, AtN.of (Zbf hs) fun _ => IfB.intro (fun h1 => ?_) (fun h1 => IfB.intro (fun h2 => ?_) (fun h2 => ?_))⟩
        . refine ⟨by omega, by omega, by simp only [List.length_append, List.length_cons, List.length_nil]; omega, by decide, by simp only [List.length_append, List.length_cons, List.length_nil]; omega, ?_⟩
          dsimp only [Zvz]; refine of_eq (hy trivial) ?_; rw [Zg (by omega) (by omega), Zbus, Zchm, Zcuv, of8w, of8w, of8w, of8w]
          simp [h1, Zbhr]
        . refine ⟨by decide, by simp only [List.length_append, List.length_cons, List.length_nil]; omega, ?_⟩
          dsimp only [Zvz]; refine of_eq (hy trivial) ?_; have h2 : x.toNat > 65535 := by simp at h2; omega
          rw [Zg (by omega) (by omega)]
          simp [h1, Zcf, h2, be2]; decide
        . refine ⟨by decide, by simp only [List.length_append, List.length_cons, List.length_nil]; omega, ?_⟩
          dsimp only [Zvz]; refine of_eq (hy trivial) ?_; have h2 : ¬ x.toNat > 65535 := by simp at h2; omega
          rw [Zg (by omega) (by omega), Zbus, of8w, of8w]
          simp [h1, Zcf, h2, be2]
      . dsimp only [Zbhs]; refine ifF (decide_eq_false (by omega)) (of_eq (hx trivial) ?_)
        rw [Zg (by omega) (by omega), Zbrk]
        simp [Zjf]
    dsimp only [Zbaz]; exact ifF (decide_eq_false (by omega)) h
theorem Zcnj (p : List Seg) (four : Bool) (K : List UInt8 -> Int -> Prop) (hl : p.length <= 9223372036854775807) (hc : cnt p <= 9223372036854775807) (h : K (if Zo p then Zcd four p else []) (Zfo (Zo p))) : Zub p four K := by
  unfold Zub; intro _; refine Zny p _ hl hc fun _ => IfB.intro (fun h1 => ?_) (fun h1 => ?_)
  . have : Zo p = false := by cases hb : Zo p <;> simp [Zfo, hb] at h1 ⊢
    rw [this] at h; exact h
  . have hok : Zo p = true := by cases hb : Zo p <;> simp [Zfo, hb] at h1 ⊢
    rw [hok] at h; refine Zj.over p (fun pre => (Zcd four pre, (pre.length : Int), ())) (fun _ => True) rfl trivial (fun pre s post hp hn _ next hx => ?_) (fun _ next _ => ?_)
    . intro _; dsimp only [Zbhc]; have hsh := Zbwe (four := four) hp hok; have main : Zbbf p four (Zcd four pre) (pre.length : Int) next (if s.1 then 1 else 2) K := by
        refine ⟨by omega, AtN.of (Zbf hp) fun _ => ⟨by simp only [List.length_cons, List.length_nil]; omega, ?_⟩⟩
        refine Zj.over s.2 (fun l => (Zcd four pre ++ [if s.1 then 1 else 2, UInt8.ofNat s.2.length] ++ l.flatMap (Zcf four), (l.length : Int), ())) (fun _ => True) ?_ trivial (fun l x r hs hm _ next' hy => ?_) (fun _ next' _ => ?_)
        rw [of8w]; cases s.1 <;> simp [ofI]
        . intro _; dsimp only [Zbdp]; have h5 := Zyn four l; have hlt := Zcif x; refine ⟨by omega, AtN.of (Zbf hp) fun _ => ifT (decide_eq_true (by omega)) ⟨by omega, AtN.of (Zbf hp) fun _ => ⟨by omega, AtN.of (Zbf hs) fun _ => IfB.intro (fun h1 => ?_) (fun h1 => IfB.intro (fun h2 => ?_) (fun h2 => ?_))⟩⟩⟩
          . refine ⟨by decide, by decide, by decide, by decide, by decide, by decide, by simp only [List.length_append, List.length_cons, List.length_nil]; omega, ?_⟩
            dsimp only [Zpn]; refine of_eq (hy trivial) ?_; rw [Zg (by omega) (by omega), Zbqp, Zcud, Zcna, wu32 (by omega), wu32 (by omega), wu32 (by omega), Zyu, Zyu, Zyu, of8w, of8w, of8w, of8w]
            simp [h1, Zbhr, Zbfr]
          . refine ⟨by decide, by decide, by simp only [List.length_append, List.length_cons, List.length_nil]; omega, ?_⟩
            dsimp only [Zpn]; refine of_eq (hy trivial) ?_; have h2 : x.toNat > 65535 := by simp at h2; omega
            rw [Zg (by omega) (by omega)]
            simp [h1, Zcf, h2, be2]; decide
          . refine ⟨by decide, by decide, by simp only [List.length_append, List.length_cons, List.length_nil]; omega, ?_⟩
            dsimp only [Zpn]; refine of_eq (hy trivial) ?_; have h2 : ¬ x.toNat > 65535 := by simp at h2; omega
            rw [Zg (by omega) (by omega), Zbqp, wu32 (by omega), Zyu, of8w, of8w]
            simp [h1, Zcf, h2, be2, Zbfr]
        . dsimp only [Zbdp]; refine ⟨by omega, AtN.of (Zbf hp) fun _ => ifF (decide_eq_false (by omega)) (of_eq (hx trivial) ?_)⟩
          rw [Zg (by omega) (by omega), Zbrk]
          simp [Zjf]
      refine ifT (decide_eq_true (by omega)) ⟨by omega, AtN.of (Zbf hp) fun _ => IfB.intro (fun h1 => ?_) (fun h1 => ?_)⟩
      rw [h1] at main; exact main; rw [h1] at main; exact main
    dsimp only [Zbhc]; exact ifF (decide_eq_false (by omega)) h
theorem Zcbt (p : List Seg) (K : List Seg -> Prop) (hl : p.length < 1000000000) (hs : ∀ s ∈ p, s.2.length <= 35184372088736) (h : K p) : Zvb p K := by
  unfold Zvb; refine Zj.over p (fun pre => (pre, (pre.length : Int), ())) (fun _ => True) rfl trivial (fun pre s post hp hn _ next hx => ?_) (fun _ next _ => ?_)
  . intro _; dsimp only [Zbds]; have := hs s (by simp [hp])
    refine ifT (decide_eq_true (by omega)) ⟨by omega, AtN.of (Zbf hp) fun _ => ⟨by omega, AtN.of (Zbf hp) fun _ => ⟨by simpa using this, by simp only [List.length_cons, List.length_nil]; omega, of_eq (hx trivial) ?_⟩⟩⟩
    rw [Zg (by omega) (by omega)]; simp
  dsimp only [Zbds]; exact ifF (decide_eq_false (by omega)) h
end Go.Proofs.YtflfamhboalgiaaDoor
namespace Go.Proofs.YtflfamhboalgiaaDoor
open Go.Sh
def Zmp (k : Int) : Int := if k = 1 ∨ k = 2 ∨ k = 3 ∨ k = 5 ∨ k = 6 then 64 else if k = 4 then 128 else if k = 7 ∨ k = 8 ∨ k = 17 ∨ k = 18 then 192 else 0
end Go.Proofs.YtflfamhboalgiaaDoor
namespace Go.Proofs.YtflfamhboalgiaaDoor
open Go.Sh
end Go.Proofs.YtflfamhboalgiaaDoor
namespace Go.Proofs.YtflfamhboalgiaaDoor
open Go.Sh
end Go.Proofs.YtflfamhboalgiaaDoor
namespace Go.Proofs.YtflfamhboalgiaaDoor
open Go.Sh
end Go.Proofs.YtflfamhboalgiaaDoor
namespace Go.Proofs.YtflfamhboalgiaaDoor
open Go.Sh
def numB (l : List UInt8) : Nat := l.foldl (fun a x => a * 256 + x.toNat) 0
theorem Zckh (n : Nat) (h : n < 4294967296) : numB (be4 n) = n := by simp only [numB, be4, List.foldl_cons, List.foldl_nil, UInt8.toNat_ofNat']; omega
theorem Zbtq (n : Nat) (h : n < 65536) : numB (be2 n) = n := by simp only [numB, be2, List.foldl_cons, List.foldl_nil, UInt8.toNat_ofNat']; omega
def decN (size : Nat) : Nat -> List UInt8 -> List UInt32
  | 0, _ => []
  | k + 1, b => UInt32.ofNat (numB (b.take size)) :: decN size k (b.drop size)
theorem Zmt (size : Nat) : ∀ (k : Nat) (b : List UInt8), (decN size k b).length = k
  | 0, _ => rfl
  | k + 1, b => by simp [decN, Zmt size k]
def Zcs (four : Bool) : Nat := if four then 4 else 2
def Zdt (size : Nat) : Nat -> List UInt8 -> Option (List Seg)
  | _, [] => some []
  | 0, _ :: _ => none
  | _ + 1, [_] => none
  | f + 1, k :: n :: r => if (k = 1 ∨ k = 2) ∧ n.toNat * size <= r.length then (Zdt size f (r.drop (n.toNat * size))).map fun t => (k == 1, decN size n.toNat r) :: t else none
theorem Zbjt (size : Nat) : ∀ (f g : Nat) (b : List UInt8), b.length <= f -> b.length <= g -> Zdt size f b = Zdt size g b
  | 0, 0, _, _, _ => rfl
  | 0, _ + 1, [], _, _ => rfl
  | 0, _ + 1, _ :: _, h, _ => by simp at h
  | _ + 1, 0, [], _, _ => rfl
  | _ + 1, 0, _ :: _, _, h => by simp at h
  | _ + 1, _ + 1, [], _, _ => rfl
  | _ + 1, _ + 1, [_], _, _ => rfl
  | f + 1, g + 1, k :: n :: r, hf, hg => by simp only [List.length_cons] at hf hg; simp only [Zdt]; rw [Zbjt size f g _ (by simp only [List.length_drop]; omega) (by simp only [List.length_drop]; omega)]
def Zfy (four : Bool) (b : List UInt8) : Option (List Seg) := match Zdt (Zcs four) b.length b with
  | some p => if Zo p = true then some p else none
  | none => none
def trA (four : Bool) (x : UInt32) : UInt32 := if four then x else if x.toNat > 65535 then 23456 else x
def trS (four : Bool) (s : Seg) : Seg := (s.1, s.2.map (trA four))
theorem Zbdu (four : Bool) (x : UInt32) : (Zcf four x).length = Zcs four := by unfold Zcf Zcs; cases four <;> rfl
theorem Zbue (four : Bool) : ∀ l : List UInt32, (l.flatMap (Zcf four)).length = l.length * Zcs four
  | [] => by simp
  | x :: l => by simp only [List.flatMap_cons, List.length_append, Zbdu, Zbue four l, List.length_cons, Nat.succ_mul]; omega
theorem Zckr (four : Bool) (x : UInt32) : UInt32.ofNat (numB (Zcf four x)) = trA four x := by
  have hx := UInt32.toNat_lt x; unfold Zcf trA; cases four with
  | true => rw [if_pos rfl, if_pos rfl, Zckh _ hx]; simp
  | false =>
    simp only [Bool.false_eq_true, if_false]; by_cases h : x.toNat > 65535
    . rw [if_pos h, if_pos h, Zbtq _ (by omega)]; rfl
    . rw [if_neg h, if_neg h, Zbtq _ (by omega)]; simp
theorem Zbkc (four : Bool) (rest : List UInt8) : ∀ l : List UInt32, decN (Zcs four) l.length (l.flatMap (Zcf four) ++ rest) = l.map (trA four)
  | [] => rfl
  | x :: l => by
    simp only [List.length_cons, decN, List.flatMap_cons, List.append_assoc, List.map_cons]; have h1 : (Zcf four x ++ (l.flatMap (Zcf four) ++ rest)).take (Zcs four) = Zcf four x := by rw [← Zbdu four x, List.take_left]
    have h2 : (Zcf four x ++ (l.flatMap (Zcf four) ++ rest)).drop (Zcs four) = l.flatMap (Zcf four) ++ rest := by rw [← Zbdu four x, List.drop_left]
    rw [h1, h2, Zckr, Zbkc four rest l]
theorem Zbxy (four : Bool) : ∀ (p : List Seg) (f : Nat), p.all Zbu = true -> (Zcd four p).length <= f -> Zdt (Zcs four) f (Zcd four p) = some (p.map (trS four))
  | [], f, _, _ => by show Zdt _ f [] = some []; cases f <;> rfl
  | s :: p, f, hok, hf => by
    simp only [List.all_cons, Bool.and_eq_true] at hok; have hs := hok.1; simp only [Zbu, Bool.and_eq_true, decide_eq_true_eq] at hs; have e : Zcd four (s :: p) = (if s.1 then 1 else 2) :: UInt8.ofNat s.2.length :: (s.2.flatMap (Zcf four) ++ Zcd four p) := by simp [Zcd, Zjf]
    rw [e] at hf ⊢; simp only [List.length_cons, List.length_append] at hf; have hn : (UInt8.ofNat s.2.length).toNat = s.2.length := by rw [UInt8.toNat_ofNat']; omega
    cases f with
    | zero => omega
    | succ f =>
      simp only [Zdt]; have hlen := Zbue four s.2; rw [hn, if_pos ⟨by cases s.1 <;> simp, by rw [List.length_append, hlen]; omega⟩, ← hlen, List.drop_left, Zbxy four p f hok.2 (by omega), Zbkc]
      simp only [Option.map_some, List.map_cons, trS]; congr 2; cases s.1 <;> rfl
theorem Zcjn {four : Bool} {x : UInt32} (h : (x != 0) = true) : (trA four x != 0) = true := by unfold trA; split; exact h; split; decide; exact h
theorem Zcvh {four : Bool} {s : Seg} (h : Zbu s = true) : Zbu (trS four s) = true := by simp only [Zbu, trS, Bool.and_eq_true, decide_eq_true_eq, List.length_map, List.all_eq_true] at h ⊢; refine ⟨h.1, fun x hx => ?_⟩; obtain ⟨y, hy, rfl⟩ := List.mem_map.1 hx; exact Zcjn (h.2 y hy)
theorem Zckt {four : Bool} {p : List Seg} (h : Zo p = true) : Zo (p.map (trS four)) = true := by
  simp only [Zo, Bool.and_eq_true, decide_eq_true_eq] at h ⊢; refine ⟨List.all_eq_true.2 fun x hx => ?_, ?_⟩; obtain ⟨y, hy, rfl⟩ := List.mem_map.1 hx; exact Zcvh (List.all_eq_true.1 h.1 y hy)
  . have : cnt (p.map (trS four)) = cnt p := by simp only [cnt, List.map_map]; congr 1; exact List.map_congr_left fun s _ => by simp [trS]
    rw [this]; exact h.2
theorem Zcfk (four : Bool) {p : List Seg} (h : Zo p = true) : Zfy four (Zcd four p) = some (p.map (trS four)) := by
  unfold Zfy; rw [Zbxy four p _ (by simp only [Zo, Bool.and_eq_true] at h; exact h.1) (Nat.le_refl _)]
  simp only [Zckt h, if_true]
theorem Zcrg (p : List Seg) : p.map (trS true) = p := by
  conv => rhs; rw [← List.map_id p]
  exact List.map_congr_left fun s _ => by
    have : s.2.map (trA true) = s.2 := by
      conv => rhs; rw [← List.map_id s.2]
      exact List.map_congr_left fun x _ => rfl
    simp only [trS, this]; rfl
theorem Zbwd {four : Bool} {b : List UInt8} {p : List Seg} (h : Zfy four b = some p) : Zo p = true := by unfold Zfy at h; split at h; split at h; rename_i hp; cases h; exact hp; cases h; cases h
def lenP (p : List Seg) : Nat := (p.map fun s => if s.1 then 1 else s.2.length).sum
def Zbh : List Seg -> Nat -> List Seg
  | _, 0 => []
  | [], _ => []
  | s :: r, n + 1 => if s.1 then s :: Zbh r n else (s.1, s.2.take (n + 1)) :: Zbh r (n + 1 - min (n + 1) s.2.length)
def Zcw (out rest : List Seg) : List Seg := match out.getLast?, rest with
  | some l, r :: rest' => if !l.1 && !r.1 then out.dropLast ++ (l.1, l.2 ++ r.2) :: rest' else out ++ rest
  | _, _ => out ++ rest
def Zfe (two four : List Seg) : List Seg := if lenP two < lenP four then two else Zcw (Zbh two (lenP two - lenP four)) four
end Go.Proofs.YtflfamhboalgiaaDoor
namespace Go.Proofs.YtflfamhboalgiaaDoor
open Go.Sh
theorem Zbyh {T X : Type} {fin : T -> Prop} {body : T -> X -> (T -> Prop) -> Prop} (S : List X -> T) : ∀ (post pre : List X), (∀ pre' x post', pre ++ post = pre' ++ x :: post' -> ∀ next : T -> Prop, next (S (pre' ++ [x])) -> body (S pre') x next) -> fin (S (pre ++ post)) -> Zlr fin body post (S pre)
  | [], pre, _, he => by rw [List.append_nil] at he; exact he
  | x :: r, pre, hr, he => by
    have e : pre ++ x :: r = (pre ++ [x]) ++ r := by simp
    exact hr pre x r rfl _ (Zbyh S r (pre ++ [x]) (fun pre' y post' h => hr pre' y post' (by rw [e]; exact h)) (by rw [← e]; exact he))
theorem Zbvy (l : List UInt8) (x : UInt8) : numB (l ++ [x]) = numB l * 256 + x.toNat := by simp [numB]
theorem Zbsr : ∀ (d : List UInt8), numB d < 256 ^ d.length := fun d => by
  have : ∀ (d : List UInt8) (a : Nat), d.foldl (fun a x => a * 256 + x.toNat) a < (a + 1) * 256 ^ d.length := by
    intro d; induction d with
    | nil => intro a; simp
    | cons x d ih =>
      intro a; have hx := UInt8.toNat_lt x; have ih := ih (a * 256 + x.toNat); simp only [List.foldl_cons, List.length_cons, Nat.pow_succ]; have h3 : (a * 256 + x.toNat + 1) * 256 ^ d.length <= ((a + 1) * 256) * 256 ^ d.length := Nat.mul_le_mul_right _ (by omega)
      have h4 : (a + 1) * 256 * 256 ^ d.length = (a + 1) * (256 ^ d.length * 256) := by rw [Nat.mul_assoc, Nat.mul_comm 256]
      omega
  have := this d 0; unfold numB; omega
theorem Zbth {size : Nat} (hs : 1 <= size) : ∀ (n : Nat) (s : List UInt8), s.length = n * size -> (Zgc s size).map (fun c => UInt32.ofNat (numB c.1)) = decN size n s ∧ ∀ c ∈ Zgc s size, c.1.length = size
  | 0, s, h => by
    have : s = [] := List.eq_nil_of_length_eq_zero (by omega)
    subst this; exact ⟨rfl, fun c hc => by simp [Zcqw] at hc⟩
  | n + 1, s, h => by
    have hne : s ≠ [] := fun e => by subst e; simp [Nat.succ_mul] at h; omega
    rw [Nat.succ_mul] at h; rw [Zbqz (by omega) hne]
    obtain ⟨h1, h2⟩ := Zbth hs n (s.drop size) (by rw [List.length_drop]; omega)
    rw [Int.toNat_natCast]; refine ⟨by simp only [List.map_cons, decN, h1], fun c hc => ?_⟩
    rcases List.mem_cons.1 hc with rfl | hc; simp only [List.length_take]; omega; exact h2 c hc
def rpK (four : Bool) (b : List UInt8) (K : List Seg -> Int -> Prop) : Prop := match Zfy four b with
  | some p => K p 0
  | none => K [] 7
def rpT (size : Nat) (p : List Seg) (r : List UInt8) (K : List Seg -> Int -> Prop) : Prop := match Zdt size r.length r with
  | some t => if Zo (p ++ t) = true then K (p ++ t) 0 else K [] 7
  | none => K [] 7
theorem Zbkw {size : Nat} {p : List Seg} {K : List Seg -> Int -> Prop} (h : rpT size p [] K) : if Zo p = true then K p 0 else K [] 7 := by unfold rpT at h; simp only [List.length_nil, Zdt, List.append_nil] at h; exact h
theorem Zboz {size : Nat} {p : List Seg} {x : UInt8} {K : List Seg -> Int -> Prop} (h : rpT size p [x] K) : K [] 7 := by unfold rpT at h; simp only [List.length_cons, List.length_nil, Zdt] at h; exact h
theorem Zbpc {size : Nat} {p : List Seg} {x y : UInt8} {r : List UInt8} {K : List Seg -> Int -> Prop} (hc : ¬ ((x = 1 ∨ x = 2) ∧ y.toNat * size <= r.length)) (h : rpT size p (x :: y :: r) K) : K [] 7 := by unfold rpT at h; simp only [List.length_cons, Zdt] at h; rw [if_neg hc] at h; exact h
theorem Zbmc {size : Nat} {p : List Seg} {x y : UInt8} {r : List UInt8} {K : List Seg -> Int -> Prop} (hc : (x = 1 ∨ x = 2) ∧ y.toNat * size <= r.length) (h : rpT size p (x :: y :: r) K) : rpT size (p ++ [(x == 1, decN size y.toNat r)]) (r.drop (y.toNat * size)) K := by
  unfold rpT at h ⊢; simp only [List.length_cons, Zdt] at h; rw [if_pos hc, Zbjt size (r.length + 1) (r.drop (y.toNat * size)).length _ (by simp only [List.length_drop]; omega) (Nat.le_refl _)] at h
  cases hs : Zdt size (r.drop (y.toNat * size)).length (r.drop (y.toNat * size)) with
  | none => rw [hs] at h; exact h
  | some t =>
    rw [hs] at h; simp only [Option.map_some] at h; simp only [List.append_assoc, List.cons_append, List.nil_append]; exact h
theorem Zbza {four : Bool} {b : List UInt8} {K : List Seg -> Int -> Prop} (h : rpK four b K) : rpT (Zcs four) [] b K := by
  unfold rpK Zfy at h; unfold rpT; cases hs : Zdt (Zcs four) b.length b with
  | none => rw [hs] at h; exact h
  | some t =>
    rw [hs] at h; simp only [List.nil_append] at h ⊢; by_cases hp : Zo t = true; rw [if_pos hp] at h ⊢; exact h; rw [if_neg hp] at h ⊢; exact h
theorem Zblp (p : List Seg) (s : Seg) : cnt (p ++ [s]) = cnt p + s.2.length := by simp [cnt]
theorem Zbmt (b : List UInt8) (size : Nat) (K : List Seg -> Int -> Prop) (hs : size = 4 ∨ size = 2) (hl : b.length <= 1000000000) (h : rpT size [] b K) : Zvc b size K := by
  unfold Zvc; refine ⟨fun k x => ∃ (r : List UInt8) (p : List Seg), x = (r, p, ()) ∧ k = r.length ∧ p.length + cnt p + r.length <= b.length ∧ rpT size p r K, b.length, ⟨b, [], rfl, rfl, by simp [cnt], h⟩, ?_⟩
  rintro k x ⟨r, p, rfl, rfl, hlen, hr⟩; intro _; dsimp only [Zbtg]; cases r with
  | nil =>
    refine ifF rfl fun _ => Zom p _ (by omega) (by omega) fun _ => ?_
    have h1 := Zbkw hr; cases hp : Zo p with
    | true => rw [hp, if_pos rfl] at h1; exact ifT rfl h1
    | false => rw [hp, if_neg (by decide)] at h1; exact ifF rfl h1
  | cons x r =>
  refine ifT (decide_eq_true (by simp only [List.length_cons]; omega)) ?_
  cases r with
  | nil =>
    refine ifT rfl ?_; unfold Zip; exact ifT rfl (Zboz hr)
  | cons y r =>
  simp only [List.length_cons] at hlen; have hx := UInt8.toNat_lt x; have hy := UInt8.toNat_lt y; have hsz : size <= 4 ∧ 1 <= size := by omega
  have hmul : y.toNat * size <= 255 * 4 := Nat.mul_le_mul (by omega) hsz.1
  have wl : IntKind.wrap .i64 ((((x :: y :: r).length : Nat) : Int) - 2) = (r.length : Int) := by rw [Zg (by simp only [List.length_cons]; omega) (by simp only [List.length_cons]; omega)]; simp only [List.length_cons]; omega
  have wm : IntKind.wrap .i64 (IntKind.wrap .i64 (y.toNat : Int) * (size : Int)) = ((y.toNat * size : Nat) : Int) := by rw [Zg (n := (y.toNat : Int)) (by omega) (by omega), ← Int.natCast_mul, Zg (by omega) (by omega)]
  have bad : ¬ ((x = 1 ∨ x = 2) ∧ y.toNat * size <= r.length) -> Zip (x :: y :: r) size p (fun x' => ∃ k', k' < (x :: y :: r).length ∧ ∃ (r : List UInt8) (p : List Seg), x' = (r, p, ()) ∧ k' = r.length ∧ p.length + cnt p + r.length <= b.length ∧ rpT size p r K) true K := fun hc => by unfold Zip; exact ifT rfl (Zbpc hc hr)
  have good : (x = 1 ∨ x = 2) -> Zip (x :: y :: r) size p (fun x' => ∃ k', k' < (x :: y :: r).length ∧ ∃ (r : List UInt8) (p : List Seg), x' = (r, p, ()) ∧ k' = r.length ∧ p.length + cnt p + r.length <= b.length ∧ rpT size p r K) (decide (((y.toNat * size : Nat) : Int) > (r.length : Int))) K := fun hk => by
    by_cases hc : y.toNat * size <= r.length
    case neg =>
      rw [decide_eq_true (by omega)]
      exact bad fun h => hc h.2
    rw [decide_eq_false (by omega)]
    unfold Zip; refine ifF rfl ⟨by decide, AtN.of rfl fun _ => ⟨by decide, AtN.of rfl fun _ => ?_⟩⟩
    have w2 : IntKind.wrap .i64 (2 + ((y.toNat * size : Nat) : Int)) = ((2 + y.toNat * size : Nat) : Int) := by rw [Zg (by omega) (by omega)]; omega
    rw [wm, w2, Int.toNat_natCast]; have hd : ((x :: y :: r).take (2 + y.toNat * size)).drop 2 = r.take (y.toNat * size) := by rw [Nat.add_comm]; rfl
    have hdr : (x :: y :: r).drop (2 + y.toNat * size) = r.drop (y.toNat * size) := by rw [Nat.add_comm]; rfl
    refine ⟨by omega, by simp only [List.length_cons]; omega, by decide, by omega, ifF (decide_eq_false (by omega)) ⟨⟨by show (1 : Int) <= size; omega, by show (size : Int) <= _; omega, ?_⟩, ?_⟩⟩
    show (((x :: y :: r).take (2 + y.toNat * size)).drop 2).length <= _; rw [hd, List.length_take]; omega
    . show Zlr _ _ (Zgc (((x :: y :: r).take (2 + y.toNat * size)).drop 2) (size : Int)) _; rw [hd]; obtain ⟨c1, c2⟩ := Zbth hsz.2 y.toNat (r.take (y.toNat * size)) (by rw [List.length_take]; omega)
      have hx1 : (((x.toNat : Int) : Int) == 1) = (x == 1) := by by_cases e : x = 1; subst e; rfl; rw [beq_eq_false_iff_ne.2 e, beq_eq_false_iff_ne.2 fun h => e (UInt8.toNat_inj.1 (by show x.toNat = 1; omega))]
      rw [hx1]; refine Zbyh (fun pre : List (List UInt8 × Unit) => ((x == 1), pre.map (fun c => UInt32.ofNat (numB c.1)), ())) _ [] (fun pre c post hp2 next hn => ?_) ?_
      . intro _ _; have hcl : c.1.length = size := c2 c (by rw [← List.nil_append (Zgc _ _), hp2]; simp)
        have hcn : (Zgc (r.take (y.toNat * size)) (size : Int)).length = y.toNat := by have := congrArg List.length c1; rw [List.length_map, Zmt] at this; exact this
        have hpl : pre.length < y.toNat := by have := congrArg List.length hp2; simp only [List.length_append, List.length_cons, List.nil_append] at this; omega
        dsimp only [Zbsi]; refine Zj.over c.1 (fun z => ((numB z : Int), (z.length : Int), (x == 1), pre.map (fun c => UInt32.ofNat (numB c.1)), ())) (fun _ => True) rfl trivial (fun z v post2 hz hz2 _ next2 hn2 => ?_) (fun _ next2 _ => ?_)
        . intro _; dsimp only [Zzi]; have hv := UInt8.toNat_lt v; have hnb := Zbsr z; have hz3 : z.length <= 3 := by rw [hcl] at hz2; omega
          have hnb2 : numB z < 16777216 := by
            have : 256 ^ z.length <= 256 ^ 3 := Nat.pow_le_pow_right (by decide) hz3
            omega
          refine ifT (decide_eq_true (by omega)) ⟨by omega, AtN.of (Zbf hz) fun _ => ⟨by decide, of_eq (hn2 trivial) ?_⟩⟩
          rw [Zbvy, show (numB z : Int) * 256 = ((numB z * 256 : Nat) : Int) by omega, wu32 (by omega), wu32 (by omega), Zclw .u32 _ _ (Zbpa (by omega)) (Zbpa (by omega)), Zcgf _ _ (by omega), wu32 (by omega), Zg (by omega) (by omega)]
          simp
        . dsimp only [Zzi]; refine ifF (decide_eq_false (by omega)) ⟨by simp only [List.length_map, List.length_cons, List.length_nil]; omega, of_eq hn ?_⟩
          have e : (ofI .u32 (numB c.1 : Int) : UInt32) = UInt32.ofNat (numB c.1) := by simp [ofI]
          rw [e, List.map_append]; rfl
      . intro _; dsimp only [List.nil_append]; rw [c1]; unfold Zbot; rw [wm, w2, Int.toNat_natCast, hdr]; have hdl := Zmt size y.toNat (r.take (y.toNat * size)); have hdt : decN size y.toNat (r.take (y.toNat * size)) = decN size y.toNat r := by
          have : ∀ (n : Nat) (s : List UInt8), n * size <= s.length -> decN size n (s.take (n * size)) = decN size n s := by
            intro n; induction n with
            | zero => intro s _; rfl
            | succ n ih =>
              intro s hsl; rw [Nat.succ_mul] at hsl; simp only [decN]; have e1 : (s.take ((n + 1) * size)).take size = s.take size := by rw [List.take_take, Nat.min_eq_left]; rw [Nat.succ_mul]; omega
              have e2 : (s.take ((n + 1) * size)).drop size = (s.drop size).take (n * size) := by rw [List.drop_take, Nat.succ_mul, Nat.add_sub_cancel]
              rw [e1, e2, ih (s.drop size) (by rw [List.length_drop]; omega)]
          exact this y.toNat r hc
        have hny : y.toNat * 1 <= y.toNat * size := Nat.mul_le_mul_left _ hsz.2; refine ⟨by omega, by simp only [List.length_cons]; omega, by simp only [List.length_cons, List.length_nil]; omega, _, ?_, _, _, rfl, rfl, ?_, ?_⟩
        simp only [List.length_drop, List.length_cons]; omega; rw [Zblp, List.length_append, hdl]; simp only [List.length_cons, List.length_nil, List.length_drop]; omega; rw [hdt]; exact Zbmc ⟨hk, hc⟩ hr
  refine ifF (decide_eq_false (by simp only [List.length_cons]; omega)) ⟨by decide, AtN.of rfl fun _ => IfB.intro (fun h1 => ?_) (fun h1 => ?_)⟩
  . have h1 : x.toNat ≠ 1 := fun e => by rw [e] at h1; simp at h1
    refine ⟨by decide, AtN.of rfl fun _ => IfB.intro (fun h2 => ?_) (fun h2 => ?_)⟩
    . have h2 : x.toNat ≠ 2 := fun e => by rw [e] at h2; simp at h2
      exact bad fun h => by rcases h.1 with e | e <;> subst e; exact h1 rfl; exact h2 rfl
    . have h2 : x.toNat = 2 := by
        have : ((x.toNat : Int) : Int) = 2 := by simpa using h2
        omega
      refine ⟨by decide, AtN.of rfl fun _ => ?_⟩
      rw [wl, wm]; exact good (.inr (UInt8.toNat_inj.1 h2))
  . have h1 : x.toNat = 1 := by
      have : ((x.toNat : Int) : Int) = 1 := by simpa using h1
      omega
    refine ⟨by decide, AtN.of rfl fun _ => ?_⟩
    rw [wl, wm]; exact good (.inl (UInt8.toNat_inj.1 h1))
theorem Zbfp (b : List UInt8) (four : Bool) (K : List Seg -> Int -> Prop) (hl : b.length <= 1000000000) (h : rpK four b K) : Zmc b four K := by
  unfold Zmc; have := Zbza h; cases four with
  | true => exact ifT rfl (Zbmt b 4 K (.inl rfl) hl this)
  | false => exact ifF rfl (Zbmt b 2 K (.inr rfl) hl this)
end Go.Proofs.YtflfamhboalgiaaDoor
namespace Go.Proofs.YtflfamhboalgiaaDoor
open Go.Sh
theorem Zbwh (size : Nat) : ∀ (k : Nat) (s : List UInt8), decN size (k + 1) s = decN size k s ++ [UInt32.ofNat (numB ((s.drop (k * size)).take size))]
  | 0, s => by simp [decN]
  | k + 1, s => by
    have e : decN size (k + 2) s = UInt32.ofNat (numB (s.take size)) :: decN size (k + 1) (s.drop size) := rfl; rw [e, Zbwh size k (s.drop size), List.drop_drop]; have e2 : size + k * size = (k + 1) * size := by rw [Nat.succ_mul]; omega
    rw [e2]; rfl
theorem Zcta {b : List UInt8} {i : Nat} (h : i + 1 < b.length) : ∃ x y r, b.drop i = x :: y :: r ∧ b[i]? = some x ∧ b[i + 1]? = some y ∧ r = b.drop (i + 2) := by
  have h1 : b.drop i = b[i] :: b.drop (i + 1) := List.drop_eq_getElem_cons (by omega)
  have h2 : b.drop (i + 1) = b[i + 1] :: b.drop (i + 2) := List.drop_eq_getElem_cons h; exact ⟨b[i], b[i + 1], b.drop (i + 2), by rw [h1, h2], List.getElem?_eq_getElem (by omega), List.getElem?_eq_getElem h, rfl⟩
theorem Zbru (b : List UInt8) (size : Nat) (K : List Seg -> Int -> Prop) (hs : size = 4 ∨ size = 2) (hl : b.length <= 1000000000) (h : rpT size [] b K) : Zwx b size K := by
  unfold Zwx; refine ⟨fun k x => ∃ (i : Nat) (p : List Seg), x = (p, (i : Int), ()) ∧ k = b.length - i ∧ i <= b.length ∧ p.length + cnt p + (b.length - i) <= b.length ∧ rpT size p (b.drop i) K, b.length, ⟨0, [], rfl, rfl, Nat.zero_le _, by simp [cnt], h⟩, ?_⟩
  rintro k x ⟨i, p, rfl, rfl, hi, hlen, hr⟩; intro _; dsimp only [Zbjq]; have hsz : size <= 4 ∧ 1 <= size := by omega
  by_cases h0 : i < b.length
  case neg =>
    refine ifF (decide_eq_false (by omega)) fun _ => Zny p _ (by omega) (by omega) fun _ => ?_
    have hnil : b.drop i = [] := List.drop_eq_nil_of_le (by omega)
    rw [hnil] at hr; have h1 := Zbkw hr; cases hp : Zo p with
    | true => rw [hp, if_pos rfl] at h1; exact ifF rfl h1
    | false => rw [hp, if_neg (by decide)] at h1; exact ifT rfl h1
  refine ifT (decide_eq_true (by omega)) ?_
  have w1 : IntKind.wrap .i64 ((i : Int) + 1) = ((i + 1 : Nat) : Int) := by rw [Zg (by omega) (by omega)]; omega
  simp only [w1, Int.toNat_natCast]; by_cases h1 : i + 1 < b.length
  case neg =>
    refine ifT (decide_eq_true (by omega)) ?_
    unfold Ziu; have e : b.drop i = [b[i]] := by rw [List.drop_eq_getElem_cons h0, List.drop_eq_nil_of_le (by omega)]
    rw [e] at hr; exact ifT rfl (Zboz hr)
  obtain ⟨x, y, r, hxy, hbx, hby, hrr⟩ := Zcta h1; rw [hxy] at hr; have hx := UInt8.toNat_lt x; have hy := UInt8.toNat_lt y; have hmul : y.toNat * size <= 255 * 4 := Nat.mul_le_mul (by omega) hsz.1
  have hrl : r.length = b.length - i - 2 := by rw [hrr, List.length_drop]; omega
  have bad : ¬ ((x = 1 ∨ x = 2) ∧ y.toNat * size <= r.length) -> Ziu b size p (i : Int) (fun x' => ∃ k', k' < b.length - i ∧ ∃ (i : Nat) (p : List Seg), x' = (p, (i : Int), ()) ∧ k' = b.length - i ∧ i <= b.length ∧ p.length + cnt p + (b.length - i) <= b.length ∧ rpT size p (b.drop i) K) true K := fun hc => by unfold Ziu; exact ifT rfl (Zbpc hc hr)
  refine ifF (decide_eq_false (by omega)) ⟨by omega, AtN.of hbx fun _ => IfB.intro (fun h2 => ?_) (fun h2 => ?_)⟩
  . have h2 : x.toNat < 1 := by have := of_decide_eq_true h2; omega
    exact bad fun h => by rcases h.1 with e | e <;> subst e <;> revert h2 <;> decide
  have h2 : 1 <= x.toNat := by have := of_decide_eq_false h2; omega
  refine ⟨by omega, AtN.of hbx fun _ => IfB.intro (fun h3 => ?_) (fun h3 => ?_)⟩
  . have h3 : 2 < x.toNat := by have := of_decide_eq_true h3; omega
    exact bad fun h => by rcases h.1 with e | e <;> subst e <;> revert h3 <;> decide
  have h3 : x.toNat <= 2 := by have := of_decide_eq_false h3; omega
  have hk : x = 1 ∨ x = 2 := by
    rcases Nat.lt_or_ge x.toNat 2 with h4 | h4; exact .inl (UInt8.toNat_inj.1 (by show x.toNat = 1; omega))
    exact .inr (UInt8.toNat_inj.1 (by show x.toNat = 2; omega))
  have wm : IntKind.wrap .i64 (IntKind.wrap .i64 (y.toNat : Int) * (size : Int)) = ((y.toNat * size : Nat) : Int) := by rw [Zg (n := (y.toNat : Int)) (by omega) (by omega), ← Int.natCast_mul, Zg (by omega) (by omega)]
  have wl : IntKind.wrap .i64 (IntKind.wrap .i64 ((b.length : Int) - (i : Int)) - 2) = (r.length : Int) := by
    rw [Zg (n := (b.length : Int) - (i : Int)) (by omega) (by omega), Zg (by omega) (by omega)]; omega
  refine ⟨by omega, AtN.of hby fun _ => ?_⟩
  rw [wm, wl]; by_cases hc : y.toNat * size <= r.length
  case neg =>
    rw [decide_eq_true (by omega)]
    exact bad fun h => hc h.2
  rw [decide_eq_false (by omega)]
  unfold Ziu; simp only [w1, Int.toNat_natCast]; refine ifF rfl ⟨by omega, AtN.of hbx fun _ => ⟨by omega, AtN.of hby fun _ => ?_⟩⟩
  have hx1 : (((x.toNat : Int) : Int) == 1) = (x == 1) := by by_cases e : x = 1; subst e; rfl; rw [beq_eq_false_iff_ne.2 e, beq_eq_false_iff_ne.2 fun h => e (UInt8.toNat_inj.1 (by show x.toNat = 1; omega))]
  have w2 : IntKind.wrap .i64 ((i : Int) + 2) = ((i + 2 + 0 * size : Nat) : Int) := by rw [Zg (by omega) (by omega)]; omega
  have wy : IntKind.wrap .i64 (y.toNat : Int) = (y.toNat : Int) := Zg (by omega) (by omega)
  rw [hx1, w2]; refine Zj.up y.toNat (fun k => (((i + 2 + k * size : Nat) : Int), (k : Int), (x == 1), decN size k r, ())) (fun _ => True) rfl trivial (fun k hk2 _ next hn => ?_) (fun _ next => ?_)
  . intro _; dsimp only [Zbah]; rw [wy]; have hks : k * size + size <= y.toNat * size := by rw [← Nat.succ_mul]; exact Nat.mul_le_mul_right _ hk2
    refine ifT (decide_eq_true (by omega)) ?_
    refine Zj.up size (fun j => ((numB ((r.drop (k * size)).take j) : Int), (j : Int), (x == 1), decN size k r, ())) (fun _ => True) rfl trivial (fun j hj _ next2 hn2 => ?_) (fun _ next2 => ?_)
    . intro _; dsimp only [Zbel]; have w3 : IntKind.wrap .i64 (((i + 2 + k * size : Nat) : Int) + (j : Int)) = ((i + 2 + k * size + j : Nat) : Int) := by rw [Zg (by omega) (by omega)]; omega
      rw [w3, Int.toNat_natCast]; obtain ⟨v, hv⟩ : ∃ v, b[i + 2 + k * size + j]? = some v := ⟨_, List.getElem?_eq_getElem (by omega)⟩
      have hv2 : (r.drop (k * size))[j]? = some v := by
        rw [List.getElem?_drop, hrr, List.getElem?_drop, show i + 2 + (k * size + j) = i + 2 + k * size + j by omega]; exact hv
      have hvl := UInt8.toNat_lt v; have hnb := Zbsr ((r.drop (k * size)).take j); have hnb2 : numB ((r.drop (k * size)).take j) < 16777216 := by
        have h5 : ((r.drop (k * size)).take j).length <= 3 := by simp only [List.length_take]; omega
        have : 256 ^ ((r.drop (k * size)).take j).length <= 256 ^ 3 := Nat.pow_le_pow_right (by decide) h5
        omega
      refine ifT (decide_eq_true (by omega)) ⟨by omega, AtN.of hv fun _ => of_eq (hn2 trivial) ?_⟩
      have e6 : (r.drop (k * size)).take (j + 1) = (r.drop (k * size)).take j ++ [v] := by rw [List.take_add_one, hv2]; rfl
      rw [e6, Zbvy, show 256 * (numB ((r.drop (k * size)).take j) : Int) = ((numB ((r.drop (k * size)).take j) * 256 : Nat) : Int) by omega, wu32 (by omega), wu32 (by omega), ← Int.natCast_add, wu32 (by omega), Zg (by omega) (by omega)]
      rfl
    . intro _; dsimp only [Zbel]; have hdl := Zmt size k r; refine ifF (decide_eq_false (by omega)) ⟨by simp only [List.length_cons, List.length_nil]; omega, of_eq (hn trivial) ?_⟩
      have e : (ofI .u32 (numB ((r.drop (k * size)).take size) : Int) : UInt32) = UInt32.ofNat (numB ((r.drop (k * size)).take size)) := by simp [ofI]
      rw [e, Zbwh, Zg (n := ((i + 2 + k * size : Nat) : Int) + (size : Int)) (by omega) (by omega), Zg (n := (k : Int) + 1) (by omega) (by omega), Nat.succ_mul]
      have e7 : (((i + 2 + (k * size + size) : Nat)) : Int) = ((i + 2 + k * size : Nat) : Int) + (size : Int) := by omega
      rw [e7]; rfl
  . intro _; dsimp only [Zbah]; rw [wy]; have hdl := Zmt size y.toNat r; have hny : y.toNat * 1 <= y.toNat * size := Nat.mul_le_mul_left _ hsz.2; refine ifF (decide_eq_false (by omega)) ⟨by simp only [List.length_cons, List.length_nil]; omega, b.length - (i + 2 + y.toNat * size), by omega, i + 2 + y.toNat * size, _, rfl, rfl, by omega, ?_, ?_⟩
    rw [Zblp, List.length_append, hdl]; simp only [List.length_cons, List.length_nil]; omega; have := Zbmc ⟨hk, hc⟩ hr; rw [hrr, List.drop_drop] at this; rw [hrr]; exact this
theorem Zcaz (b : List UInt8) (four : Bool) (K : List Seg -> Int -> Prop) (hl : b.length <= 1000000000) (h : rpK four b K) : Zvy b four K := by
  unfold Zvy; have := Zbza h; cases four with
  | true => exact ifT rfl (Zbru b 4 K (.inl rfl) hl this)
  | false => exact ifF rfl (Zbru b 2 K (.inr rfl) hl this)
end Go.Proofs.YtflfamhboalgiaaDoor
namespace Go.Proofs.YtflfamhboalgiaaDoor
open Go.Sh
theorem Zctl (n : Int) (K : List UInt32 -> Prop) (h0 : 0 <= n) (hn : n <= 1000000000) (h : K []) : Zvn n K := by
  unfold Zvn; have e : IntKind.wrap .i64 (n - IntKind.wrap .i64 (0 - 0)) = n := by
    rw [Zg (n := 0 - 0) (by omega) (by omega)]
    exact Zg (by omega) (by omega) |>.trans (by omega)
  rw [e]; refine ifF (decide_eq_false (by omega)) (IfB.intro (fun h1 => ?_) (fun _ => h))
  have h1 : 0 < n := by simpa using h1
  exact ⟨by omega, by omega, h1, hn, by omega, by omega, by simpa using h⟩
theorem Zbou {pre post : List (List UInt32)} {x : List UInt32} : (pre ++ x :: post).flatten.length = pre.flatten.length + x.length + post.flatten.length := by simp; omega
theorem Zcnr (l : List (List UInt32)) (K : List UInt32 -> Prop) (hl : l.length <= 1000000000) (hf : l.flatten.length <= 1000000000) (h : K l.flatten) : Zve l K := by
  unfold Zve; refine Zj.over l (fun pre => ((pre.flatten.length : Int), (pre.length : Int), ())) (fun _ => True) rfl trivial (fun pre x post hp hn _ next hx => ?_) (fun _ next _ => ?_)
  . intro _; dsimp only [Zbfg]; have hs := Zbou (pre := pre) (x := x) (post := post); rw [← hp] at hs; refine ifT (decide_eq_true (by omega)) ⟨by omega, AtN.of (Zbf hp) fun _ => ?_⟩
    rw [Zg (n := (pre.flatten.length : Int) + x.length) (by omega) (by omega)]
    refine ifF (decide_eq_false (by omega)) (of_eq (hx trivial) ?_)
    rw [Zg (by omega) (by omega)]
    simp
  . dsimp only [Zbfg]; refine ifF (decide_eq_false (by omega)) fun _ => Zctl _ _ (by omega) (by omega) fun _ => ?_
    refine Zj.over l (fun pre => (pre.flatten, (pre.length : Int), ())) (fun _ => True) rfl trivial (fun pre x post hp hn _ next hx => ?_) (fun _ next _ => ?_)
    . intro _; dsimp only [Zbbe]; have hs := Zbou (pre := pre) (x := x) (post := post); rw [← hp] at hs; refine ifT (decide_eq_true (by omega)) ⟨by omega, AtN.of (Zbf hp) fun _ => ⟨by omega, of_eq (hx trivial) ?_⟩⟩
      rw [Zg (by omega) (by omega)]
      simp
    dsimp only [Zbbe]; exact ifF (decide_eq_false (by omega)) h
theorem Zkg (p q : List Seg) : lenP (p ++ q) = lenP p + lenP q := by simp [lenP]
theorem Zjn : ∀ p : List Seg, lenP p <= p.length + cnt p
  | [] => by simp [lenP]
  | s :: p => by
    have ih := Zjn p; have e1 : lenP (s :: p) = (if s.1 then 1 else s.2.length) + lenP p := by simp [lenP]
    have e2 : cnt (s :: p) = s.2.length + cnt p := by simp [cnt]
    rw [e1, e2, List.length_cons]; split <;> omega
theorem Zih (p : List Seg) (K : Int -> Prop) (hl : p.length + cnt p <= 1000000000) (h : K (lenP p)) : Zgb p K := by
  unfold Zgb; refine Zj.over p (fun pre => ((lenP pre : Int), (pre.length : Int), ())) (fun _ => True) rfl trivial (fun pre s post hp hn _ next hx => ?_) (fun _ next _ => ?_)
  . intro _; dsimp only [Zzt, Zbdi]; have e := Zkg pre (s :: post); rw [← hp] at e; have e2 : lenP (pre ++ [s]) = lenP pre + (if s.1 then 1 else s.2.length) := by rw [Zkg]; simp [lenP]
    have e3 : lenP (s :: post) = (if s.1 then 1 else s.2.length) + lenP post := by simp [lenP]
    have hle := Zjn p; refine ifT (decide_eq_true (by omega)) ⟨by omega, AtN.of (Zbf hp) fun _ => IfB.intro (fun h1 => of_eq (hx trivial) ?_) (fun h1 => of_eq (hx trivial) ?_)⟩
    . rw [h1, if_pos rfl] at e2 e3; rw [Zg (by omega) (by omega), Zg (by omega) (by omega), e2]
      simp
    . rw [h1, if_neg (by decide)] at e2 e3
      rw [Zg (by omega) (by omega), Zg (by omega) (by omega), e2]
      simp
  dsimp only [Zzt]; exact ifF (decide_eq_false (by omega)) h
theorem Zcbq (s : List UInt32) (K : List UInt32 -> Prop) (hl : s.length <= 1000000000) (h : K s) : Zbax s K := by
  intro isnil hn; refine IfB.intro (fun h1 => ?_) (fun _ => ⟨by simp only [List.length_nil]; omega, by simpa using h⟩)
  have : s = [] := List.eq_nil_of_length_eq_zero (hn h1); rw [this] at h; exact h
theorem Zew {p : List Seg} {s : Seg} (h : s ∈ p) : s.2.length <= cnt p := by obtain ⟨a, b, rfl⟩ := List.append_of_mem h; simp [cnt]; omega
theorem Zbaw (p : List Seg) (K : List Seg -> Prop) (hl : p.length + cnt p <= 1000000000) (h : K p) : Znd p K := by
  unfold Znd; refine ⟨by decide, by omega, by omega, ?_⟩
  refine Zj.over p (fun pre => (pre, (pre.length : Int), ())) (fun _ => True) rfl trivial (fun pre s post hp hn _ next hx => ?_) (fun _ next _ => ?_)
  . intro _; dsimp only [Zbhm]; have hm := Zew (p := p) (s := s) (by rw [hp]; simp)
    refine ifT (decide_eq_true (by omega)) ⟨by omega, AtN.of (Zbf hp) fun _ _ => Zcbq s.2 _ (by omega) fun _ => ⟨by simp only [List.length_cons, List.length_nil]; omega, of_eq (hx trivial) ?_⟩⟩
    rw [Zg (by omega) (by omega)]
    simp
  dsimp only [Zbhm]; exact ifF (decide_eq_false (by omega)) h
theorem Zcmp (p : List Seg) (n0 : Nat) (K : List Seg -> Prop) (hl : p.length + cnt p <= 1000000000) (hn0 : n0 <= 1000000000) (h : K (Zbh p n0)) : Zup p n0 K := by
  unfold Zup; refine fun _ => Zbaw p _ hl fun _ => ?_; refine ⟨fun k x => ∃ (i n : Nat) (out : List Seg), x = ((n : Int), out, (i : Int), ()) ∧ k = p.length - i ∧ i <= p.length ∧ out ++ Zbh (p.drop i) n = Zbh p n0 ∧ out.length <= i ∧ n <= n0, p.length, ⟨0, n0, [], rfl, by omega, Nat.zero_le _, rfl, by simp, Nat.le_refl _⟩, ?_⟩
  rintro k x ⟨i, n, out, rfl, rfl, hi, ho, hlen, hnn⟩; intro _; dsimp only [Zbko]; by_cases h1 : i < p.length
  case neg =>
    refine ifF (decide_eq_false (by omega)) ?_
    rw [List.drop_eq_nil_of_le (by omega)] at ho
    have e : Zbh [] n = [] := by cases n <;> rfl
    rw [e, List.append_nil] at ho; rw [ho]; exact h
  have hd : p.drop i = p[i] :: p.drop (i + 1) := List.drop_eq_getElem_cons h1; have hm := Zew (p := p) (s := p[i]) (List.getElem_mem h1); refine ifT (decide_eq_true (by omega)) ⟨by omega, by omega, AtN.of (by rw [Int.toNat_natCast]; exact List.getElem?_eq_getElem h1) fun _ => IfB.intro (fun h2 => ?_) (fun h2 => ?_)⟩
  . have h2 : n = 0 := by have := of_decide_eq_true h2; omega
    subst h2; have e : Zbh (p.drop i) 0 = [] := by cases p.drop i <;> rfl
    rw [e, List.append_nil] at ho; rw [ho]; exact h
  have h2 : 0 < n := by have := of_decide_eq_false h2; omega
  obtain ⟨m, rfl⟩ : ∃ m, n = m + 1 := ⟨n - 1, by omega⟩
  have hw : IntKind.wrap .i64 ((i : Int) + 1) = ((i + 1 : Nat) : Int) := by rw [Zg (by omega) (by omega)]; omega
  rw [hd] at ho; refine IfB.intro (fun h3 => ?_) (fun h3 => ?_)
  . unfold Zwy; rw [hw]; have e : Zbh (p[i] :: p.drop (i + 1)) (m + 1) = p[i] :: Zbh (p.drop (i + 1)) m := by simp only [Zbh]; rw [if_pos h3]
    rw [e] at ho; refine ⟨by simp only [List.length_cons, List.length_nil]; omega, p.length - (i + 1), by omega, i + 1, m, out ++ [p[i]], ?_, rfl, by omega, by rw [List.append_assoc]; exact ho, by simp only [List.length_append, List.length_cons, List.length_nil]; omega, by omega⟩
    rw [Zg (by omega) (by omega)]
    congr 1; omega
  . unfold Zwy; rw [hw]; have hmin : (min ((m + 1 : Nat) : Int) (p[i].2.length : Int)).toNat = min (m + 1) p[i].2.length := by omega
    rw [hmin]; have htk : p[i].2.take (min (m + 1) p[i].2.length) = p[i].2.take (m + 1) := by rcases Nat.le_total (m + 1) p[i].2.length with h4 | h4; rw [Nat.min_eq_left h4]; rw [Nat.min_eq_right h4, List.take_length, List.take_of_length_le h4]
    rw [htk]; have e : Zbh (p[i] :: p.drop (i + 1)) (m + 1) = (p[i].1, p[i].2.take (m + 1)) :: Zbh (p.drop (i + 1)) (m + 1 - min (m + 1) p[i].2.length) := by simp only [Zbh]; rw [if_neg (by rw [h3]; decide)]
    rw [e] at ho; refine ⟨by omega, by omega, by simp only [List.length_cons, List.length_nil]; omega, p.length - (i + 1), by omega, i + 1, m + 1 - min (m + 1) p[i].2.length, out ++ [(p[i].1, p[i].2.take (m + 1))], ?_, rfl, by omega, by rw [List.append_assoc]; exact ho, by simp only [List.length_append, List.length_cons, List.length_nil]; omega, by omega⟩
    rw [List.length_take, Zg (by omega) (by omega)]
    congr 1; omega
theorem Zoo : ∀ (p : List Seg) (n : Nat), (Zbh p n).length <= p.length ∧ cnt (Zbh p n) <= cnt p
  | [], n => by cases n <;> simp [Zbh, cnt]
  | s :: p, 0 => by simp [Zbh, cnt]
  | s :: p, n + 1 => by
    have e2 : cnt (s :: p) = s.2.length + cnt p := by simp [cnt]
    simp only [Zbh]; split
    . obtain ⟨h1, h2⟩ := Zoo p n; have e3 : cnt (s :: Zbh p n) = s.2.length + cnt (Zbh p n) := by simp [cnt]
      rw [e3, e2]; simp only [List.length_cons]; omega
    . obtain ⟨h1, h2⟩ := Zoo p (n + 1 - min (n + 1) s.2.length); have e3 : cnt ((s.1, s.2.take (n + 1)) :: Zbh p (n + 1 - min (n + 1) s.2.length)) = (s.2.take (n + 1)).length + cnt (Zbh p (n + 1 - min (n + 1) s.2.length)) := by simp [cnt]
      rw [e3, e2]; simp only [List.length_cons, List.length_take]; omega
theorem Zbpw (two four : List Seg) (K : List Seg -> Prop) (h2 : two.length + cnt two <= 1000000) (h4 : four.length + cnt four <= 1000000) (h : K (Zfe two four)) : Zsf two four K := by
  have l2 := Zjn two; have l4 := Zjn four; unfold Zsf; refine fun _ => Zih two _ (by omega) fun _ _ => Zih four _ (by omega) fun _ => ?_
  rw [Zg (n := (lenP two : Int) - (lenP four : Int)) (by omega) (by omega)]
  unfold Zfe at h; by_cases hlt : lenP two < lenP four; rw [if_pos hlt] at h; exact ifT (decide_eq_true (by omega)) fun _ => Zbaw two _ (by omega) fun _ => h
  rw [if_neg hlt] at h; have hsub : (lenP two : Int) - (lenP four : Int) = ((lenP two - lenP four : Nat) : Int) := by omega
  rw [hsub]; refine ifF (decide_eq_false (by omega)) fun _ => Zcmp two _ _ (by omega) (by omega) fun _ _ => Zbaw four _ (by omega) fun _ => ?_
  obtain ⟨f1, f2⟩ := Zoo two (lenP two - lenP four); generalize Zbh two (lenP two - lenP four) = out at *; have plain : Zcw out four = out ++ four -> Zld out four false K := fun e => by unfold Zld Zyb; rw [e] at h; exact ifF rfl ⟨by omega, h⟩
  rw [Zg (n := (out.length : Int) - 1) (by omega) (by omega)]
  rcases List.eq_nil_or_concat out with rfl | ⟨init, s, rfl⟩; exact ifF (by rfl) (plain rfl)
  have hlast : (init ++ [s]).getLast? = some s := by simp
  have hlen : (((init ++ [s]).length : Nat) : Int) - 1 = (init.length : Int) := by simp
  have hat : (init ++ [s])[init.length]? = some s := by simp
  rw [List.concat_eq_append] at *; rw [hlen]; refine ifT (decide_eq_true (by omega)) ?_
  cases four with
  | nil =>
    refine ifF (by rfl) (plain ?_)
    unfold Zcw; rw [hlast]
  | cons t rest =>
    refine ifT (decide_eq_true (by simp only [List.length_cons]; omega)) ⟨by omega, by simp only [List.length_append, List.length_cons, List.length_nil]; omega, ?_⟩
    rw [Int.toNat_natCast]; refine AtN.of hat fun _ => IfB.intro (fun h5 => ?_) (fun h5 => plain ?_)
    . refine ⟨by decide, by simp only [List.length_cons]; omega, AtN.of rfl fun _ => ?_⟩
      cases h6 : t.1 with
      | true =>
        refine plain ?_; unfold Zcw; rw [hlast]; simp only [h6, Bool.not_true, Bool.and_false, Bool.false_eq_true, if_false]
      | false =>
        have hg : Zcw (init ++ [s]) (t :: rest) = init ++ (s.1, s.2 ++ t.2) :: rest := by unfold Zcw; rw [hlast]; simp only [h5, h6, Bool.not_false, Bool.and_true, if_true, List.dropLast_concat]
        rw [hg] at h; have hs := Zew (p := init ++ [s]) (s := s) (by simp)
        have ht := Zew (p := t :: rest) (s := t) (by simp)
        unfold Zld; refine ifT rfl ?_; rw [Zg (n := (((init ++ [s]).length : Nat) : Int) - 1) (by omega) (by omega), hlen, Int.toNat_natCast]
        refine ⟨by omega, by simp only [List.length_append, List.length_cons, List.length_nil]; omega, AtN.of hat fun _ => ⟨by decide, by simp only [List.length_cons]; omega, AtN.of rfl fun _ _ => Zcnr [s.2, t.2] _ (by simp) (by simp; omega) fun _ => ⟨by omega, by simp only [List.length_append, List.length_cons, List.length_nil]; omega, AtN.of hat fun _ => ⟨by decide, by simp only [List.length_cons]; omega, ?_⟩⟩⟩⟩
        unfold Zyb; have e1 : (init ++ [s]).set init.length (s.1, [s.2, t.2].flatten) = init ++ [(s.1, s.2 ++ t.2)] := by rw [List.set_append_right _ _ (Nat.le_refl _), Nat.sub_self]; simp
        rw [e1]; refine ⟨by simp only [List.length_append, List.length_cons, List.length_nil, List.length_drop] at *; omega, of_eq h ?_⟩
        simp
    . have h5 : s.1 = true := by simpa using h5
      unfold Zcw; rw [hlast]; simp only [h5, Bool.not_true, Bool.false_and, Bool.false_eq_true, if_false]
end Go.Proofs.YtflfamhboalgiaaDoor
end
section
set_option maxRecDepth 10000
namespace Go.Proofs.YtflfamhboalgiaaDoor
open Go.Sh
theorem Zcfe {A : Type} [BEq A] [LawfulBEq A] {s t : List A} (h : ((s.length : Int) != (t.length : Int)) = true) : (s == t) = false := by refine beq_eq_false_iff_ne.2 fun e => ?_; subst e; simp at h
theorem Zbpd {A : Type} {s t : List A} (h : ((s.length : Int) != (t.length : Int)) = false) : s.length = t.length := by simp at h; omega
theorem Zclm (a : Nat) (h : a < 18446744073709551616) : IntKind.wrap .u64 (a : Int) = (a : Int) := by rw [Zoq]; omega
theorem mism {A : Type} [BEq A] [LawfulBEq A] {s t pre post : List A} {x y : A} (hs : s = pre ++ x :: post) (ht : t[pre.length]? = some y) (h : x ≠ y) : (s == t) = false := by
  refine beq_eq_false_iff_ne.2 fun e => h ?_; have h1 : s[pre.length]? = some x := by rw [hs]; simp
  rw [e, ht] at h1; cases h1; rfl
theorem ne32 (x y : UInt32) : ((x.toNat : Int) != (y.toNat : Int)) = !(x == y) := by
  by_cases h : x = y; subst h; simp
  . have h1 : (x.toNat : Int) ≠ y.toNat := fun e => h (UInt32.toNat_inj.1 (by omega))
    have h2 : (x == y) = false := beq_eq_false_iff_ne.2 h; rw [h2, bne_iff_ne.2 h1]; rfl
theorem Zblo {A : Type} {t pre : List A} {x : A} (hP : pre = t.take pre.length) (ht : t[pre.length]? = some x) : pre ++ [x] = t.take (pre ++ [x]).length := by rw [List.length_append, List.length_singleton, List.take_add_one, ht, ← hP]; rfl
theorem at_len {A : Type} {t : List A} {n : Nat} (h : n < t.length) : t[((n : Nat) : Int).toNat]? = some t[n] := by rw [Int.toNat_natCast]; exact List.getElem?_eq_getElem h
theorem Zbkt {A : Type} [BEq A] [LawfulBEq A] {s t : List A} (hP : s = t.take s.length) (hl : s.length = t.length) : (s == t) = true := by rw [hl, List.take_length] at hP; exact beq_iff_eq.2 hP
theorem Zpv (a : Nat) (h : a <= 9223372036854775807) : IntKind.wrap .i64 (a : Int) = (a : Int) := Zg (by omega) (by omega)
theorem Zbdj (c : UInt8) (s : List UInt8) : (spl c s).length <= s.length + 1 := by
  have h := Lib.splitB_length_le ⟨#[c]⟩ 0 (s.count c) ⟨s.toArray⟩; have h2 := congrArg List.length (Lib.splitB_data ⟨#[c]⟩ 0 (s.count c) ⟨s.toArray⟩); have h3 := Zcmj c (s.count c) s rfl; have h4 : s.count c <= s.length := List.count_le_length; rw [List.length_map] at h2; have h5 : (Lib.splitK [c] 0 (s.count c) s).length = (spl c s).length := by rw [h3]
  have h6 : (Lib.splitK (ByteArray.mk #[c]).data.toList 0 (s.count c) (ByteArray.mk s.toArray).data.toList) = Lib.splitK [c] 0 (s.count c) s := by simp
  rw [h6, h5] at h2; omega
theorem Zcsr (s : List UInt8) (n : Nat) (K : Int -> Bool -> Prop) (hn : n <= 18) (h1 : canon s -> s.length <= n -> K (val s) true) (h2 : ¬ (canon s ∧ s.length <= n) -> K 0 false) : Zbbb s n K := by
  unfold Zbbb; refine IfB.intro (fun h => ?_) (fun h => ?_); refine ifT rfl (h2 fun hc => ?_); exact hc.1.1 (by simpa using h)
  have hne : s ≠ [] := by simpa using h
  refine IfB.intro (fun h => ?_) (fun h => ?_); exact ifT rfl (h2 fun hc => by simp at h; omega)
  have hl : s.length <= n := by simp at h; omega
  have hj : ∀ b : Bool, (b = true -> 1 < s.length ∧ s[0]? = some 48) -> (b = false -> 1 < s.length -> s[0]? ≠ some 48) -> Zmg s b K := by
    intro b hb1 hb2; unfold Zmg; refine IfB.intro (fun hb => h2 fun hc => hc.1.2.2 (hb1 hb).1 (hb1 hb).2) (fun hb => ?_); have hz := hb2 hb; refine Zj.over s (fun pre => ((val pre : Int), (pre.length : Int), ())) (fun pre => (∀ x ∈ pre, 48 <= x.toNat ∧ x.toNat <= 57) ∧ val pre < 10 ^ pre.length) rfl ⟨by simp, by decide⟩ (fun pre x post hp hnn hP next hx => ?_) (fun hP next => ?_)
    . intro _; dsimp only [Zbaf]; have hx0 : s[((pre.length : Nat) : Int).toNat]? = some x := Zbf hp; have hb8 := Zcml x; have hpw : 10 ^ pre.length <= 10 ^ 17 := Nat.pow_le_pow_right (by decide) (by omega)
      refine ifT (decide_eq_true (by omega)) ⟨by omega, AtN.of hx0 (IfB.intro (fun hd => ?_) (fun hd => ⟨by omega, AtN.of hx0 ?_⟩))⟩
      . unfold Zwt; refine ifT rfl (h2 fun hc => ?_); have := hc.1.2.1 x (by rw [hp]; simp)
        simp at hd; omega
      . have hd1 : 48 <= x.toNat := by simp at hd; omega
        unfold Zwt; refine IfB.intro (fun hd2 => h2 fun hc => ?_) (fun hd2 => ⟨by omega, AtN.of hx0 (of_eq (hx ⟨fun y hy => ?_, ?_⟩) ?_)⟩)
        . have := hc.1.2.1 x (by rw [hp]; simp)
          simp at hd2; omega
        rcases List.mem_append.1 hy with hy | hy; exact hP.1 y hy; simp only [List.mem_singleton] at hy; subst hy; simp at hd2; omega; rw [Zun, List.length_append, List.length_singleton, Nat.pow_succ]; have := hP.2; simp at hd2; omega
        . have hd2 : x.toNat <= 57 := by simp at hd2; omega
          have := hP.2; have e0 : IntKind.wrap .i64 (10 * (val pre : Int)) = ((10 * val pre : Nat) : Int) := by rw [Zg (by omega) (by omega)]; omega
          have e2 : IntKind.wrap .i64 ((pre.length : Int) + 1) = ((pre.length + 1 : Nat) : Int) := by rw [Zg (by omega) (by omega)]; omega
          rw [Zun, show ((x.toNat : Int) - 48) = ((x.toNat - 48 : Nat) : Int) by omega, wu8m, Zpv _ (by omega), e0, e2, ← Int.natCast_add, Zpv _ (by omega)]
          have e1 : 10 * val pre + (x.toNat - 48) % 256 = 10 * val pre + (x.toNat - 48) := by omega
          rw [e1]; simp
    intro _; dsimp only [Zbaf]; exact ifF (decide_eq_false (by omega)) (h1 ⟨hne, hP.1, hz⟩ hl)
  refine IfB.intro (fun h => ?_) (fun h => hj false (fun h => by cases h) (fun _ h3 => by simp at h; omega))
  have hp0 : 0 < s.length := List.length_pos_iff.2 hne; have e0 : s[0]? = some s[0] := List.getElem?_eq_getElem hp0; refine ⟨by decide, AtN.of e0 (hj _ (fun hb => ⟨by simp at h; omega, ?_⟩) (fun hb _ => ?_))⟩
  . rw [e0]; simp at hb; have : s[0] = 48 := UInt8.toNat_inj.1 (by have : (48 : UInt8).toNat = 48 := rfl; omega)
    rw [this]
  . rw [e0]; simp at hb; intro e; injection e with e
    rw [e] at hb; exact hb rfl
theorem Zcmk (c : UInt8) (s : List UInt8) : ∃ t, s = t ++ (splG c ([], []) s).2 := by
  have : ∀ k (s : List UInt8), s.length = k -> ∃ t, s = t ++ (splG c ([], []) s).2 := by
    intro k; induction k with
    | zero => intro s h; exact ⟨[], by rw [List.eq_nil_of_length_eq_zero h]; rfl⟩
    | succ k ih =>
      intro s h; rcases List.eq_nil_or_concat s with rfl | ⟨u, x, rfl⟩; simp at h
      . rw [List.concat_eq_append] at *; obtain ⟨t, ht⟩ := ih u (by simp at h; omega)
        rw [Zbbp]; unfold splF; split; exact ⟨u ++ [x], by simp⟩
        refine ⟨t, ?_⟩; dsimp only; rw [← List.append_assoc, ← ht]
  exact this _ s rfl
theorem Zbnm (c : UInt8) (s : List UInt8) : (splG c ([], []) s).1.length <= s.length := by have := Zbdj c s; simp only [spl, List.length_append, List.length_singleton] at this; omega
theorem Zcvg (s : List UInt8) (c : UInt8) (K : List (List UInt8) -> Prop) (hl : s.length <= 1000000) (hk : K (spl c s)) : Zbfd s (c.toNat : Int) K := by
  unfold Zbfd; have hst : ∀ pre : List UInt8, (splG c ([], []) pre).2.length <= pre.length ∧ pre.drop (pre.length - (splG c ([], []) pre).2.length) = (splG c ([], []) pre).2 := by
    intro pre; obtain ⟨t, ht⟩ := Zcmk c pre; have h1 : pre.length = t.length + (splG c ([], []) pre).2.length := by conv => lhs; rw [ht, List.length_append]
    refine ⟨by omega, ?_⟩
    rw [show pre.length - (splG c ([], []) pre).2.length = t.length by omega]
    conv => lhs; rw [ht]
    exact List.drop_left
  refine Zj.over s (fun pre => ((splG c ([], []) pre).1, ((pre.length - (splG c ([], []) pre).2.length : Nat) : Int), (pre.length : Int), ())) (fun _ => True) rfl trivial (fun pre x post hp hn _ next hx => ?_) (fun _ next => ?_)
  . intro _; dsimp only [Zbeg]; have ht : s.take ((pre.length : Nat) : Int).toNat = pre := by rw [hp]; simp
    obtain ⟨h1, h2⟩ := hst pre; have h3 := Zbnm c pre; refine ifT (decide_eq_true (by omega)) ⟨by omega, AtN.of (Zbf hp) (IfB.intro (fun he => ⟨by omega, by omega, by omega, by omega, ?_, ?_⟩) (fun he => ?_))⟩
    simp only [List.length_singleton]; omega
    . have he : x = c := UInt8.toNat_inj.1 (by simp at he; omega)
      unfold Zxg; rw [ht, Int.toNat_natCast, h2]; refine of_eq (hx trivial) ?_; rw [Zbbp, splF, if_pos he, Zg (by omega) (by omega)]
      simp
    . have he : x ≠ c := fun e => by subst e; simp at he
      unfold Zxg; refine of_eq (hx trivial) ?_; rw [Zbbp, splF, if_neg he, Zg (by omega) (by omega)]
      simp
  . intro _; dsimp only [Zbeg]; obtain ⟨h1, h2⟩ := hst s; have h3 := Zbnm c s; refine ifF (decide_eq_false (by omega)) ⟨by omega, by omega, ?_, ?_⟩
    simp only [List.length_singleton]; omega; rw [Int.toNat_natCast, h2]; exact hk
theorem Zcqd (n : Nat) (K : List UInt8 -> Prop) (hn : n <= 4294967296) (hk : K (Lib.decDigits n)) : Zyp n K := by
  unfold Zyp; refine IfB.intro (fun h => ?_) (fun h => ?_)
  . have : n = 0 := by simpa using h
    subst this; rw [Zgr (by decide)] at hk; exact hk
  have h0 : n ≠ 0 := by simpa using h
  refine ⟨fun m y => ∃ s : List UInt8, y = (s, (m : Int), ()) ∧ s.length + m <= n ∧ ((m = 0 ∧ s = Lib.decDigits n) ∨ (0 < m ∧ Lib.decDigits n = Lib.decDigits m ++ s)), n, ⟨[], rfl, by simp, .inr ⟨by omega, by simp⟩⟩, ?_⟩
  rintro m y ⟨s, rfl, hb, hm⟩; intro _; dsimp only [Zbrw]; rcases hm with ⟨rfl, hs⟩ | ⟨hm, hd⟩
  . refine ifF rfl (ifF (decide_eq_false (by omega)) ?_)
    rw [hs]; exact hk
  . refine ifT (by simp; omega) ⟨by decide, ?_⟩
    rw [show Int.tmod (m : Int) 10 = ((m % 10 : Nat) : Int) from rfl]
    refine ifF (decide_eq_false (by omega)) ?_
    unfold Zbja; rw [show Int.tdiv (m : Int) 10 = ((m / 10 : Nat) : Int) from rfl, show (48 : Int) + ((m % 10 : Nat) : Int) = ((48 + m % 10 : Nat) : Int) by omega, Zpv _ (by omega), of8w, Zpv _ (by omega)]
    refine ⟨by simp only [List.length_singleton]; unfold Zi; omega, by decide, m / 10, by omega, _, rfl, ?_, ?_⟩
    rw [List.length_append, List.length_singleton]; omega
    . by_cases h2 : m < 10
      . left; refine ⟨by omega, ?_⟩
        rw [hd, Zgr h2, show m % 10 = m by omega]
      . right; refine ⟨by omega, ?_⟩
        rw [hd, Zjs h2]; simp
theorem Zcpl (s t : List Seg) (K : Bool -> Prop) (hl : s.length <= 9223372036854775807) (hs : ∀ x ∈ s, x.2.length <= 9223372036854775807) (h : K (s == t)) : Zhc s t K := by
  unfold Zhc; refine IfB.intro (fun h1 => of_eq h (Zcfe h1)) (fun h1 => ?_); have h1 := Zbpd h1; refine Zj.over s (fun pre => ((pre.length : Int), ())) (fun pre => pre = t.take pre.length) rfl rfl (fun pre x post hp hn hP next hx => ?_) (fun hP next _ => ?_)
  . intro _; dsimp only [Zbdv]; have hlt : pre.length < t.length := by omega
    have hty : t[pre.length]? = some t[pre.length] := List.getElem?_eq_getElem hlt; have hat := at_len hlt; have hxl := hs x (by simp [hp])
    generalize t[pre.length] = y at hty hat; have hne : ∀ (g : x ≠ y), K false := fun g => of_eq h (mism hp hty g); have hj : ∀ j : Bool, (j = true -> x ≠ y) -> (j = false -> x.1 = y.1 ∧ x.2.length = y.2.length) -> Zyg s t (pre.length : Int) next j K := fun j k1 k2 => by
      unfold Zyg; refine IfB.intro (fun g => hne (k1 g)) (fun g => ?_); obtain ⟨q1, q2⟩ := k2 g; refine Zj.over x.2 (fun l => ((l.length : Int), ())) (fun l => l = y.2.take l.length) rfl rfl (fun l z r hz hm hL next' hy => ?_) (fun hL next' _ => ?_)
      . intro _; dsimp only [Zbeh]; have hlt2 : l.length < y.2.length := by omega
        refine ⟨by omega, AtN.of (Zbf hp) fun _ => ifT (decide_eq_true (by omega)) ⟨by omega, AtN.of (Zbf hp) fun _ => ⟨by omega, AtN.of (Zbf hz) fun _ => ⟨by omega, AtN.of hat fun _ => ⟨by omega, AtN.of (at_len hlt2) fun _ => ?_⟩⟩⟩⟩⟩
        rw [ne32]; refine IfB.intro (fun g2 => hne fun e => ?_) (fun g2 => of_eq (hy ?_) ?_)
        . have g3 := mism hz (List.getElem?_eq_getElem hlt2) (by simpa using g2)
          rw [e] at g3; simp at g3
        exact Zblo hL (by rw [List.getElem?_eq_getElem hlt2]; congr 1; simpa using (by simpa using g2 : z = y.2[l.length]).symm)
        . rw [Zg (by omega) (by omega)]; simp
      . dsimp only [Zbeh]; refine ⟨by omega, AtN.of (Zbf hp) fun _ => ifF (decide_eq_false (by omega)) (of_eq (hx ?_) ?_)⟩
        have e2 : x.2 = y.2 := beq_iff_eq.1 (Zbkt hL q2); exact Zblo hP (by rw [hty]; congr 1; exact Prod.ext q1.symm e2.symm)
        . rw [Zg (by omega) (by omega)]; simp
    refine ifT (decide_eq_true (by omega)) ⟨by omega, AtN.of (Zbf hp) fun _ => ⟨by omega, AtN.of hat fun _ => ?_⟩⟩
    refine IfB.intro (fun g => hj true (fun _ e => by rw [e] at g; simp at g) (fun g => by cases g)) (fun g => ⟨by omega, AtN.of (Zbf hp) fun _ => ⟨by omega, AtN.of hat fun _ => hj _ (fun g2 e => by rw [e] at g2; simp at g2) (fun g2 => ⟨by simpa using g, Zbpd g2⟩)⟩⟩)
  dsimp only [Zbdv]; exact ifF (decide_eq_false (by omega)) (of_eq h (Zbkt hP h1))
theorem Zcol (x : Int) (n : Nat) (K : Int -> Prop) (hn : 1 <= n) (hn2 : n <= 1000000) (h : ∀ r : Nat, r < n -> K r) : Zuu x n K := by
  unfold Zuu; have e : IntKind.wrap .u64 (n : Int) = n := Zclm n (by omega)
  have h0 : 0 <= IntKind.wrap .u64 x := by rw [Zoq]; omega
  refine ifF (decide_eq_false (by omega)) ⟨by rw [e]; omega, ?_⟩
  rw [e]; obtain ⟨y, hy⟩ := Int.eq_ofNat_of_zero_le h0; rw [hy]; have e2 : Int.tmod (y : Int) (n : Int) = ((y % n : Nat) : Int) := rfl; have h1 := Nat.mod_lt y (show 0 < n by omega)
  rw [e2, Zpv _ (by omega)]
  exact h _ h1
def sysN (w : List UInt8) : Nat := if val w <= 4294967295 ∧ Lib.decDigits (val w) = w then val w else 0
theorem Zbba (w : List UInt8) : sysN w < 4294967296 := by unfold sysN; split <;> omega
theorem Zcof {n : Nat} (h : n < 18446744073709551616) : puR (Lib.decDigits n) = ((n : Int), true) := by
  have hne := Zls n; have e : Lib.parseUintB 64 (Lib.decDigits n) = .ok n := by
    unfold Lib.parseUintB; rw [if_neg hne, show (2 ^ 64 - 1 : Nat) = 18446744073709551615 from rfl, Lib.parseUintM_64, Zcab _ _ (Zst n) (by have := Zwf n; unfold val at this; omega)]
    have := Zwf n; unfold val at this; rw [this]
  unfold puR; rw [e]
theorem Zctv (s : List UInt8) : 0 <= (puR s).1 ∧ (puR s).1 < 18446744073709551616 := by
  unfold puR; split
  . rename_i v h; have : v < 18446744073709551616 := by unfold Lib.parseUintB at h; split at h; cases h; exact Zblm _ _ _ (by omega) h
    simp only; omega
  simp; simp
theorem Zccm (s : List UInt8) (K : Int -> Prop) (hl : s.length <= 1000000000) (h : K (sysN s)) : Zzs s K := by
  unfold Zzs; have hp := Zctv s; refine fun _ => ⟨rfl, rfl, by omega, fun _ => ?_⟩
  have zero : ¬ (val s <= 4294967295 ∧ Lib.decDigits (val s) = s) -> Zob (puR s).1 true K := fun hn => by unfold Zob; unfold sysN at h; rw [if_neg hn] at h; exact ifT rfl h
  have num : (val s <= 4294967295 ∧ Lib.decDigits (val s) = s) -> puR s = ((val s : Int), true) := fun hn => by
    have := Zcof (n := val s) (by omega)
    rw [hn.2] at this; exact this
  refine IfB.intro (fun h1 => zero fun hn => ?_) fun h1 => ?_; rw [num hn] at h1; cases h1; refine IfB.intro (fun h2 => zero fun hn => ?_) fun h2 => ?_; rw [num hn] at h2; have := of_decide_eq_true h2; omega; have h2 := of_decide_eq_false h2; refine fun _ => ⟨rfl, fun _ => ?_⟩; by_cases hn : val s <= 4294967295 ∧ Lib.decDigits (val s) = s
  . rw [num hn]; have e : (Lib.decDigits ((val s : Nat) : Int).toNat == s) = true := by rw [Int.toNat_natCast, hn.2]; simp
    simp only [e, Bool.not_true]; unfold Zob; refine ifF rfl ?_; unfold sysN at h; rw [if_pos hn] at h; rw [wu32 (by omega)]
    exact h
  . have e : (Lib.decDigits (puR s).1.toNat == s) = false := by
      refine beq_eq_false_iff_ne.2 fun e => hn ?_; have hv : val s = (puR s).1.toNat := by have := Zwf (puR s).1.toNat; rw [e] at this; exact this
      refine ⟨by omega, by rw [hv, e]⟩
    rw [e]; exact zero hn
def Zbn (w : List UInt8) : Bool := w.head? == some 123
def cutO (w : List UInt8) : List UInt8 := if Zbn w then w.drop 1 else w
def Zce (w : List UInt8) : Bool := w.getLast? == some 125
def cutC (w : List UInt8) : List UInt8 := if Zce w then w.dropLast else w
theorem Zcrk (s : List UInt8) (K : List UInt8 -> Bool -> Prop) (h : K (cutO s) (Zbn s)) : Zbed s [123] K := by
  unfold Zbed Zzu Zbfu; refine fun _ _ => IfB.intro (fun h1 => ⟨by decide, by have := of_decide_eq_true h1; simpa using this, fun _ => ?_⟩) fun h1 _ => ?_
  . have h1 : 1 <= s.length := by have := of_decide_eq_true h1; simp at this; omega
    cases s with
    | nil => simp at h1
    | cons x r =>
      have e : ((x :: r).take ([123] : List UInt8).length == [123]) = Zbn (x :: r) := by
        simp only [Zbn, List.length_singleton, List.take_succ_cons, List.take_zero, List.head?_cons]; by_cases hx : x = 123; subst hx; rfl
        . have h1 : ([x] == [(123 : UInt8)]) = false := by simp [hx]
          have h2 : (some x == some (123 : UInt8)) = false := by simp [hx]
          rw [h1, h2]
      rw [e]; unfold cutO at h; cases ho : Zbn (x :: r) with
      | true => rw [ho] at h; exact ifF rfl ⟨by decide, by simp only [List.length_cons, List.length_nil]; omega, fun _ => h⟩
      | false => rw [ho] at h; exact ifT rfl fun _ => h
  . have h1 : s = [] := by have := of_decide_eq_false h1; simp only [List.length_singleton] at this; exact List.eq_nil_of_length_eq_zero (by omega)
    subst h1; exact ifT rfl fun _ => h
theorem Zcod (s : List UInt8) (K : List UInt8 -> Bool -> Prop) (hl : s.length <= 1000000000) (h : K (cutC s) (Zce s)) : Zbbm s [125] K := by
  unfold Zbbm Zbcs Zbif; rcases List.eq_nil_or_concat s with rfl | ⟨r, x, rfl⟩; refine fun _ _ => ifF rfl fun _ => ifT rfl fun _ => h
  . rw [List.concat_eq_append] at *; have hlen : (r ++ [x]).length = r.length + 1 := by simp
    have ew : IntKind.wrap .i64 (((r ++ [x]).length : Int) - (([125] : List UInt8).length : Int)) = (r.length : Int) := by
      rw [hlen, List.length_singleton, Zg (by omega) (by omega)]; omega
    rw [ew]; refine fun _ _ => ifT (decide_eq_true (by rw [hlen, List.length_singleton]; omega)) ⟨by omega, by rw [hlen]; omega, fun _ => ?_⟩
    rw [Int.toNat_natCast, List.drop_left, List.take_left]; have hc : Zce (r ++ [x]) = ([x] == [(125 : UInt8)]) := by
      unfold Zce; rw [List.getLast?_concat]; by_cases hx : x = 125; subst hx; rfl
      . have h1 : ([x] == [(125 : UInt8)]) = false := by simp [hx]
        have h2 : (some x == some (125 : UInt8)) = false := by simp [hx]
        rw [h1, h2]
    unfold cutC at h; rw [hc] at h; have hd : (r ++ [x]).dropLast = r := by simp
    cases he : ([x] == [(125 : UInt8)]) with
    | true => rw [he, if_pos rfl, hd] at h; exact ifF rfl ⟨by omega, by rw [hlen]; omega, fun _ => h⟩
    | false => rw [he] at h; exact ifT rfl fun _ => h
def Zfc (p : List Seg) (n : Nat) : List Seg := match p.getLast? with
  | some s => p.dropLast ++ [(s.1, s.2 ++ [UInt32.ofNat n])]
  | none => p
def badW (b o c : Bool) (n : Nat) : Bool := n == 0 || (o && b) || (c && !b && !o)
def newW (p : List Seg) (b o : Bool) : Bool := o || (!b && (match p.getLast? with | some s => s.1 | none => true))
def Zbq (p : List Seg) (b o : Bool) : List Seg := if newW p b o then p ++ [(o, [])] else p
def stepW (st : List Seg × Bool) (w : List UInt8) : Option (List Seg × Bool) :=
  if badW st.2 (Zbn w) (Zce (cutO w)) (sysN (cutC (cutO w))) then none
  else some (Zfc (Zbq st.1 st.2 (Zbn w)) (sysN (cutC (cutO w))), (st.2 || Zbn w) && !(Zce (cutO w)))
def runW : List (List UInt8) -> List Seg × Bool -> Option (List Seg × Bool)
  | [], st => some st
  | w :: ws, st => match stepW st w with
    | some st' => runW ws st'
    | none => none
def Zct (s : List UInt8) : Option (List Seg) := if s = [] then some [] else match runW (spl 32 s) ([], false) with
  | some (p, false) => if Zo p then some p else none
  | _ => none
def psK (o : Option (List Seg)) (K : List Seg -> Int -> Prop) : Prop := match o with
  | some p => K p 0
  | none => K [] 5
theorem Zia (p : List Seg) (b : Bool) (l : List UInt32) (n : Nat) : Zfc (p ++ [(b, l)]) n = p ++ [(b, l ++ [UInt32.ofNat n])] := by simp [Zfc]
theorem Zut {p : List Seg} {b o : Bool} (h : p = [] -> b = false) : Zbq p b o ≠ [] := by unfold Zbq; split; simp; rename_i hn; intro e; subst e; have := h rfl; subst this; simp [newW] at hn
theorem Zbtf (p : List Seg) (b o : Bool) : cnt (Zbq p b o) = cnt p ∧ (Zbq p b o).length <= p.length + 1 := by
  unfold Zbq; split; exact ⟨by rw [Zds]; rfl, by simp⟩
  exact ⟨rfl, by omega⟩
theorem Zbkj {p : List Seg} (h : p ≠ []) (n : Nat) : cnt (Zfc p n) = cnt p + 1 ∧ (Zfc p n).length = p.length := by rcases List.eq_nil_or_concat p with rfl | ⟨q, s, rfl⟩; exact absurd rfl h; rw [List.concat_eq_append, Zia, Zds, Zds]; simp; omega
end Go.Proofs.YtflfamhboalgiaaDoor
end
