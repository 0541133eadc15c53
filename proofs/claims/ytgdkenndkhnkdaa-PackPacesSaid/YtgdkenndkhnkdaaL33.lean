/-
  Groups by likeness, and prefixes in lists: the program's, the document's, and plainly.
  Packing (layer 33): what the program packs, and the document.
  Packing (layer 33): what the document packs.
  The law: any changes are packed as the document says, or refused.
-/
import Derived.Test.YtgdkenndkhnkdaaP33
set_option linter.unusedVariables false
set_option linter.unusedSimpArgs false
namespace Go.Proofs.Ytgdkenndkhnkdaa
open Go.Sh
theorem perh_iff {i w : Bool} {x y : UInt32} : perh i w (x == y) = true ↔ i = w ∧ (if i then x else 0) = (if w then y else 0) := by
  cases i <;> cases w <;> simp [perh]
theorem perh_iff2 {i w : Bool} {x y u v : UInt32} : perh i w (x == y && u == v) = true ↔ i = w ∧ (if i then x else 0) = (if w then y else 0) ∧ (if i then u else 0) = (if w then v else 0) := by
  cases i <;> cases w <;> simp [perh]
def keyA (a : Attrs) : Attrs := (a.origin, a.path, a.next, a.hasMed, (if a.hasMed then a.med else 0), a.hasLocal, (if a.hasLocal then a.loc else 0), a.atomic, a.hasMaker, (if a.hasMaker then a.makerAS else 0), (if a.hasMaker then a.maker else 0), a.comms, a.others)
theorem sameA_iff {a b : Attrs} : sameA a b = true ↔ keyA a = keyA b := by
  unfold sameA keyA
  simp only [Bool.and_eq_true, perh_iff, perh_iff2, beq_iff_eq, Prod.mk.injEq]
  constructor
  · rintro ⟨h1, h2, h3, ⟨h4, h5⟩, ⟨h6, h7⟩, ⟨h8, h9, h10⟩, h11, h12, h13⟩
    exact ⟨h1, h11, h2, h4, h5, h6, h7, h3, h8, h9, h10, h12, h13⟩
  · rintro ⟨h1, h11, h2, h4, h5, h6, h7, h3, h8, h9, h10, h12, h13⟩
    exact ⟨h1, h2, h3, ⟨h4, h5⟩, ⟨h6, h7⟩, ⟨h8, h9, h10⟩, h11, h12, h13⟩
theorem alike_iff {c d : Ch} : alikeC c d = true ↔ keyA (attrsOf c) = keyA (attrsOf d) := sameA_iff
theorem bool_ext {a b : Bool} (h : a = true ↔ b = true) : a = b := by cases a <;> cases b <;> simp_all
theorem alike_left {c d : Ch} (h : alikeC c d = true) (e : Ch) : alikeC e c = alikeC e d := bool_ext (by rw [alike_iff, alike_iff, alike_iff.1 h])
theorem lkH_left {g : List Ch} {c d : Ch} (h : alikeC c d = true) : lkH g c = lkH g d := by
  cases g with
  | nil => rfl
  | cons x r => exact alike_left h x
def grpF : List Ch → List (List Ch)
  | [] => []
  | x :: r => (x :: r.filter fun y => alikeC x y) :: grpF (r.filter fun y => !alikeC x y)
  termination_by l => l.length
  decreasing_by
    simp only [List.length_cons]
    refine Nat.lt_succ_of_le ?_
    rw [List.length_unattach]
    exact Nat.le_trans (List.length_filter_le _ _) (by rw [List.length_attach]; exact Nat.le_refl _)
theorem grpF_nil : grpF [] = [] := by rw [grpF]
theorem grpF_cons (x : Ch) (r : List Ch) : grpF (x :: r) = (x :: r.filter fun y => alikeC x y) :: grpF (r.filter fun y => !alikeC x y) := by rw [grpF]
def Apart (out : List (List Ch)) : Prop := out.Pairwise fun g h => ∀ x, lkH g x = true → lkH h x = false
theorem gPut_any {x : Ch} : ∀ {out : List (List Ch)}, Apart out → (out.any fun g => lkH g x) = true → gPut x out = out.map fun g => if lkH g x then g ++ [x] else g
  | [], _, h => by simp at h
  | g :: r, hd, h => by
    obtain ⟨h1, h2⟩ := List.pairwise_cons.1 hd
    simp only [gPut, List.map_cons]
    cases hg : lkH g x with
    | true =>
      have : r.map (fun g => if lkH g x = true then g ++ [x] else g) = r.map id := List.map_congr_left fun g' hg' => by rw [h1 g' hg' x hg]; rfl
      simp only [if_true]
      rw [this, List.map_id]
    | false =>
      simp only [List.any_cons, hg, Bool.false_or] at h
      rw [gPut_any h2 h]; rfl
theorem gPut_none {x : Ch} : ∀ {out : List (List Ch)}, (out.any fun g => lkH g x) = false → gPut x out = out ++ [[x]]
  | [], _ => rfl
  | g :: r, h => by
    simp only [List.any_cons, Bool.or_eq_false_iff] at h
    simp only [gPut, h.1, List.cons_append]
    rw [gPut_none h.2]
theorem lkH_app {g : List Ch} (h : g ≠ []) (x y : Ch) : lkH (g ++ [x]) y = lkH g y := by
  cases g with
  | nil => exact absurd rfl h
  | cons => rfl
theorem fold_grp : ∀ (l : List Ch) (out : List (List Ch)), (∀ g ∈ out, g ≠ []) → Apart out →
    l.foldl (fun out x => gPut x out) out = (out.map fun g => g ++ l.filter fun y => lkH g y) ++ grpF (l.filter fun y => !(out.any fun g => lkH g y))
  | [], out, _, _ => by simp [grpF_nil]
  | x :: r, out, hne, hd => by
    rw [List.foldl_cons]
    cases hx : (out.any fun g => lkH g x) with
    | true =>
      rw [gPut_any hd hx]
      have hh : ∀ g ∈ out, ∀ y, lkH (if lkH g x then g ++ [x] else g) y = lkH g y := fun g hg y => by
        split
        · exact lkH_app (hne g hg) x y
        · rfl
      have A1 : ∀ g ∈ out.map (fun g => if lkH g x then g ++ [x] else g), g ≠ [] := fun g hg => by
        obtain ⟨g', hg', rfl⟩ := List.mem_map.1 hg
        split
        · simp
        · exact hne g' hg'
      have A2 : Apart (out.map fun g => if lkH g x then g ++ [x] else g) := by
        unfold Apart
        rw [List.pairwise_map]
        refine List.Pairwise.imp_of_mem (fun {a b} ha hb hab y hy => ?_) hd
        rw [hh a ha y] at hy
        rw [hh b hb y]
        exact hab y hy
      rw [fold_grp r _ A1 A2]
      · congr 1
        · rw [List.map_map]
          refine List.map_congr_left fun g hg => ?_
          show (if lkH g x = true then g ++ [x] else g) ++ r.filter (fun y => lkH (if lkH g x = true then g ++ [x] else g) y) = _
          have : (fun y => lkH (if lkH g x = true then g ++ [x] else g) y) = fun y => lkH g y := funext fun y => hh g hg y
          rw [this, List.filter_cons]
          split
          · simp
          · rfl
        · congr 1
          rw [List.filter_cons, hx]
          simp only [Bool.not_true, Bool.false_eq_true, if_false]
          refine List.filter_congr fun y _ => ?_
          congr 1
          rw [List.any_map]
          refine bool_ext ?_
          simp only [List.any_eq_true, Function.comp_apply]
          constructor
          · rintro ⟨g, hg, h⟩; exact ⟨g, hg, by rw [hh g hg y] at h; exact h⟩
          · rintro ⟨g, hg, h⟩; exact ⟨g, hg, by rw [hh g hg y]; exact h⟩
    | false =>
      rw [gPut_none hx]
      have hx' : ∀ g ∈ out, lkH g x = false := fun g hg => by
        cases h : lkH g x with
        | false => rfl
        | true => rw [List.any_eq_true.2 ⟨g, hg, h⟩] at hx; cases hx
      have A1 : ∀ g ∈ out ++ [[x]], g ≠ [] := fun g hg => by
        rcases List.mem_append.1 hg with h | h
        · exact hne g h
        · rw [List.mem_singleton] at h; subst h; simp
      have A2 : Apart (out ++ [[x]]) := List.pairwise_append.2 ⟨hd, List.pairwise_singleton _ _, fun a ha b hb y hy => by
        rw [List.mem_singleton] at hb; subst hb
        show alikeC x y = false
        cases h : alikeC x y with
        | false => rfl
        | true => rw [← lkH_left h, hx' a ha] at hy; cases hy⟩
      rw [fold_grp r _ A1 A2]
      · rw [List.map_append, List.append_assoc, List.filter_cons, hx]
        simp only [Bool.not_false, if_true]
        rw [grpF_cons]
        congr 1
        · refine List.map_congr_left fun g hg => ?_
          rw [List.filter_cons, hx' g hg]; rfl
        · show ([x] ++ r.filter (fun y => alikeC x y)) :: grpF _ = _
          congr 1
          · show x :: _ = _
            congr 1
            rw [List.filter_filter]
            refine List.filter_congr fun y _ => ?_
            cases hy : alikeC x y with
            | false => rfl
            | true =>
              have : (out.any fun g => lkH g y) = false := by
                rw [List.any_eq_false]; intro g hg
                rw [← lkH_left hy, hx' g hg]; simp
              rw [this]; rfl
          · congr 1
            rw [List.filter_filter]
            refine List.filter_congr fun y _ => ?_
            rw [List.any_append]
            show (!((out.any fun g => lkH g y) || (alikeC x y || false))) = _
            rw [Bool.or_false, Bool.not_or, Bool.and_comm]
theorem groupsX_eq (l : List Ch) : groupsX l = grpF l := by
  unfold groupsX
  rw [fold_grp l [] (by simp) List.Pairwise.nil]
  have : (l.filter fun y => !(([] : List (List Ch)).any fun g => lkH g y)) = l := List.filter_eq_self.2 fun y _ => rfl
  rw [this]; rfl
theorem grpF_mem : ∀ (n : Nat) (l : List Ch), l.length ≤ n → ∀ g ∈ grpF l, g ≠ [] ∧ (∀ c ∈ g, c ∈ l) ∧ g.length ≤ l.length
  | _, [], _, g, hg => by rw [grpF_nil] at hg; simp at hg
  | 0, _ :: _, h, _, _ => by simp at h
  | n + 1, x :: r, h, g, hg => by
    rw [grpF_cons] at hg
    rcases List.mem_cons.1 hg with rfl | hg
    · have := List.length_filter_le (fun y => alikeC x y) r
      refine ⟨by simp, fun c hc => ?_, by simp only [List.length_cons]; omega⟩
      rcases List.mem_cons.1 hc with rfl | hc
      · exact List.mem_cons_self
      · exact List.mem_cons_of_mem _ ((List.mem_filter.1 hc).1)
    · have h2 := List.length_filter_le (fun y => !alikeC x y) r
      simp only [List.length_cons] at h
      obtain ⟨q1, q2, q3⟩ := grpF_mem n _ (by omega) g hg
      exact ⟨q1, fun c hc => List.mem_cons_of_mem _ ((List.mem_filter.1 (q2 c hc)).1), by simp only [List.length_cons]; omega⟩
theorem grpF_len : ∀ (n : Nat) (l : List Ch), l.length ≤ n → (grpF l).length ≤ l.length
  | _, [], _ => by rw [grpF_nil]; simp
  | 0, _ :: _, h => by simp at h
  | n + 1, x :: r, h => by
    rw [grpF_cons]
    have h2 := List.length_filter_le (fun y => !alikeC x y) r
    simp only [List.length_cons] at h ⊢
    have := grpF_len n (r.filter fun y => !alikeC x y) (by omega)
    omega
theorem sizeZ_right {p : Pf} (h : rightP p = true) : sizeZ p = ((prefB p).length : Int) := by
  have := rightP_len h
  rw [prefB_len h]
  unfold sizeZ octs
  rw [wr_i64 (n := p.2 + 7) (by omega) (by omega), Int.tdiv_eq_ediv_of_nonneg (by omega), wr_i64 (n := (p.2 + 7) / 8) (by omega) (by omega), wr_i64 (by omega) (by omega)]
  omega
theorem prefB_pos (p : Pf) : 1 ≤ (prefB p).length := by simp [prefB]
def partsF (most : Nat) : List Pf → List Pf → List (List Pf)
  | [], now => match now with
    | [] => []
    | _ :: _ => [now]
  | p :: r, now => if most < (putsB now).length + (prefB p).length then now :: partsF most r [p] else partsF most r (now ++ [p])
theorem partsY_eq {most : Nat} (hm : most ≤ 100000) : ∀ (l now : List Pf) (n : Int), (∀ p ∈ l, rightP p = true) → n = ((putsB now).length : Int) → (putsB now).length ≤ 200000 → partsY (most : Int) l now n = partsF most l now
  | [], now, n, _, _, _ => by cases now <;> rfl
  | p :: r, now, n, hr, hn, hb => by
    have hp := hr p List.mem_cons_self
    have hs := sizeZ_right hp
    have h1 := prefB_le p
    have h2 := prefB_pos p
    simp only [partsY, partsF]
    rw [hs, hn, wr_i64 (n := ((putsB now).length : Int) + ((prefB p).length : Int)) (by omega) (by omega), wr_i64 (n := 0 + ((prefB p).length : Int)) (by omega) (by omega)]
    have e1 : (putsB [p]).length = (prefB p).length := by simp [putsB]
    by_cases hc : most < (putsB now).length + (prefB p).length
    · rw [if_pos (by omega), if_pos hc, partsY_eq hm r [p] _ (fun q hq => hr q (List.mem_cons_of_mem _ hq)) (by rw [e1]; omega) (by omega)]
    · rw [if_neg (by omega), if_neg hc, partsY_eq hm r (now ++ [p]) _ (fun q hq => hr q (List.mem_cons_of_mem _ hq)) (by rw [putsB_snoc, List.length_append]; omega) (by rw [putsB_snoc, List.length_append]; omega)]
theorem partsF_len {most : Nat} : ∀ (l now : List Pf), (partsF most l now).length ≤ l.length + 1 ∧ ∀ x ∈ partsF most l now, x.length ≤ now.length + l.length
  | [], now => by cases now <;> simp [partsF]
  | p :: r, now => by
    simp only [partsF]
    split
    · obtain ⟨q1, q2⟩ := partsF_len (most := most) r [p]
      refine ⟨by simp only [List.length_cons]; omega, fun x hx => ?_⟩
      rcases List.mem_cons.1 hx with rfl | hx
      · simp only [List.length_cons]; omega
      · have := q2 x hx
        simp only [List.length_cons, List.length_nil] at this ⊢; omega
    · obtain ⟨q1, q2⟩ := partsF_len (most := most) r (now ++ [p])
      refine ⟨by simp only [List.length_cons]; omega, fun x hx => ?_⟩
      have := q2 x hx
      simp only [List.length_cons, List.length_append, List.length_nil] at this ⊢; omega
end Go.Proofs.Ytgdkenndkhnkdaa
set_option linter.unusedVariables false
set_option linter.unusedSimpArgs false
namespace Go.Proofs.Ytgdkenndkhnkdaa
open Go.Sh
theorem EachJ.over {T X : Type} {fin : T → Prop} {body : T → X → (T → Prop) → Prop} (S : List X → T) : ∀ (post pre : List X), (∀ pre' x post', pre ++ post = pre' ++ x :: post' → ∀ next : T → Prop, next (S (pre' ++ [x])) → body (S pre') x next) → fin (S (pre ++ post)) → EachJ fin body post (S pre)
  | [], pre, _, he => by rw [List.append_nil] at he; exact he
  | x :: r, pre, hr, he => by
    have e : pre ++ x :: r = (pre ++ [x]) ++ r := by simp
    exact hr pre x r rfl _ (EachJ.over S r (pre ++ [x]) (fun pre' y post' h => hr pre' y post' (by rw [e]; exact h)) (by rw [← e]; exact he))
theorem of_eqX {T X : Type} {fin : T → Prop} {body : T → X → (T → Prop) → Prop} {xs ys : List X} {y : T} (e : xs = ys) (h : EachJ fin body ys y) : EachJ fin body xs y := e ▸ h
theorem of_eqE {T X : Type} {fin : T → Prop} {body : T → X → (T → Prop) → Prop} {xs : List X} {x y : T} (e : y = x) (h : EachJ fin body xs y) : EachJ fin body xs x := e ▸ h
def isT (c : Ch) : Bool := c.2.2.2.2.2.2.2.2.2.2.2.2.2.2.2
def isG (c : Ch) : Bool := !isT c
def rightC (c : Ch) : Bool := rightP (chP c) && (!isT c || attrsOk (attrsOf c))
theorem right_pc (c : Ch) (K : Bool → Prop) (hf : FitA (attrsOf c)) (h : K (rightC c)) : pack_right_q c K := by
  unfold pack_right_q
  simp only [ofI_u32]
  unfold rightC at h
  refine fun _ => right_c c.1 c.2.1 _ fun _ => IfB.intro (fun h1 => ?_) (fun h1 => ?_)
  · have h1 : rightP (chP c) = true := h1
    rw [h1, Bool.true_and] at h
    refine IfB.intro (fun h2 => ?_) (fun h2 _ => ?_)
    · have h2 : isT c = false := by simpa [isT] using h2
      rw [h2] at h; exact h
    · have h2 : isT c = true := by simpa [isT] using h2
      rw [h2] at h
      refine attr_Check_c (attrsOf c) _ hf.p1 hf.p2 hf.o1 fun _ => of_eq h ?_
      cases attrsOk (attrsOf c) <;> rfl
  · have h1 : rightP (chP c) = false := h1
    rw [h1] at h; exact h
def goneU (x : List Pf) : Upd := (x, [], 0, [], 0, false, 0, false, 0, false, false, 0, 0, [], [], 0)
def toldU (x : List Pf) (c : Ch) : Upd := ([], x, c.2.2.1, c.2.2.2.1, c.2.2.2.2.1, c.2.2.2.2.2.1, c.2.2.2.2.2.2.1, c.2.2.2.2.2.2.2.1, c.2.2.2.2.2.2.2.2.1, c.2.2.2.2.2.2.2.2.2.1, c.2.2.2.2.2.2.2.2.2.2.1, c.2.2.2.2.2.2.2.2.2.2.2.1, c.2.2.2.2.2.2.2.2.2.2.2.2.1, c.2.2.2.2.2.2.2.2.2.2.2.2.2.1, c.2.2.2.2.2.2.2.2.2.2.2.2.2.2.1, 0)
theorem toldU_attrs (x : List Pf) (c : Ch) : updAttrs (toldU x c) = attrsOf c := rfl
def goneM (l : List Ch) (four : Bool) : List (List UInt8) := (partsF 4073 ((l.filter isG).map chP) []).map fun x => msgU (goneU x) four
def grpM (four : Bool) (g : List Ch) : List (List UInt8) := match g with
  | [] => []
  | c :: _ => (partsF (4073 - (attrsB four (attrsOf c)).length) (g.map chP) []).map fun x => msgU (toldU x c) four
def packF (l : List Ch) (four : Bool) : List (List UInt8) × Int :=
  if l.all rightC then (goneM l four ++ (grpF (l.filter isT)).flatMap (grpM four), 0) else ([], 2)
theorem fit0 (x : List Pf) : FitA (updAttrs (goneU x)) := ⟨by simp [updAttrs, goneU, Attrs.path], by simp [updAttrs, goneU, Attrs.path, cnt], by simp [updAttrs, goneU, Attrs.path], by simp [updAttrs, goneU, Attrs.others]⟩
theorem goneM_len (l : List Ch) (four : Bool) : (goneM l four).length ≤ l.length + 1 := by
  unfold goneM
  rw [List.length_map]
  obtain ⟨q1, _⟩ := partsF_len (most := 4073) ((l.filter isG).map chP) []
  have := List.length_filter_le isG l
  rw [List.length_map] at q1
  omega
theorem grpM_len (four : Bool) (g : List Ch) : (grpM four g).length ≤ g.length + 1 := by
  unfold grpM
  cases g with
  | nil => simp
  | cons c r =>
    simp only
    rw [List.length_map]
    obtain ⟨q1, _⟩ := partsF_len (most := 4073 - (attrsB four (attrsOf c)).length) ((c :: r).map chP) []
    rw [List.length_map] at q1
    exact q1
theorem flat_len {n : Nat} (four : Bool) : ∀ (gs : List (List Ch)), (∀ g ∈ gs, g.length ≤ n) → (gs.flatMap (grpM four)).length ≤ gs.length * (n + 1)
  | [], _ => by simp
  | g :: r, h => by
    have h1 := grpM_len four g
    have h2 := flat_len four r fun g' hg => h g' (List.mem_cons_of_mem _ hg)
    have h3 := h g List.mem_cons_self
    rw [List.flatMap_cons, List.length_append, List.length_cons, Nat.succ_mul]
    omega
theorem rights {l : List Ch} (h : l.all rightC = true) : ∀ c ∈ l, rightP (chP c) = true ∧ (isT c = true → attrsOk (attrsOf c) = true) := fun c hc => by
  have := List.all_eq_true.1 h c hc
  unfold rightC at this
  rw [Bool.and_eq_true] at this
  refine ⟨this.1, fun ht => ?_⟩
  have h2 := this.2
  rw [ht] at h2; simpa using h2
theorem rightsP {l : List Ch} (h : ∀ c ∈ l, rightP (chP c) = true) : ∀ p ∈ l.map chP, rightP p = true := fun p hp => by
  obtain ⟨c, hc, rfl⟩ := List.mem_map.1 hp
  exact h c hc
theorem partsX_eq {most : Nat} (hm : most ≤ 100000) (l : List Ch) (hr : ∀ c ∈ l, rightP (chP c) = true) : partsX l (most : Int) = (partsF most (l.map chP) []).map fun x => (x, ()) := by
  unfold partsX
  rw [partsY_eq hm _ [] 0 (rightsP hr) (by simp [putsB]) (by simp [putsB])]
theorem map_pair {A B : Type} (xs : List A) (f : A → B) : (xs.map fun x => (x, ())).map (fun y => f y.1) = xs.map f := by rw [List.map_map]; rfl
theorem pack_Pack_c (l : List Ch) (four : Bool) (K : List (List UInt8) → Int → Prop) (hl : l.length ≤ 1000000) (hf : ∀ c ∈ l, FitA (attrsOf c)) (h : K (packF l four).1 (packF l four).2) : pack_Pack_q l four K := by
  unfold pack_Pack_q
  refine LoopJ.over l (fun pre => (pre.filter isG, pre.filter isT, (pre.length : Int), ())) (fun pre => pre.all rightC = true) rfl rfl (fun pre c post hp hn hP next hx => ?_) (fun hP next _ => ?_)
  · intro _
    dsimp only [pack_Pack_l3]
    have f1 := List.length_filter_le isG pre
    have f2 := List.length_filter_le isT pre
    simp only [ofI_u32]
    refine ifT (decide_eq_true (by omega)) ⟨by omega, AtN.of (at_pre hp) fun _ _ => right_pc c _ (hf c (by simp [hp])) fun _ => ?_⟩
    refine IfB.intro (fun h1 => ?_) (fun h1 => ?_)
    · have : l.all rightC = false := by
        have h1 : rightC c = false := by simpa using h1
        rw [hp]; simp [h1]
      unfold packF at h
      rw [this] at h; exact h
    · have h1 : rightC c = true := by simpa using h1
      have hP2 : (pre ++ [c]).all rightC = true := by simp [hP, h1]
      refine IfB.intro (fun h2 => ⟨by simp only [List.length_cons, List.length_nil]; omega, ?_⟩) (fun h2 => ⟨by simp only [List.length_cons, List.length_nil]; omega, ?_⟩)
      · have h2 : isT c = true := h2
        dsimp only [pack_Pack_j0]
        refine of_eq (hx hP2) ?_
        rw [wr_i64 (by omega) (by omega), List.filter_append, List.filter_append, List.filter_cons_of_neg (by simp [isG, h2]), List.filter_cons_of_pos (by simp [isG, h2])]
        simp
      · have h2 : isT c = false := h2
        dsimp only [pack_Pack_j0]
        refine of_eq (hx hP2) ?_
        rw [wr_i64 (by omega) (by omega), List.filter_append, List.filter_append, List.filter_cons_of_pos (by simp [isG, h2]), List.filter_cons_of_neg (by simp [isG, h2])]
        simp
  · dsimp only [pack_Pack_l3]
    refine ifF (decide_eq_false (by omega)) ?_
    unfold packF at h
    rw [hP, if_pos rfl] at h
    have hrt := rights hP
    have f1 := List.length_filter_le isG l
    have f2 := List.length_filter_le isT l
    refine ⟨by show (l.filter isG).length ≤ 1000000000; omega, ?_⟩
    have hgl := goneM_len l four
    have hx : it_parts.xs (l.filter isG, (4073 : Int), ()) = (partsF 4073 ((l.filter isG).map chP) []).map fun x => (x, ()) :=
      partsX_eq (by decide) _ fun c hc => (hrt c (List.mem_filter.1 hc).1).1
    refine of_eqX hx ?_
    have hg : goneM l four = (partsF 4073 ((l.filter isG).map chP) []).map fun x => msgU (goneU x) four := rfl
    obtain ⟨_, pl⟩ := partsF_len (most := 4073) ((l.filter isG).map chP) []
    rw [List.length_map] at pl
    generalize partsF 4073 ((l.filter isG).map chP) [] = xs at hg pl
    refine EachJ.over (fun pre : List (List Pf × Unit) => (pre.map fun y => msgU (goneU y.1) four, ())) _ [] (fun pre x post hp next hn => ?_) ?_
    · intro _ _
      rw [List.nil_append] at hp
      dsimp only [pack_Pack_l4000013]
      have hxm : x.1 ∈ xs := by
        have : x ∈ xs.map fun x => (x, ()) := by rw [hp]; simp
        obtain ⟨y, hy, rfl⟩ := List.mem_map.1 this
        exact hy
      have hpl : pre.length ≤ xs.length := by
        have := congrArg List.length hp
        simp only [List.length_map, List.length_append, List.length_cons] at this
        omega
      have hxl := pl _ hxm
      have hgx : xs.length ≤ l.length + 1 := by rw [hg, List.length_map] at hgl; exact hgl
      refine fun _ => message_c (goneU x.1) four _ (by show x.1.length ≤ _; simp only [List.length_nil] at hxl; omega) (by show ([] : List Pf).length ≤ _; simp) (fit0 _) fun _ => ⟨by simp only [List.length_map, List.length_cons, List.length_nil]; omega, of_eq hn ?_⟩
      simp
    · intro _
      rw [List.nil_append, map_pair xs (fun x => msgU (goneU x) four), ← hg]
      dsimp only [pack_Pack_e4000013]
      refine fun _ => ⟨by omega, ?_⟩
      rw [groupsX_eq]
      have hgm := grpF_mem _ (l.filter isT) (Nat.le_refl _)
      have hgn := grpF_len _ (l.filter isT) (Nat.le_refl _)
      generalize grpF (l.filter isT) = gs at h hgm hgn
      intro _
      refine LoopJ.over gs (fun pre => ((pre.length : Int), goneM l four ++ pre.flatMap (grpM four), ())) (fun _ => True) (by simp) trivial (fun pre g post hp hn _ next hx => ?_) (fun _ next _ => ?_)
      · intro _
        dsimp only [pack_Pack_l16]
        obtain ⟨g1, g2, g3⟩ := hgm g (by simp [hp])
        have hfl := flat_len (n := l.length) four pre fun g' hg' => by
          obtain ⟨_, _, q3⟩ := hgm g' (by rw [hp]; simp [hg'])
          omega
        have hpn : pre.length ≤ 1000000 := by omega
        have hfl2 : (pre.flatMap (grpM four)).length ≤ 1000000 * 1000001 := Nat.le_trans hfl (Nat.mul_le_mul hpn (by omega))
        cases g with
        | nil => exact absurd rfl g1
        | cons c r =>
          have hcl : c ∈ l := (List.mem_filter.1 (g2 c List.mem_cons_self)).1
          have hct : isT c = true := (List.mem_filter.1 (g2 c List.mem_cons_self)).2
          have hok := (hrt c hcl).2 hct
          have hal := attrsB_le (four := four) hok
          have hfc := hf c hcl
          simp only [ofI_u32]
          refine ifT (decide_eq_true (by omega)) ⟨by omega, AtN.of (at_pre hp) fun _ => ⟨by omega, AtN.of (x := c) rfl fun _ _ => ?_⟩⟩
          refine attr_Put_c (attrsOf c) four _ hfc.p1 hfc.p2 hfc.p3 hfc.o1 ?_
          rw [hok, if_pos rfl]
          refine fun _ => ⟨by show (c :: r).length ≤ 1000000000; omega, ?_⟩
          have e1 : IntKind.wrap .i64 (4073 - ((attrsB four (attrsOf c)).length : Int)) = ((4073 - (attrsB four (attrsOf c)).length : Nat) : Int) := by
            rw [wr_i64 (by omega) (by omega)]; omega
          rw [e1]
          have hx2 : it_parts.xs (c :: r, ((4073 - (attrsB four (attrsOf c)).length : Nat) : Int), ()) = (partsF (4073 - (attrsB four (attrsOf c)).length) ((c :: r).map chP) []).map fun x => (x, ()) :=
            partsX_eq (by omega) _ fun d hd => (hrt d (List.mem_filter.1 (g2 d hd)).1).1
          refine of_eqX hx2 ?_
          obtain ⟨pn, pl⟩ := partsF_len (most := 4073 - (attrsB four (attrsOf c)).length) ((c :: r).map chP) []
          rw [List.length_map] at pl pn
          have hgm2 : grpM four (c :: r) = (partsF (4073 - (attrsB four (attrsOf c)).length) ((c :: r).map chP) []).map fun x => msgU (toldU x c) four := rfl
          generalize partsF (4073 - (attrsB four (attrsOf c)).length) ((c :: r).map chP) [] = xs at hgm2 pl pn
          refine of_eqE (y := (((goneM l four ++ pre.flatMap (grpM four)) ++ ([] : List (List Pf × Unit)).map fun y => msgU (toldU y.1 c) four), ())) (by simp) (EachJ.over (fun pre2 : List (List Pf × Unit) => ((goneM l four ++ pre.flatMap (grpM four)) ++ pre2.map fun y => msgU (toldU y.1 c) four, ())) _ [] (fun pre2 x post2 hp2 next2 hn2 => ?_) ?_)
          · intro _ _
            rw [List.nil_append] at hp2
            dsimp only [pack_Pack_l4000021]
            have hxm : x.1 ∈ xs := by
              have : x ∈ xs.map fun x => (x, ()) := by rw [hp2]; simp
              obtain ⟨y, hy, rfl⟩ := List.mem_map.1 this
              exact hy
            have hpl : pre2.length ≤ xs.length := by
              have := congrArg List.length hp2
              simp only [List.length_map, List.length_append, List.length_cons] at this
              omega
            have hxl := pl _ hxm
            simp only [List.length_cons, List.length_nil] at hxl pn g3
            simp only [ofI_u32]
            refine fun _ => message_c (toldU x.1 c) four _ (by show ([] : List Pf).length ≤ _; simp) (by show x.1.length ≤ _; omega) (by rw [toldU_attrs]; exact hfc) fun _ => ⟨by simp only [List.length_append, List.length_map, List.length_cons, List.length_nil]; omega, of_eq hn2 ?_⟩
            simp
          · intro _
            dsimp only [pack_Pack_e4000021]
            refine of_eq (hx trivial) ?_
            rw [wr_i64 (by omega) (by omega), List.nil_append, map_pair xs (fun x => msgU (toldU x c) four), ← hgm2]
            simp
      · dsimp only [pack_Pack_l16]
        exact ifF (decide_eq_false (by omega)) h
end Go.Proofs.Ytgdkenndkhnkdaa
set_option linter.unusedVariables false
set_option linter.unusedSimpArgs false
namespace Go.Proofs.Ytgdkenndkhnkdaa
open Go.Sh
end Go.Proofs.Ytgdkenndkhnkdaa
set_option linter.unusedVariables false
set_option linter.unusedSimpArgs false
namespace Go.Proofs.Ytgdkenndkhnkdaa
open Go.Sh
def wA : Ch := (167772160, 8, 0, [], 1, false, 0, false, 0, false, false, 0, 0, [], [], true)
def wB : Ch := (184549376, 8, 0, [], 1, false, 0, false, 0, false, false, 0, 0, [], [], true)
theorem w_right : [wA, wB].all rightC = true := by decide
theorem w_pack : (packF [wA, wB] true).2 = 0 ∧ (packF [wA, wB] true).1.length = 1 := by
  unfold packF
  rw [w_right, if_pos rfl]
  refine ⟨rfl, ?_⟩
  have h1 : [wA, wB].filter isT = [wA, wB] := rfl
  have h2 : goneM [wA, wB] true = [] := rfl
  have h3 : ([wB].filter fun y => alikeC wA y) = [wB] := rfl
  have h4 : ([wB].filter fun y => !alikeC wA y) = [] := rfl
  rw [h1, h2, grpF_cons, h3, h4, grpF_nil]
  rfl
theorem works_c (K : Bool → Prop) (h : K true) : law33_works_q K := by
  unfold law33_works_q
  have hfit : ∀ c ∈ [wA, wB], FitA (attrsOf c) := fun c hc => by
    rcases List.mem_cons.1 hc with rfl | hc
    · exact ⟨by decide, by decide, by decide, by decide⟩
    · rw [List.mem_singleton] at hc; subst hc
      exact ⟨by decide, by decide, by decide, by decide⟩
  refine fun _ => pack_Pack_c [wA, wB] true _ (by decide) hfit fun _ => ?_
  obtain ⟨h1, h2⟩ := w_pack
  rw [h1, h2]
  refine ifT rfl (ifT rfl fun _ => ?_)
  unfold pack_End_q
  refine fun _ => message_c (goneU []) true _ (by decide) (by decide) (fit0 _) fun _ _ _ => rmessage_c (goneU []) true _ (by decide) (by decide) (fit0 _) fun _ _ => ?_
  unfold base_SameBytes_q
  rw [beq_self_eq_true]
  exact fun _ => h
end Go.Proofs.Ytgdkenndkhnkdaa
