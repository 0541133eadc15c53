/-
  The law PackFew, plainly: of one group no two messages would fit in one, and no message is longer than may be. Conditions: none beyond those of the given statement.
-/
import Derived.Test.YtgdkenndkhnkdaaL33
set_option linter.unusedVariables false
set_option linter.unusedSimpArgs false
namespace Go.Proofs.Ytgdkenndkhnkdaa
open Go.Sh
theorem partsF_few {most s : Nat} (hs1 : s ≤ most) (P : Pf → Prop) : ∀ (l now : List Pf), (∀ p ∈ l, (prefB p).length = s ∧ P p) → (∀ p ∈ now, P p) → (putsB now).length ≤ most →
    (∀ x ∈ partsF most l now, x ≠ [] ∧ (putsB x).length ≤ most ∧ ∀ p ∈ x, P p) ∧ ∀ (i : Nat) x y, (partsF most l now)[i]? = some x → (partsF most l now)[i + 1]? = some y → most < (putsB x).length + s
  | [], [], _, _, _ => ⟨by simp [partsF], by simp [partsF]⟩
  | [], a :: now, _, hn, hm => ⟨by
      intro x hx
      simp only [partsF, List.mem_singleton] at hx
      subst hx
      exact ⟨by simp, hm, hn⟩, by simp [partsF]⟩
  | p :: r, now, hl, hn, hm => by
    have hp := hl p List.mem_cons_self
    have hr : ∀ q ∈ r, (prefB q).length = s ∧ P q := fun q hq => hl q (List.mem_cons_of_mem _ hq)
    have e1 : (putsB [p]).length = s := by simp [putsB, hp.1]
    simp only [partsF, hp.1]
    by_cases hc : most < (putsB now).length + s
    · rw [if_pos hc]
      obtain ⟨i1, i2⟩ := partsF_few hs1 P r [p] hr (by intro q hq; rw [List.mem_singleton] at hq; exact hq ▸ hp.2) (by omega)
      refine ⟨fun x hx => ?_, fun i x y hx hy => ?_⟩
      · rcases List.mem_cons.1 hx with rfl | hx
        · refine ⟨fun h => ?_, hm, hn⟩
          rw [h] at hc; simp [putsB] at hc; omega
        · exact i1 x hx
      · cases i with
        | zero => simp only [List.getElem?_cons_zero, Option.some.injEq] at hx; subst hx; exact hc
        | succ i => simp only [List.getElem?_cons_succ] at hx hy; exact i2 i x y hx hy
    · rw [if_neg hc]
      exact partsF_few hs1 P r (now ++ [p]) hr (by intro q hq; rcases List.mem_append.1 hq with hq | hq; exact hn q hq; rw [List.mem_singleton] at hq; exact hq ▸ hp.2) (by rw [putsB_snoc, List.length_append, hp.1]; omega)
theorem partsF_ne {most : Nat} : ∀ (l now : List Pf), l ≠ [] ∨ now ≠ [] → partsF most l now ≠ []
  | [], [], h => by simp at h
  | [], a :: now, _ => by simp [partsF]
  | p :: r, now, _ => by
    simp only [partsF]
    split
    · simp
    · exact partsF_ne r (now ++ [p]) (.inr (by simp))
theorem gone_len (x : List Pf) (hr : ∀ p ∈ x, rightP p = true) (hl : (putsB x).length ≤ 4073) : (msgU (goneU x) true).length = 23 + (putsB x).length := by
  have e : (updR (goneU x) true).1 = be2 (putsB x).length ++ putsB x ++ (be2 ([] : List UInt8).length ++ [] ++ putsB []) := by
    unfold updR
    have h1 : (goneU x).1 = x := rfl
    have h2 : (goneU x).2.1 = [] := rfl
    rw [h1, h2, List.all_eq_true.2 hr, if_pos (show (true && ([] : List Pf).all rightP) = true from rfl), if_neg (by simp)]
    unfold bodyF
    rw [if_neg (by simp [putsB] at hl ⊢; omega)]
  unfold msgU msgB
  rw [e]
  have e2 : (be2 (putsB x).length ++ putsB x ++ (be2 ([] : List UInt8).length ++ [] ++ putsB [])).length = 4 + (putsB x).length := by
    simp only [List.length_append, be2_length, List.length_nil, putsB, List.flatMap_nil]; omega
  rw [if_pos (by rw [e2]; omega)]
  simp only [List.length_append, List.length_replicate, List.length_cons, be2_length] at e2 ⊢
  omega
theorem told_len (x : List Pf) (c : Ch) (hx : x ≠ []) (ha : attrsOk (attrsOf c) = true) (hr : ∀ p ∈ x, rightP p = true) (hl : (putsB x).length + (attrsB true (attrsOf c)).length ≤ 4073) : (msgU (toldU x c) true).length = 23 + (attrsB true (attrsOf c)).length + (putsB x).length := by
  have e : (updR (toldU x c) true).1 = be2 (putsB []).length ++ putsB [] ++ (be2 (attrsB true (attrsOf c)).length ++ attrsB true (attrsOf c) ++ putsB x) := by
    unfold updR
    have h1 : (toldU x c).1 = [] := rfl
    have h2 : (toldU x c).2.1 = x := rfl
    have h3 : 0 < x.length := List.length_pos_iff.2 hx
    rw [h1, h2, toldU_attrs, List.all_eq_true.2 hr, if_pos (show (([] : List Pf).all rightP && true) = true from rfl), if_pos h3, if_pos ha]
    unfold bodyF
    rw [if_neg (by simp only [putsB, List.flatMap_nil, List.length_nil] at hl ⊢; omega)]
  unfold msgU msgB
  rw [e]
  have e2 : (be2 (putsB []).length ++ putsB [] ++ (be2 (attrsB true (attrsOf c)).length ++ attrsB true (attrsOf c) ++ putsB x)).length = 4 + ((attrsB true (attrsOf c)).length + (putsB x).length) := by
    simp only [List.length_append, be2_length, List.length_nil, putsB, List.flatMap_nil]; omega
  rw [if_pos (by rw [e2]; omega)]
  simp only [List.length_append, List.length_replicate, List.length_cons, be2_length] at e2 ⊢
  omega
def FewOk (s : Nat) (m : List (List UInt8)) : Prop := (∀ x ∈ m, x.length ≤ 4096) ∧ ∀ (i : Nat) x y, m[i]? = some x → m[i + 1]? = some y → 4096 < x.length + s
theorem few_map {s A most : Nat} (f : List Pf → List UInt8) (l : List Pf) (hA : most + A = 4073) (hs1 : s ≤ most) (hl : ∀ p ∈ l, (prefB p).length = s ∧ rightP p = true)
    (hf : ∀ x, x ≠ [] → (∀ p ∈ x, rightP p = true) → (putsB x).length ≤ most → (f x).length = 23 + A + (putsB x).length) : FewOk s ((partsF most l []).map f) := by
  obtain ⟨h1, h2⟩ := partsF_few hs1 (fun p => rightP p = true) l [] hl (by simp) (by simp [putsB])
  have h3 : ∀ x ∈ partsF most l [], (f x).length = 23 + A + (putsB x).length := fun x hx => hf x (h1 x hx).1 (h1 x hx).2.2 (h1 x hx).2.1
  refine ⟨fun x hx => ?_, fun i x y hx hy => ?_⟩
  · obtain ⟨z, hz, rfl⟩ := List.mem_map.1 hx
    have := h3 z hz
    have := (h1 z hz).2.1
    omega
  · rw [List.getElem?_map] at hx hy
    obtain ⟨u, hu, rfl⟩ := Option.map_eq_some_iff.1 hx
    obtain ⟨v, hv, rfl⟩ := Option.map_eq_some_iff.1 hy
    have := h3 u (List.mem_of_getElem? hu)
    have := h2 i u v hu hv
    omega
structure Uni (x : Ch) (told : Bool) (s : Nat) (c : Ch) : Prop where
  rt : rightP (chP c) = true
  ln : (prefB (chP c)).length = s
  at_ : attrsOf c = attrsOf x
  tl : isT c = told
theorem packF_gone {x : Ch} {s : Nat} {l : List Ch} (h : ∀ c ∈ l, Uni x false s c) (hs : s ≤ 100) : packF l true = ((partsF 4073 (l.map chP) []).map (fun y => msgU (goneU y) true), 0) ∧ FewOk s (packF l true).1 := by
  have e1 : l.all rightC = true := List.all_eq_true.2 fun c hc => by unfold rightC; rw [(h c hc).rt, (h c hc).tl]; rfl
  have e2 : l.filter isT = [] := List.filter_eq_nil_iff.2 fun c hc => by rw [(h c hc).tl]; simp
  have e3 : l.filter isG = l := List.filter_eq_self.2 fun c hc => by unfold isG; rw [(h c hc).tl]; rfl
  have e : packF l true = ((partsF 4073 (l.map chP) []).map (fun y => msgU (goneU y) true), 0) := by
    unfold packF goneM
    rw [e1, if_pos rfl, e2, e3, grpF_nil, List.flatMap_nil, List.append_nil]
  refine ⟨e, ?_⟩
  rw [e]
  refine few_map (A := 0) _ _ (by omega) (by omega) (fun p hp => ?_) fun y _ hr hy => ?_
  · obtain ⟨c, hc, rfl⟩ := List.mem_map.1 hp
    exact ⟨(h c hc).ln, (h c hc).rt⟩
  · have := gone_len y hr hy
    omega
theorem packF_told {x : Ch} {s : Nat} {c : Ch} {l : List Ch} (hc : Uni x true s c) (h : ∀ c ∈ l, Uni x true s c) (hs : s ≤ 100) (ha : attrsOk (attrsOf x) = true) : packF (c :: l) true = ((partsF (4073 - (attrsB true (attrsOf c)).length) ((c :: l).map chP) []).map (fun y => msgU (toldU y c) true), 0) ∧ FewOk s (packF (c :: l) true).1 := by
  have h' : ∀ d ∈ c :: l, Uni x true s d := fun d hd => by
    rcases List.mem_cons.1 hd with rfl | hd
    · exact hc
    · exact h d hd
  have e1 : (c :: l).all rightC = true := List.all_eq_true.2 fun d hd => by unfold rightC; rw [(h' d hd).rt, (h' d hd).tl, (h' d hd).at_, ha]; rfl
  have e2 : (c :: l).filter isT = c :: l := List.filter_eq_self.2 fun d hd => (h' d hd).tl
  have e3 : (c :: l).filter isG = [] := List.filter_eq_nil_iff.2 fun d hd => by unfold isG; rw [(h' d hd).tl]; simp
  have al : ∀ d ∈ l, alikeC c d = true := fun d hd => alike_iff.2 (by rw [hc.at_, (h d hd).at_])
  have e4 : grpF (c :: l) = [c :: l] := by
    rw [grpF_cons, List.filter_eq_self.2 al, List.filter_eq_nil_iff.2 fun d hd => by rw [al d hd]; simp]
    rw [grpF_nil]
  have e : packF (c :: l) true = ((partsF (4073 - (attrsB true (attrsOf c)).length) ((c :: l).map chP) []).map (fun y => msgU (toldU y c) true), 0) := by
    unfold packF goneM
    rw [e1, if_pos rfl, e2, e3, e4]
    simp only [List.map_nil, partsF, List.map_nil, List.nil_append, List.flatMap_cons, List.flatMap_nil, List.append_nil, grpM]
  refine ⟨e, ?_⟩
  rw [e]
  have ha' : attrsOk (attrsOf c) = true := by rw [hc.at_]; exact ha
  have hA := attrsB_le (four := true) ha'
  refine few_map (A := (attrsB true (attrsOf c)).length) _ _ (by omega) (by omega) (fun p hp => ?_) fun y hne hr hy => ?_
  · obtain ⟨d, hd, rfl⟩ := List.mem_map.1 hp
    exact ⟨(h' d hd).ln, (h' d hd).rt⟩
  · have := told_len y c hne ha' hr (by omega)
    omega
theorem among_c (x : Int) (n : Nat) (K : Int → Prop) (hn : 1 ≤ n) (hn2 : n ≤ 1000000) (h : ∀ r : Nat, r < n → K r) : base_Among_q x n K := by
  unfold base_Among_q
  have e : IntKind.wrap .u64 (n : Int) = n := wu64n n (by omega)
  have h0 : 0 ≤ IntKind.wrap .u64 x := by rw [wr_u64]; omega
  refine ifF (decide_eq_false (by omega)) ⟨by rw [e]; omega, ?_⟩
  rw [e]
  obtain ⟨y, hy⟩ := Int.eq_ofNat_of_zero_le h0
  rw [hy]
  have e2 : Int.tmod (y : Int) (n : Int) = ((y % n : Nat) : Int) := rfl
  have h1 := Nat.mod_lt y (show 0 < n by omega)
  rw [e2, wi64n _ (by omega)]
  exact h _ h1
theorem toNat_ofI (k : Nat) (h : k < 4294967296) : (ofI .u32 (k : Int) : UInt32).toNat = k := by
  have e : (ofI .u32 (k : Int) : UInt32) = UInt32.ofNat k := by simp [ofI]
  rw [e, UInt32.toNat_ofNat', Nat.mod_eq_of_lt (by omega)]
def mkC (x : Ch) (told : Bool) (m : Nat) (i : Nat) : Ch := (ofI .u32 (IntKind.wrap .u32 ((i : Int) * (2 ^ (32 - m) : Nat))), (m : Int), x.2.2.1, x.2.2.2.1, x.2.2.2.2.1, x.2.2.2.2.2.1, x.2.2.2.2.2.2.1, x.2.2.2.2.2.2.2.1, x.2.2.2.2.2.2.2.2.1, x.2.2.2.2.2.2.2.2.2.1, x.2.2.2.2.2.2.2.2.2.2.1, x.2.2.2.2.2.2.2.2.2.2.2.1, x.2.2.2.2.2.2.2.2.2.2.2.2.1, x.2.2.2.2.2.2.2.2.2.2.2.2.2.1, x.2.2.2.2.2.2.2.2.2.2.2.2.2.2.1, told)
theorem mk_uni (x : Ch) (told : Bool) (m i : Nat) (hm : m ≤ 32) : Uni x told (octs m + 1) (mkC x told m i) := by
  have hr : rightP (chP (mkC x told m i)) = true := by
    show right _ (m : Int) = true
    rw [right_iff]
    refine ⟨by omega, by omega, ?_⟩
    have e : (ofI .u32 (IntKind.wrap .u32 ((i : Int) * (2 ^ (32 - m) : Nat))) : UInt32).toNat = (i * 2 ^ (32 - m)) % 2 ^ 32 := by
      have : IntKind.wrap .u32 ((i : Int) * (2 ^ (32 - m) : Nat)) = (((i * 2 ^ (32 - m)) % 2 ^ 32 : Nat) : Int) := by
        rw [← Int.natCast_mul, wr_u32]; omega
      rw [this, toNat_ofI _ (by omega)]
    show (ofI .u32 (IntKind.wrap .u32 ((i : Int) * (2 ^ (32 - m) : Nat))) : UInt32).toNat % hostBits (m : Int).toNat = 0
    rw [e]
    unfold hostBits
    rw [Int.toNat_natCast, Nat.mod_mod_of_dvd _ (Nat.pow_dvd_pow 2 (by omega)), Nat.mul_mod_left]
  refine ⟨hr, ?_, rfl, rfl⟩
  rw [prefB_len hr]
  show 1 + octs (m : Int) = _
  omega
theorem packFew_q (n size : Int) (told : Bool) (a : Attrs) (hs : SzC ((0, 0, a.1, a.2.1, a.2.2.1, a.2.2.2.1, a.2.2.2.2.1, a.2.2.2.2.2.1, a.2.2.2.2.2.2.1, a.2.2.2.2.2.2.2.1, a.2.2.2.2.2.2.2.2.1, a.2.2.2.2.2.2.2.2.2.1, a.2.2.2.2.2.2.2.2.2.2.1, a.2.2.2.2.2.2.2.2.2.2.2.1, a.2.2.2.2.2.2.2.2.2.2.2.2, false) : Ch)) : law33_PackFew_q n size told a fun r => r = true := by
  unfold law33_PackFew_q
  simp only [ofI_u32]
  have e0 : (ofI .u32 0 : UInt32) = 0 := rfl
  rw [e0]
  generalize hx0 : ((0, 0, a.1, a.2.1, a.2.2.1, a.2.2.2.1, a.2.2.2.2.1, a.2.2.2.2.2.1, a.2.2.2.2.2.2.1, a.2.2.2.2.2.2.2.1, a.2.2.2.2.2.2.2.2.1, a.2.2.2.2.2.2.2.2.2.1, a.2.2.2.2.2.2.2.2.2.2.1, a.2.2.2.2.2.2.2.2.2.2.2.1, a.2.2.2.2.2.2.2.2.2.2.2.2, false) : Ch) = x0 at *
  refine fun _ => works_c _ fun _ => ifF rfl fun _ => among_c n 3000 _ (by decide) (by decide) fun n hn _ _ => among_c size 16 _ (by decide) (by decide) fun d hd _ _ => few_c [x0] 1 _ (by decide) (by simp) (fun c hc => by rw [List.mem_singleton] at hc; exact hc ▸ hs) fun _ => ?_
  have hfit := fit_few hs
  have e1 : ([x0].take 1).map fewC = [fewC x0] := rfl
  rw [e1]
  generalize fewC x0 = x at *
  refine ⟨by omega, by simp, AtN.of rfl fun _ => ?_⟩
  obtain ⟨m, hm⟩ : ∃ m : Nat, m = 9 + d := ⟨_, rfl⟩
  have w1 : IntKind.wrap .i64 (9 + (d : Int)) = (m : Int) := by rw [wr_i64 (by omega) (by omega)]; omega
  have w2 : IntKind.wrap .i64 (32 - (m : Int)) = ((32 - m : Nat) : Int) := by rw [wr_i64 (by omega) (by omega)]; omega
  have w3 : IntKind.wrap .u64 ((32 - m : Nat) : Int) = ((32 - m : Nat) : Int) := wu64n _ (by omega)
  have w4 : IntKind.wrap .u64 (m : Int) = (m : Int) := wu64n _ (by omega)
  have w5 : min ((32 - m : Nat) : Int).toNat (IntKind.bits .u32) = 32 - m := by rw [Int.toNat_natCast]; show min (32 - m) 32 = _; omega
  have w6 : min (m : Int).toNat (IntKind.bits .i64) = m := by rw [Int.toNat_natCast]; show min m 64 = _; omega
  refine LoopJ.over (List.range n) (fun pre => (pre.map (mkC x told m), (pre.length : Int), ())) (fun _ => True) rfl trivial (fun pre i post hp hl _ next hx => ?_) (fun _ next _ => ?_)
  · intro _
    dsimp only [law33_PackFew_l7]
    rw [List.length_range] at hl
    have hi : i = pre.length := by
      have h1 : (List.range n)[pre.length]? = some i := by rw [hp]; simp
      rw [List.getElem?_range (by omega)] at h1; exact (Option.some.inj h1).symm
    simp only [w1, w2, w3, w5, ofI_u32]
    refine ifT (decide_eq_true (by omega)) ⟨by omega, by simp only [List.length_map, List.length_cons, List.length_nil]; omega, of_eq (hx trivial) ?_⟩
    have w7 : IntKind.wrap .u32 (pre.length : Int) = (pre.length : Int) := by rw [wr_u32]; omega
    have w8 : ((2 : Int) ^ (32 - m)) = ((2 ^ (32 - m) : Nat) : Int) := by rw [Int.natCast_pow]; rfl
    rw [w7, w8, wr_i64 (by omega) (by omega), List.map_append, hi]
    simp only [List.map_cons, List.map_nil, List.length_append, List.length_cons, List.length_nil, mkC]
    rfl
  · dsimp only [law33_PackFew_l7]
    refine ifF (decide_eq_false (by simp)) ?_
    simp only [w1, w4, w6, ofI_u32]
    obtain ⟨N, w8, hpm⟩ : ∃ N : Nat, ((2 : Int) ^ m) = (N : Int) ∧ N ≤ 16777216 := ⟨2 ^ m, by rw [Int.natCast_pow]; rfl, Nat.pow_le_pow_right (n := 2) (by decide) (show m ≤ 24 by omega)⟩
    have w9 : IntKind.wrap .i64 (1 * 2 ^ m) = (N : Int) := by rw [w8, Int.one_mul, wr_i64 (by omega) (by omega)]
    rw [w9]
    obtain ⟨k, hk, hk2⟩ : ∃ k : Nat, min (n : Int) (N : Int) = k ∧ k ≤ n := ⟨min n N, by omega, by omega⟩
    rw [hk, Int.toNat_natCast]
    have hu : ∀ c ∈ ((List.range n).map (mkC x told m)).take k, Uni x told (octs m + 1) c := fun c hc => by
      obtain ⟨i, _, rfl⟩ := List.mem_map.1 (List.mem_of_mem_take hc)
      exact mk_uni x told m i (by omega)
    refine ⟨by omega, by omega, by simp only [List.length_map, List.length_range]; omega, ?_⟩
    have hlen : (((List.range n).map (mkC x told m)).take k).length ≤ 3000 := by simp only [List.length_take, List.length_map, List.length_range]; omega
    generalize hL : ((List.range n).map (mkC x told m)).take k = l at *
    have hfa : ∀ c ∈ l, FitA (attrsOf c) := fun c hc => by rw [(hu c hc).at_]; exact hfit.1
    refine fun _ => pack_Pack_c l true _ (by omega) hfa fun hw => ?_
    have ho : octs (m : Int) + 1 ≤ 100 := by have : octs (m : Int) = (m + 7) / 8 := rfl; omega
    have key : (told = true → attrsOk (attrsOf x) = true ∨ l = []) → (packF l true).2 = 0 ∧ FewOk (octs m + 1) (packF l true).1 ∧ ((packF l true).1 = [] ↔ l = []) := fun hok => by
      cases told with
      | false =>
        obtain ⟨h1, h2⟩ := packF_gone hu ho
        refine ⟨by rw [h1], h2, ?_⟩
        rw [h1]
        cases l with
        | nil => simp [partsF]
        | cons c r =>
          simp only [List.map_eq_nil_iff]
          exact ⟨fun h => absurd h (partsF_ne _ _ (.inl (by simp))), fun h => by simp at h⟩
      | true =>
        cases l with
        | nil =>
          have : packF [] true = ([], 0) := by unfold packF goneM; simp [partsF, grpF_nil]
          rw [this]
          exact ⟨rfl, ⟨by simp, by simp⟩, by simp⟩
        | cons c r =>
          have hatt : attrsOk (attrsOf x) = true := (hok rfl).resolve_right (by simp)
          obtain ⟨h1, h2⟩ := packF_told (hu c List.mem_cons_self) (fun d hd => hu d (List.mem_cons_of_mem _ hd)) ho hatt
          refine ⟨by rw [h1], h2, ?_⟩
          rw [h1]
          simp only [List.map_eq_nil_iff]
          exact ⟨fun h => absurd h (partsF_ne _ _ (.inl (by simp))), fun h => by simp at h⟩
    have hml : (packF l true).1.length ≤ 9223372036854775807 := by
      have : WfE (.lst [.lst [.int .u8]]) (packF l true).1 := hw.1
      simp only [WfE] at this
      exact this.1
    have hne : (packF l true).2 ≠ 0 → told = true ∧ attrsOk (attrsOf x) = false := fun h => by
      cases ht : told with
      | false => exact absurd (key (fun h2 => by rw [ht] at h2; simp at h2)).1 h
      | true =>
        refine ⟨rfl, ?_⟩
        cases hb : attrsOk (attrsOf x) with
        | false => rfl
        | true => exact absurd (key (fun _ => .inl hb)).1 h
    refine IfB.intro (fun he => ?_) (fun he => ?_)
    · obtain ⟨ht, hb⟩ := hne (by simpa using he)
      refine ifT ht fun _ => ref20_Check_c (attrsOf x) _ hfit.1.p1 hfit.1.p2 hfit.1.o1 fun _ => ?_
      rw [hb]; rfl
    · have he : (packF l true).2 = 0 := by simpa using he
      have hr : l.all rightC = true := by
        cases h : l.all rightC with
        | true => rfl
        | false => unfold packF at he; rw [h] at he; simp at he
      obtain ⟨_, hF, hE⟩ := key fun ht => by
        cases l with
        | nil => exact .inr rfl
        | cons c r =>
          refine .inl ?_
          have h1 := (rights hr c List.mem_cons_self).2 (by rw [(hu c List.mem_cons_self).tl]; exact ht)
          rw [(hu c List.mem_cons_self).at_] at h1; exact h1
      generalize packF l true = r at *
      refine LoopJ.over r.1 (fun pre => ((pre.length : Int), ())) (fun _ => True) rfl trivial (fun pre y post hp hn _ next hx => ?_) (fun _ next _ => ?_)
      · intro _
        dsimp only [law33_PackFew_l15]
        have hnext : law33_PackFew_j0 d ((List.range n).map (mkC x told m)) n r.1 (pre.length : Int) next false fun r => r = true := by
          unfold law33_PackFew_j0
          refine ifF rfl (of_eq (hx trivial) ?_)
          rw [wr_i64 (by omega) (by omega)]; simp
        have hy := hF.1 y (by rw [hp]; simp)
        refine ifT (decide_eq_true (by omega)) ⟨by omega, by omega, AtN.of (at_pre hp) fun _ => ifF (decide_eq_false (by omega)) (IfB.intro (fun hpos => ?_) (fun _ => hnext))⟩
        have hpos : 0 < pre.length := by have := of_decide_eq_true hpos; omega
        have w10 : IntKind.wrap .i64 ((pre.length : Int) - 1) = ((pre.length - 1 : Nat) : Int) := by rw [wr_i64 (by omega) (by omega)]; omega
        rw [w10, Int.toNat_natCast]
        obtain ⟨z, hz⟩ : ∃ z, r.1[pre.length - 1]? = some z := ⟨_, List.getElem?_eq_getElem (by omega)⟩
        refine ⟨by omega, by omega, AtN.of hz fun _ => ⟨by decide, ?_⟩⟩
        have hyy : r.1[pre.length - 1 + 1]? = some y := by rw [Nat.sub_add_cancel hpos]; exact at_pre hp
        have h2 := hF.2 _ z y hz hyy
        have hzl : z.length ≤ 4096 := hF.1 z (List.mem_of_getElem? hz)
        have hoc : octs (m : Int) = (m + 7) / 8 := rfl
        rw [w1, wr_i64 (n := (m : Int) + 7) (by omega) (by omega), Int.tdiv_eq_ediv_of_nonneg (by omega), wr_i64 (n := ((m : Int) + 7) / 8) (by omega) (by omega), wr_i64 (n := (z.length : Int) + ((m : Int) + 7) / 8) (by omega) (by omega), wr_i64 (by omega) (by omega)]
        rw [decide_eq_false (p := (z.length : Int) + ((m : Int) + 7) / 8 + 1 ≤ 4096) (by omega)]
        exact hnext
      · dsimp only [law33_PackFew_l15]
        refine ifF (decide_eq_false (by omega)) ?_
        rw [w1, w4, w6, w9, hk, Int.toNat_natCast, hL]
        cases l with
        | nil => rw [hE.2 rfl]; rfl
        | cons c t =>
          have : r.1 ≠ [] := fun h => by have := hE.1 h; simp at this
          cases hr1 : r.1 with
          | nil => exact absurd hr1 this
          | cons u v =>
            have h1 : ((((u :: v).length : Nat) : Int) == 0) = false := beq_eq_false_iff_ne.2 (by simp only [List.length_cons]; omega)
            have h2 : ((((c :: t).length : Nat) : Int) == 0) = false := beq_eq_false_iff_ne.2 (by simp only [List.length_cons]; omega)
            rw [h1, h2]; rfl
end Go.Proofs.Ytgdkenndkhnkdaa
