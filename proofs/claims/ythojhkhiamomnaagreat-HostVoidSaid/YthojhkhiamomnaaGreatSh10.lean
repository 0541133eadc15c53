/-
  A region whose order is drawn: one order that the edges allow stands for all.
-/
import Derived.Test.YthojhkhiamomnaaGreatSh9
namespace Go.Sh
variable {D : List Deferred} {r : Option Nat}

theorem masks_prefix : ∀ (os : List Oper) (acc : List Nat), ∃ t, masks os acc = acc ++ t ∧ t.length = os.length
  | [], acc => ⟨[], by simp [masks]⟩
  | o :: os, acc => by
    obtain ⟨t, ht, hl⟩ := masks_prefix os (acc ++ [(preds o).foldl (fun s p => s ||| 2 ^ p ||| acc.getD p 0) 0])
    exact ⟨_ :: t, by rw [masks, ht]; simp; rfl, by simp [hl]⟩

theorem fold_bits (f : Nat → Nat) (j : Nat) : ∀ (l : List Nat) (s : Nat), (l.foldl (fun s p => s ||| 2 ^ p ||| f p) s).testBit j = true → s.testBit j = true ∨ ∃ p ∈ l, j = p ∨ (f p).testBit j = true := by
  intro l
  induction l with
  | nil => exact fun s h => .inl h
  | cons p l ih =>
    intro s h
    rcases ih _ h with h | ⟨q, hq, hj⟩
    · simp only [Nat.testBit_or, Bool.or_eq_true] at h
      rcases h with (h | h) | h
      · exact .inl h
      · refine .inr ⟨p, List.mem_cons_self, .inl ?_⟩
        rw [Nat.testBit_two_pow] at h
        exact (of_decide_eq_true h).symm
      · exact .inr ⟨p, List.mem_cons_self, .inr h⟩
    · exact .inr ⟨q, List.mem_cons_of_mem _ hq, hj⟩

theorem masks_bit : ∀ (os : List Oper) (acc : List Nat) (k : Nat) (o : Oper), os[k]? = some o → ∀ j, ((masks os acc).getD (acc.length + k) 0).testBit j = true →
    ∃ p ∈ preds o, j = p ∨ ((masks os acc).getD p 0).testBit j = true
  | [], acc, k, o, hk, j, h => by simp at hk
  | o' :: os, acc, 0, o, hk, j, h => by
    simp at hk; subst hk
    rw [masks] at h ⊢
    obtain ⟨t, ht, _⟩ := masks_prefix os (acc ++ [(preds o').foldl (fun s p => s ||| 2 ^ p ||| acc.getD p 0) 0])
    rw [ht] at h ⊢
    have hv : ((acc ++ [(preds o').foldl (fun s p => s ||| 2 ^ p ||| acc.getD p 0) 0]) ++ t).getD (acc.length + 0) 0 = (preds o').foldl (fun s p => s ||| 2 ^ p ||| acc.getD p 0) 0 := by
      simp [List.getD_eq_getElem?_getD]
    rw [hv] at h
    rcases fold_bits (fun p => acc.getD p 0) j _ _ h with h | ⟨p, hp, h⟩
    · simp at h
    · refine ⟨p, hp, h.imp_right fun h => ?_⟩
      have hlt : p < acc.length := by
        rcases Nat.lt_or_ge p acc.length with hl | hl
        · exact hl
        · rw [List.getD_eq_getElem?_getD, List.getElem?_eq_none hl] at h; simp at h
      have : ((acc ++ [(preds o').foldl (fun s p => s ||| 2 ^ p ||| acc.getD p 0) 0]) ++ t).getD p 0 = acc.getD p 0 := by
        simp [List.getD_eq_getElem?_getD, List.getElem?_append, hlt]
      rw [this]; exact h
  | o' :: os, acc, k + 1, o, hk, j, h => by
    rw [masks] at h ⊢
    refine masks_bit os _ k o (by simpa using hk) j ?_
    simpa [Nat.add_assoc, Nat.add_comm 1 k] using h

def reachB (M : List Nat) (e i : Nat) : Bool := (M.getD i 0).testBit e

def swapB (r s : Nat) : Bool := match r with
  | 0 => true
  | 1 => Nat.ble s 2 || Nat.beq s 5
  | 2 => Nat.ble s 3
  | 5 => Nat.ble s 1 || Nat.beq s 5
  | _ => false

def pairB (P : Program) (C : List Tmp) (all : Array Oper) (M : List Nat) (e i : Nat) : Bool :=
  reachB M e i || (match all.toList[e]?, all.toList[i]? with
    | some x, some y => apartB all x y && swapB (rankC P C x) (rankC P C y)
    | _, _ => false)

def pairsB (P : Program) (C : List Tmp) (all : Array Oper) (M : List Nat) : List Nat → Bool
  | [] => true
  | e :: l => l.all (fun i => pairB P C all M e i) && pairsB P C all M l

def predsB : Nat → List Oper → Bool
  | _, [] => true
  | i, o :: os => (preds o).all (Nat.blt · i) && predsB (i + 1) os

def uniqB : List Nat → Bool
  | [] => true
  | e :: l => !(memB e l) && uniqB l

/-- All that must be seen of a region's operations, and of the order that stands for all. -/
def drawOk (P : Program) (C : List Tmp) (all : Array Oper) (l : List Nat) : Bool :=
  uniqB l && Nat.beq l.length all.size && (List.range all.size).all (memB · l) && l.all (Nat.blt · all.size) && predsB 0 all.toList && pairsB P C all (masks all.toList []) l

theorem predsB_spec : ∀ (os : List Oper) (i : Nat), predsB i os = true → ∀ k o, os[k]? = some o → ∀ p ∈ preds o, p < i + k
  | [], i, _, k, o, hk, p, hp => by simp at hk
  | o' :: os, i, h, 0, o, hk, p, hp => by
    simp at hk; subst hk
    simp only [predsB, Bool.and_eq_true] at h
    have := List.all_eq_true.1 h.1 p hp
    simpa using this
  | o' :: os, i, h, k + 1, o, hk, p, hp => by
    simp only [predsB, Bool.and_eq_true] at h
    have := predsB_spec os (i + 1) h.2 k o (by simpa using hk) p hp
    omega

theorem pairsB_split {P : Program} {C : List Tmp} {all : Array Oper} {M : List Nat} : ∀ (l1 : List Nat) (i : Nat) (l2 : List Nat), pairsB P C all M (l1 ++ i :: l2) = true →
    (∀ e ∈ l1, pairB P C all M e i = true) ∧ pairsB P C all M (l1 ++ l2) = true
  | [], i, l2, h => by
    simp only [List.nil_append, pairsB, Bool.and_eq_true] at h
    exact ⟨by simp, h.2⟩
  | e :: l1, i, l2, h => by
    simp only [List.cons_append, pairsB, Bool.and_eq_true] at h
    obtain ⟨h1, h2⟩ := h
    obtain ⟨h3, h4⟩ := pairsB_split l1 i l2 h2
    have h1' := List.all_eq_true.1 h1
    refine ⟨fun e' he' => ?_, ?_⟩
    · rcases List.mem_cons.1 he' with rfl | he'
      · exact h1' i (by simp)
      · exact h3 e' he'
    · simp only [List.cons_append, pairsB, Bool.and_eq_true]
      refine ⟨List.all_eq_true.2 fun x hx => h1' x ?_, h4⟩
      simp at hx ⊢
      rcases hx with hx | hx
      · exact .inl hx
      · exact .inr (.inr hx)

def opsAt (all : Array Oper) (l : List Nat) : List Oper := l.filterMap fun i => all.toList[i]?

theorem wpAny_of {P : Program} {S} {I : Heap → Prop} {C : List Tmp} (hS : Sound P S I) (hR : Ranked S (rankC P C)) {n : Nat} {all : Array Oper} {Q : Exit → Act → World → Prop} {K : Env → Heap → Prop} {w0 : World}
    (hin : all.toList.all (opIn n all) = true) (hpred : predsB 0 all.toList = true) (hQ : ∀ ρ a w, Fits n D ρ a → I (hp w) → K ρ (hp w) → Rest w0 w → Q .normal a w) :
    ∀ (fuel : Nat) (listed : Array Bool) (l : List Nat), listed.size = all.size → l.Nodup → (∀ i ∈ l, i < all.size) → (∀ i, i < all.size → (listed.getD i true = false ↔ i ∈ l)) →
      (∀ i, i < all.size → listed.getD i true = true → ∀ j, reachB (masks all.toList []) j i = true → listed.getD j true = true) →
      pairsB P C all (masks all.toList []) l = true → l.length ≤ fuel →
      ∀ (ρ : Env) (a : Act) (w : World), Fits n D ρ a → I (hp w) → Rest w0 w → GWs all S (opsAt all l) ρ (hp w) K → wpAnyIn (Fw r) 0 P .any all Q fuel listed a w := by
  have preds_ok : ∀ i o, all[i]? = some o → ∀ p ∈ preds o, p < i := fun i o hi p hp' => by
    have := predsB_spec all.toList 0 hpred i o (by simpa using hi) p hp'
    omega
  have mem_ready : ∀ (listed : Array Bool) (i : Nat) (o : Oper), all[i]? = some o → (i ∈ Region.ready .any all listed ↔ (listed.getD i true = false ∧ ∀ p ∈ preds o, listed.getD p false = true)) := by
    intro listed i o hi
    unfold Region.ready
    have hlt : i < all.size := (Array.getElem?_eq_some_iff.1 hi).1
    rw [List.mem_filter]
    simp only [List.mem_range, hlt, true_and, hi, Option.map_some, Option.getD_some, Bool.and_eq_true, Bool.not_eq_true']
    refine and_congr_right fun _ => ?_
    rw [← Array.all_toList, List.all_eq_true]
    constructor
    · intro h p hp'
      simp only [preds, List.mem_filterMap] at hp'
      obtain ⟨e, he, hb⟩ := hp'
      have := h e he
      cases hbb : Region.binds .any e with
      | false => rw [hbb] at hb; cases hb
      | true =>
        rw [hbb] at hb this
        cases hb
        simpa using this
    · intro h e he
      cases hbb : Region.binds .any e with
      | false => rfl
      | true =>
        have := h e.on (by simp only [preds, List.mem_filterMap]; exact ⟨e, he, by rw [hbb]⟩)
        simp only [Bool.not_true, Bool.false_or]
        exact this
  intro fuel
  induction fuel with
  | zero =>
    intro listed l hsz hnd hlt hmem hcl hpairs hlen ρ a w hf hI hr h
    obtain rfl : l = [] := List.eq_nil_of_length_eq_zero (by omega)
    refine ⟨?_, hQ ρ a w hf hI h hr⟩
    cases hrd : Region.ready .any all listed with
    | nil => rfl
    | cons i rs =>
      have hi : i ∈ Region.ready .any all listed := by rw [hrd]; exact List.mem_cons_self
      have hi' : i < all.size := by
        unfold Region.ready at hi
        simpa using (List.mem_filter.1 hi).1
      have := ((mem_ready listed i all[i] (Array.getElem?_eq_getElem hi')).1 hi).1
      exact absurd ((hmem i hi').1 this) (by simp)
  | succ fuel ih =>
    intro listed l hsz hnd hlt hmem hcl hpairs hlen ρ a w hf hI hr h
    refine ⟨fun hrd => ?_, fun i hi => ?_⟩
    · -- nothing is ready: nothing is left
      have : l = [] := by
        cases hl : l with
        | nil => rfl
        | cons x xs =>
          exfalso
          have hne : ∃ i, i ∈ l ∧ ∀ j ∈ l, i ≤ j := by
            have : ∀ l : List Nat, l ≠ [] → ∃ i, i ∈ l ∧ ∀ j ∈ l, i ≤ j := by
              intro l
              induction l with
              | nil => intro h; exact absurd rfl h
              | cons x xs ih =>
                intro _
                by_cases hx : xs = []
                · subst hx; exact ⟨x, by simp, by simp⟩
                · obtain ⟨i, hi, hm⟩ := ih hx
                  by_cases hle : x ≤ i
                  · exact ⟨x, by simp, fun j hj => by rcases List.mem_cons.1 hj with rfl | hj; omega; have := hm j hj; omega⟩
                  · exact ⟨i, by simp [hi], fun j hj => by rcases List.mem_cons.1 hj with rfl | hj; omega; exact hm j hj⟩
            exact this l (by rw [hl]; simp)
          obtain ⟨i, hi, hmin⟩ := hne
          have hi' := hlt i hi
          have hio : all[i]? = some all[i] := Array.getElem?_eq_getElem hi'
          have : i ∈ Region.ready .any all listed := (mem_ready listed i _ hio).2 ⟨(hmem i hi').2 hi, fun p hp' => by
            have hpi := preds_ok i _ hio p hp'
            have hpn : p ∉ l := fun hp'' => by have := hmin p hp''; omega
            have hps : p < all.size := by omega
            cases hlp : listed.getD p true with
            | false => exact absurd ((hmem p hps).1 hlp) hpn
            | true =>
              rw [Array.getD_eq_getD_getElem?, Array.getElem?_eq_getElem (by omega)] at hlp ⊢
              exact hlp⟩
          rw [hrd] at this
          cases this
      subst this
      exact hQ ρ a w hf hI h hr
    · have hi' : i < all.size := by
        unfold Region.ready at hi
        simpa using (List.mem_filter.1 hi).1
      have hio : all[i]? = some all[i] := Array.getElem?_eq_getElem hi'
      obtain ⟨hun, hprs⟩ := (mem_ready listed i _ hio).1 hi
      have hil : i ∈ l := (hmem i hi').1 hun
      obtain ⟨l1, l2, rfl⟩ := List.append_of_mem hil
      obtain ⟨hp1, hp2⟩ := pairsB_split l1 i l2 hpairs
      have listed_of : ∀ p, p < all.size → listed.getD p false = true → listed.getD p true = true := fun p hps h => by
        rw [Array.getD_eq_getD_getElem?, Array.getElem?_eq_getElem (by omega)] at h ⊢
        exact h
      have reach_listed : ∀ e, reachB (masks all.toList []) e i = true → listed.getD e true = true := fun e he => by
        have hb := masks_bit all.toList [] i all[i] (by simp [hi']) e (by simpa [reachB] using he)
        obtain ⟨p, hp', hj⟩ := hb
        have hpi := preds_ok i _ hio p hp'
        have hpl := listed_of p (by omega) (hprs p hp')
        rcases hj with rfl | hj
        · exact hpl
        · exact hcl p (by omega) hpl e hj
      have hfront : GWs all S (all[i] :: (opsAt all l1 ++ opsAt all l2)) ρ (hp w) K := by
        have hsplit : opsAt all (l1 ++ i :: l2) = opsAt all l1 ++ all[i] :: opsAt all l2 := by
          simp [opsAt, List.filterMap_append, hi']
        rw [hsplit] at h
        refine GWs.front hR.toNice _ _ (fun x hx => ?_) _ _ h
        simp only [opsAt, List.mem_filterMap] at hx
        obtain ⟨e, he, hxe⟩ := hx
        have hpe := hp1 e he
        unfold pairB at hpe
        have hnr : reachB (masks all.toList []) e i = false := by
          cases hre : reachB (masks all.toList []) e i with
          | false => rfl
          | true =>
            have h1 := reach_listed e hre
            have h2 := (hmem e (hlt e (by simp [he]))).2 (by simp [he])
            rw [h1] at h2; cases h2
        rw [hnr] at hpe
        have hi2 : all.toList[i]? = some all[i] := by simp [hi']
        rw [hxe, hi2] at hpe
        simp only [Bool.false_or, Bool.and_eq_true] at hpe
        refine ⟨hpe.1, hR.swaps ?_⟩
        have hs := hpe.2
        generalize rankC P C x = r at hs
        generalize rankC P C all[i] = s at hs
        unfold swapB at hs
        split at hs
        · exact .inl rfl
        · simp only [Bool.or_eq_true] at hs
          rcases hs with hs | hs
          · exact .inr (.inl ⟨by omega, Nat.le_of_ble_eq_true hs⟩)
          · exact .inr (.inr (.inr ⟨.inl rfl, .inr (Nat.eq_of_beq_eq_true hs)⟩))
        · have := Nat.le_of_ble_eq_true hs
          rcases Nat.lt_or_ge s 3 with h | h
          · exact .inr (.inl ⟨by omega, by omega⟩)
          · exact .inr (.inr (.inl ⟨rfl, by omega⟩))
        · simp only [Bool.or_eq_true] at hs
          rcases hs with hs | hs
          · exact .inr (.inr (.inr ⟨.inr rfl, .inl (Nat.le_of_ble_eq_true hs)⟩))
          · exact .inr (.inr (.inr ⟨.inr rfl, .inr (Nat.eq_of_beq_eq_true hs)⟩))
        · cases hs
      have hin' : opIn n all all[i] = true := List.all_eq_true.1 hin _ (by simp)
      refine wpOp_of hS hio hin' hf hI hfront fun ρ' a' w' hf' hI' hk hr' => ?_
      have hnd' := List.nodup_append.1 hnd
      have hni1 : i ∉ l1 := fun hc => hnd'.2.2 i hc i (by simp) rfl
      have hni2 : i ∉ l2 := (List.nodup_cons.1 hnd'.2.1).1
      have hopsj : opsAt all l1 ++ opsAt all l2 = opsAt all (l1 ++ l2) := by simp [opsAt]
      rw [hopsj] at hk
      have getD_set : ∀ k, k < all.size → (listed.setIfInBounds i true).getD k true = if k = i then true else listed.getD k true := by
        intro k hks
        simp only [Array.getD_eq_getD_getElem?, Array.getElem?_setIfInBounds]
        by_cases e : k = i
        · subst e; simp [hsz, hks]
        · rw [if_neg (fun e' => e e'.symm), if_neg e]
      refine ih _ (l1 ++ l2) (by simp [hsz]) ?_ (fun k hk' => hlt k (by simp at hk' ⊢; rcases hk' with h | h; exact .inl h; exact .inr (.inr h))) (fun k hks => ?_) (fun k hks hlk j hj => ?_) hp2 (by simp at hlen ⊢; omega) ρ' a' w' hf' hI' (hr.trans hr') hk
      · refine List.nodup_append.2 ⟨hnd'.1, (List.nodup_cons.1 hnd'.2.1).2, fun x hx y hy => hnd'.2.2 x hx y (by simp [hy])⟩
      · rw [getD_set k hks]
        by_cases e : k = i
        · subst e
          simp [hni1, hni2]
        · rw [if_neg e, hmem k hks]
          simp [e]
      · rw [getD_set k hks] at hlk
        have hold : listed.getD j true = true → (listed.setIfInBounds i true).getD j true = true := by
          intro h
          simp only [Array.getD_eq_getD_getElem?, Array.getElem?_setIfInBounds] at h ⊢
          by_cases e : i = j
          · subst e; simp [hsz, hi']
          · rw [if_neg e]; exact h
        by_cases e : k = i
        · subst e
          exact hold (reach_listed j hj)
        · rw [if_neg e] at hlk
          exact hold (hcl k hks hlk j hj)

/-- The last ones come after all others, each in its turn: they need keep nothing. -/
theorem wpAny_tail {P : Program} {S} {I : Heap → Prop} {C : List Tmp} (hS : Sound P S I) (hR : Ranked S (rankC P C)) {n : Nat} {all : Array Oper} {Q : Exit → Act → World → Prop} {K : Env → Heap → Prop} {w0 : World}
    (hin : all.toList.all (opIn n all) = true) (hpred : predsB 0 all.toList = true) (hQ : ∀ ρ a w, Fits n D ρ a → K ρ (hp w) → Rest w0 w → Q .normal a w) :
    ∀ (fuel : Nat) (listed : Array Bool) (l zs : List Nat), listed.size = all.size → (l ++ zs).Nodup → (∀ i ∈ l ++ zs, i < all.size) → (∀ i, i < all.size → (listed.getD i true = false ↔ i ∈ l ++ zs)) →
      (∀ i, i < all.size → listed.getD i true = true → ∀ j, reachB (masks all.toList []) j i = true → listed.getD j true = true) →
      pairsB P C all (masks all.toList []) l = true → (∀ e ∈ l, ∀ z ∈ zs, reachB (masks all.toList []) e z = true) → zs.Pairwise (fun e z => reachB (masks all.toList []) e z = true) → (l ++ zs).length ≤ fuel →
      ∀ (ρ : Env) (a : Act) (w : World), Fits n D ρ a → (l = [] ∨ I (hp w)) → Rest w0 w → GWs all S (opsAt all l) ρ (hp w) (fun ρ' H' => GWs all (OpW P) (opsAt all zs) ρ' H' K) → wpAnyIn (Fw r) 0 P .any all Q fuel listed a w := by
  have preds_ok : ∀ i o, all[i]? = some o → ∀ p ∈ preds o, p < i := fun i o hi p hp' => by
    have := predsB_spec all.toList 0 hpred i o (by simpa using hi) p hp'
    omega
  have mem_ready : ∀ (listed : Array Bool) (i : Nat) (o : Oper), all[i]? = some o → (i ∈ Region.ready .any all listed ↔ (listed.getD i true = false ∧ ∀ p ∈ preds o, listed.getD p false = true)) := by
    intro listed i o hi
    unfold Region.ready
    have hlt : i < all.size := (Array.getElem?_eq_some_iff.1 hi).1
    rw [List.mem_filter]
    simp only [List.mem_range, hlt, true_and, hi, Option.map_some, Option.getD_some, Bool.and_eq_true, Bool.not_eq_true']
    refine and_congr_right fun _ => ?_
    rw [← Array.all_toList, List.all_eq_true]
    constructor
    · intro h p hp'
      simp only [preds, List.mem_filterMap] at hp'
      obtain ⟨e, he, hb⟩ := hp'
      have := h e he
      cases hbb : Region.binds .any e with
      | false => rw [hbb] at hb; cases hb
      | true =>
        rw [hbb] at hb this
        cases hb
        simpa using this
    · intro h e he
      cases hbb : Region.binds .any e with
      | false => rfl
      | true =>
        have := h e.on (by simp only [preds, List.mem_filterMap]; exact ⟨e, he, by rw [hbb]⟩)
        simp only [Bool.not_true, Bool.false_or]
        exact this
  intro fuel
  induction fuel with
  | zero =>
    intro listed l zs hsz hnd hlt hmem hcl hpairs hlz hzs hlen ρ a w hf hI hr h
    obtain ⟨rfl, rfl⟩ : l = [] ∧ zs = [] := by simpa using (List.eq_nil_of_length_eq_zero (by omega) : l ++ zs = [])
    refine ⟨?_, hQ ρ a w hf h hr⟩
    cases hrd : Region.ready .any all listed with
    | nil => rfl
    | cons i rs =>
      have hi : i ∈ Region.ready .any all listed := by rw [hrd]; exact List.mem_cons_self
      have hi' : i < all.size := by
        unfold Region.ready at hi
        simpa using (List.mem_filter.1 hi).1
      have := ((mem_ready listed i all[i] (Array.getElem?_eq_getElem hi')).1 hi).1
      exact absurd ((hmem i hi').1 this) (by simp)
  | succ fuel ih =>
    intro listed l zs hsz hnd hlt hmem hcl hpairs hlz hzs hlen ρ a w hf hI hr h
    refine ⟨fun hrd => ?_, fun i hi => ?_⟩
    · -- nothing is ready: nothing is left
      have : l ++ zs = [] := by
        cases hl : l ++ zs with
        | nil => rfl
        | cons x xs =>
          exfalso
          have hne : ∃ i, i ∈ l ++ zs ∧ ∀ j ∈ l ++ zs, i ≤ j := by
            have : ∀ l : List Nat, l ≠ [] → ∃ i, i ∈ l ∧ ∀ j ∈ l, i ≤ j := by
              intro l
              induction l with
              | nil => intro h; exact absurd rfl h
              | cons x xs ih =>
                intro _
                by_cases hx : xs = []
                · subst hx; exact ⟨x, by simp, by simp⟩
                · obtain ⟨i, hi, hm⟩ := ih hx
                  by_cases hle : x ≤ i
                  · exact ⟨x, by simp, fun j hj => by rcases List.mem_cons.1 hj with rfl | hj; omega; have := hm j hj; omega⟩
                  · exact ⟨i, by simp [hi], fun j hj => by rcases List.mem_cons.1 hj with rfl | hj; omega; exact hm j hj⟩
            exact this (l ++ zs) (by rw [hl]; simp)
          obtain ⟨i, hi, hmin⟩ := hne
          have hi' := hlt i hi
          have hio : all[i]? = some all[i] := Array.getElem?_eq_getElem hi'
          have : i ∈ Region.ready .any all listed := (mem_ready listed i _ hio).2 ⟨(hmem i hi').2 hi, fun p hp' => by
            have hpi := preds_ok i _ hio p hp'
            have hpn : p ∉ l ++ zs := fun hp'' => by have := hmin p hp''; omega
            have hps : p < all.size := by omega
            cases hlp : listed.getD p true with
            | false => exact absurd ((hmem p hps).1 hlp) hpn
            | true =>
              rw [Array.getD_eq_getD_getElem?, Array.getElem?_eq_getElem (by omega)] at hlp ⊢
              exact hlp⟩
          rw [hrd] at this
          cases this
      obtain ⟨rfl, rfl⟩ := List.append_eq_nil_iff.1 this
      exact hQ ρ a w hf h hr
    · have hi' : i < all.size := by
        unfold Region.ready at hi
        simpa using (List.mem_filter.1 hi).1
      have hio : all[i]? = some all[i] := Array.getElem?_eq_getElem hi'
      obtain ⟨hun, hprs⟩ := (mem_ready listed i _ hio).1 hi
      have hilz : i ∈ l ++ zs := (hmem i hi').1 hun
      have listed_of : ∀ p, p < all.size → listed.getD p false = true → listed.getD p true = true := fun p hps h => by
        rw [Array.getD_eq_getD_getElem?, Array.getElem?_eq_getElem (by omega)] at h ⊢
        exact h
      have reach_listed : ∀ e, reachB (masks all.toList []) e i = true → listed.getD e true = true := fun e he => by
        have hb := masks_bit all.toList [] i all[i] (by simp [hi']) e (by simpa [reachB] using he)
        obtain ⟨p, hp', hj⟩ := hb
        have hpi := preds_ok i _ hio p hp'
        have hpl := listed_of p (by omega) (hprs p hp')
        rcases hj with rfl | hj
        · exact hpl
        · exact hcl p (by omega) hpl e hj
      have hin' : opIn n all all[i] = true := List.all_eq_true.1 hin _ (by simp)
      have getD_set : ∀ k, k < all.size → (listed.setIfInBounds i true).getD k true = if k = i then true else listed.getD k true := by
        intro k hks
        simp only [Array.getD_eq_getD_getElem?, Array.getElem?_setIfInBounds]
        by_cases e : k = i
        · subst e; simp [hsz, hks]
        · rw [if_neg (fun e' => e e'.symm), if_neg e]
      have hcl2 : ∀ k, k < all.size → (listed.setIfInBounds i true).getD k true = true → ∀ j, reachB (masks all.toList []) j k = true → (listed.setIfInBounds i true).getD j true = true := fun k hks hlk j hj => by
        rw [getD_set k hks] at hlk
        have hold : listed.getD j true = true → (listed.setIfInBounds i true).getD j true = true := by
          intro h
          simp only [Array.getD_eq_getD_getElem?, Array.getElem?_setIfInBounds] at h ⊢
          by_cases e : i = j
          · subst e; simp [hsz, hi']
          · rw [if_neg e]; exact h
        by_cases e : k = i
        · subst e
          exact hold (reach_listed j hj)
        · rw [if_neg e] at hlk
          exact hold (hcl k hks hlk j hj)
      have unl : ∀ e ∈ l ++ zs, reachB (masks all.toList []) e i = true → False := fun e he hre => by
        have h1 := reach_listed e hre
        have h2 := (hmem e (hlt e he)).2 he
        rw [h1] at h2; cases h2
      rcases List.mem_append.1 hilz with hil | hiz
      case inr =>
        have hl0 : l = [] := by
          cases hl : l with
          | nil => rfl
          | cons e es => exact (unl e (by simp [hl]) (hlz e (by simp [hl]) i hiz)).elim
        subst hl0
        obtain ⟨z1, zs', rfl⟩ := List.append_of_mem hiz
        have hz1 : z1 = [] := by
          cases hl : z1 with
          | nil => rfl
          | cons e es =>
            subst hl
            exact (unl e (by simp) ((List.pairwise_append.1 hzs).2.2 e (by simp) i (by simp))).elim
        subst hz1
        simp only [List.nil_append] at hnd hlt hmem hzs hlen unl h
        have hsplit : opsAt all (i :: zs') = all[i] :: opsAt all zs' := by simp [opsAt, hi']
        have h' : GWs all (OpW P) (all[i] :: opsAt all zs') ρ (hp w) K := by rw [← hsplit]; exact h
        refine wpOp_of (soundOp P) hio hin' hf trivial h' fun ρ' a' w' hf' _ hk hr' => ?_
        have hni : i ∉ zs' := (List.nodup_cons.1 hnd).1
        refine ih _ [] zs' (by simp [hsz]) (by simpa using (List.nodup_cons.1 hnd).2) (fun k hk' => hlt k (by simp at hk' ⊢; exact .inr hk')) (fun k hks => ?_) hcl2 rfl (fun e he => by simp at he) (List.pairwise_cons.1 hzs).2 (by simp at hlen ⊢; omega) ρ' a' w' hf' (.inl rfl) (hr.trans hr') hk
        rw [getD_set k hks]
        by_cases e : k = i
        · subst e
          simp [hni]
        · rw [if_neg e, hmem k hks]
          simp [e]
      have hI2 : I (hp w) := by
        rcases hI with hI | hI
        · subst hI; simp at hil
        · exact hI
      obtain ⟨l1, l2, rfl⟩ := List.append_of_mem hil
      obtain ⟨hp1, hp2⟩ := pairsB_split l1 i l2 hpairs
      have hfront : GWs all S (all[i] :: (opsAt all l1 ++ opsAt all l2)) ρ (hp w) (fun ρ' H' => GWs all (OpW P) (opsAt all zs) ρ' H' K) := by
        have hsplit : opsAt all (l1 ++ i :: l2) = opsAt all l1 ++ all[i] :: opsAt all l2 := by
          simp [opsAt, List.filterMap_append, hi']
        rw [hsplit] at h
        refine GWs.front hR.toNice _ _ (fun x hx => ?_) _ _ h
        simp only [opsAt, List.mem_filterMap] at hx
        obtain ⟨e, he, hxe⟩ := hx
        have hpe := hp1 e he
        unfold pairB at hpe
        have hnr : reachB (masks all.toList []) e i = false := by
          cases hre : reachB (masks all.toList []) e i with
          | false => rfl
          | true =>
            exact (unl e (by simp [he]) hre).elim
        rw [hnr] at hpe
        have hi2 : all.toList[i]? = some all[i] := by simp [hi']
        rw [hxe, hi2] at hpe
        simp only [Bool.false_or, Bool.and_eq_true] at hpe
        refine ⟨hpe.1, hR.swaps ?_⟩
        have hs := hpe.2
        generalize rankC P C x = r at hs
        generalize rankC P C all[i] = s at hs
        unfold swapB at hs
        split at hs
        · exact .inl rfl
        · simp only [Bool.or_eq_true] at hs
          rcases hs with hs | hs
          · exact .inr (.inl ⟨by omega, Nat.le_of_ble_eq_true hs⟩)
          · exact .inr (.inr (.inr ⟨.inl rfl, .inr (Nat.eq_of_beq_eq_true hs)⟩))
        · have := Nat.le_of_ble_eq_true hs
          rcases Nat.lt_or_ge s 3 with h | h
          · exact .inr (.inl ⟨by omega, by omega⟩)
          · exact .inr (.inr (.inl ⟨rfl, by omega⟩))
        · simp only [Bool.or_eq_true] at hs
          rcases hs with hs | hs
          · exact .inr (.inr (.inr ⟨.inr rfl, .inl (Nat.le_of_ble_eq_true hs)⟩))
          · exact .inr (.inr (.inr ⟨.inr rfl, .inr (Nat.eq_of_beq_eq_true hs)⟩))
        · cases hs
      refine wpOp_of hS hio hin' hf hI2 hfront fun ρ' a' w' hf' hI' hk hr' => ?_
      have hnd1 := List.nodup_append.1 hnd
      have hnd' := List.nodup_append.1 hnd1.1
      have hni1 : i ∉ l1 := fun hc => hnd'.2.2 i hc i (by simp) rfl
      have hni2 : i ∉ l2 := (List.nodup_cons.1 hnd'.2.1).1
      have hniz : i ∉ zs := fun hc => hnd1.2.2 i (by simp) i hc rfl
      have hopsj : opsAt all l1 ++ opsAt all l2 = opsAt all (l1 ++ l2) := by simp [opsAt]
      rw [hopsj] at hk
      refine ih _ (l1 ++ l2) zs (by simp [hsz]) ?_ (fun k hk' => hlt k (by simp only [List.mem_append, List.mem_cons] at hk' ⊢; rcases hk' with (h | h) | h; exact .inl (.inl h); exact .inl (.inr (.inr h)); exact .inr h)) (fun k hks => ?_) hcl2 hp2 (fun e he z hz => hlz e (by simp only [List.mem_append, List.mem_cons] at he ⊢; rcases he with h | h; exact .inl h; exact .inr (.inr h)) z hz) hzs (by simp at hlen ⊢; omega) ρ' a' w' hf' (.inr hI') (hr.trans hr') hk
      · refine List.nodup_append.2 ⟨List.nodup_append.2 ⟨hnd'.1, (List.nodup_cons.1 hnd'.2.1).2, fun x hx y hy => hnd'.2.2 x hx y (by simp [hy])⟩, hnd1.2.1, fun x hx y hy => hnd1.2.2 x (by simp only [List.mem_append, List.mem_cons] at hx ⊢; rcases hx with h | h; exact .inl h; exact .inr (.inr h)) y hy⟩
      · rw [getD_set k hks]
        by_cases e : k = i
        · subst e
          simp [hni1, hni2, hniz]
        · rw [if_neg e, hmem k hks]
          simp [e]

/-- What comes last: from where on each one is after all that stands before it. -/
def lateM (M : List Nat) : Nat → List Nat → Bool
  | _, [] => true
  | m, z :: zs => Nat.beq (Nat.land (M.getD z 0) m) m && lateM M (Nat.lor m (Nat.pow 2 z)) zs
def firstM (M : List Nat) : Nat → List Nat → Nat
  | _, [] => 0
  | m, x :: xs => match lateM M m (x :: xs) with
    | true => 0
    | false => firstM M (Nat.lor m (Nat.pow 2 x)) xs + 1
def headN (all : Array Oper) (l : List Nat) : Nat := firstM (masks all.toList []) 0 l
theorem lateM_spec (M : List Nat) : ∀ (zs pre : List Nat) (m : Nat), lateM M m zs = true → (∀ e ∈ pre, m.testBit e = true) → (∀ e ∈ pre, ∀ z ∈ zs, reachB M e z = true) ∧ zs.Pairwise (fun e z => reachB M e z = true)
  | [], pre, m, _, _ => ⟨fun _ _ _ h => by simp at h, .nil⟩
  | z :: zs, pre, m, h, hm => by
    simp only [lateM, Bool.and_eq_true] at h
    obtain ⟨h1, h2⟩ := h
    have h1 := Nat.eq_of_beq_eq_true h1
    have hz : ∀ e ∈ pre, reachB M e z = true := fun e he => by
      have := hm e he
      rw [← h1] at this
      have h3 : (M.getD z 0 &&& m).testBit e = true := this
      rw [Nat.testBit_and, Bool.and_eq_true] at h3
      exact h3.1
    obtain ⟨q1, q2⟩ := lateM_spec M zs (pre ++ [z]) _ h2 (fun e he => by
      show (m ||| 2 ^ z).testBit e = true
      rw [Nat.testBit_or, Bool.or_eq_true]
      rcases List.mem_append.1 he with he | he
      · exact .inl (hm e he)
      · simp only [List.mem_singleton] at he
        subst he
        exact .inr (Nat.testBit_two_pow_self))
    refine ⟨fun e he y hy => ?_, List.pairwise_cons.2 ⟨fun y hy => q1 z (by simp) y hy, q2⟩⟩
    rcases List.mem_cons.1 hy with rfl | hy
    · exact hz e he
    · exact q1 e (by simp [he]) y hy
theorem firstM_spec (M : List Nat) : ∀ (l : List Nat) (pre : List Nat) (m : Nat), (∀ e ∈ pre, m.testBit e = true) →
    (∀ e ∈ pre ++ l.take (firstM M m l), ∀ z ∈ l.drop (firstM M m l), reachB M e z = true) ∧ (l.drop (firstM M m l)).Pairwise (fun e z => reachB M e z = true)
  | [], pre, m, _ => by simp [firstM]
  | x :: xs, pre, m, hm => by
    unfold firstM
    split
    · rename_i h
      simpa using lateM_spec M (x :: xs) pre m h hm
    · have := firstM_spec M xs (pre ++ [x]) (Nat.lor m (Nat.pow 2 x)) (fun e he => by
        show (m ||| 2 ^ x).testBit e = true
        rw [Nat.testBit_or, Bool.or_eq_true]
        rcases List.mem_append.1 he with he | he
        · exact .inl (hm e he)
        · simp only [List.mem_singleton] at he
          subst he
          exact .inr (Nat.testBit_two_pow_self))
      simpa using this
theorem pairsB_take {P : Program} {C : List Tmp} {all : Array Oper} {M : List Nat} : ∀ (l : List Nat) (n : Nat), pairsB P C all M l = true → pairsB P C all M (l.take n) = true
  | [], n, _ => by simp [pairsB]
  | x :: xs, 0, _ => rfl
  | x :: xs, n + 1, h => by
    simp only [pairsB, List.take_succ_cons, Bool.and_eq_true] at h ⊢
    refine ⟨List.all_eq_true.2 fun y hy => List.all_eq_true.1 h.1 y (List.mem_of_mem_take hy), pairsB_take xs n h.2⟩

theorem wp_draw_of {P : Program} {S} {I : Heap → Prop} {C : List Tmp} (hS : Sound P S I) (hR : Ranked S (rankC P C)) (hm : P.follows .mixedOrders = true) {n id : Nat} {all : Array Oper} {l : List Nat} {Q : Exit → Act → World → Prop} {K : Env → Heap → Prop}
    (hin : all.toList.all (opIn n all) = true) (hd : drawOk P C all l = true) {ρ : Env} {a : Act} {w : World} (hf : Fits n D ρ a) (hI : I (hp w)) (h : GWs all S (opsAt all l) ρ (hp w) K)
    (hQ : ∀ ρ a w', Fits n D ρ a → I (hp w') → K ρ (hp w') → Rest w w' → Q .normal a w') : (Code.region id all true).wpIn (Fw r) 0 P Q a w := by
  simp only [drawOk, Bool.and_eq_true] at hd
  obtain ⟨⟨⟨⟨⟨h1, h2⟩, h0⟩, h3⟩, h4⟩, h5⟩ := hd
  have h2' := Nat.eq_of_beq_eq_true h2
  have hlt : ∀ i ∈ l, i < all.size := fun i hi => by simpa using List.all_eq_true.1 h3 i hi
  have hnd : l.Nodup := by
    clear h h0 h2 h2' h3 h4 h5 hlt
    induction l with
    | nil => simp
    | cons x xs ih =>
      simp only [uniqB, Bool.and_eq_true, Bool.not_eq_true'] at h1
      refine List.nodup_cons.2 ⟨fun hc => ?_, ih h1.2⟩
      rw [memB_iff.2 hc] at h1
      cases h1.1
  have hall : ∀ i, i < all.size → i ∈ l := fun i hi => memB_iff.1 (List.all_eq_true.1 h0 i (List.mem_range.2 hi))
  refine wpIn_region_any hm ?_
  refine wpAny_of hS hR (w0 := w) hin h4 hQ all.size _ l (by simp) hnd hlt (fun i hi => ?_) (fun i hi hli => ?_) h5 (by omega) ρ a _ hf hI ⟨rfl, rfl, rfl, fun _ _ h => h, Nat.le_refl _⟩ h
  · have := hall i hi
    simp [Array.getD_eq_getD_getElem?, hi, this]
  · simp [Array.getD_eq_getD_getElem?, hi] at hli

theorem wp_draw_tail {P : Program} {S} {I : Heap → Prop} {C : List Tmp} (hS : Sound P S I) (hR : Ranked S (rankC P C)) (hm : P.follows .mixedOrders = true) {n id : Nat} {all : Array Oper} {l : List Nat} {Q : Exit → Act → World → Prop} {K : Env → Heap → Prop}
    (hin : all.toList.all (opIn n all) = true) (hd : drawOk P C all l = true) {ρ : Env} {a : Act} {w : World} (hf : Fits n D ρ a) (hI : I (hp w)) (h : GWs all S (opsAt all (l.take (headN all l))) ρ (hp w) fun ρ' H' => GWs all (OpW P) (opsAt all (l.drop (headN all l))) ρ' H' K)
    (hQ : ∀ ρ a w', Fits n D ρ a → K ρ (hp w') → Rest w w' → Q .normal a w') : (Code.region id all true).wpIn (Fw r) 0 P Q a w := by
  simp only [drawOk, Bool.and_eq_true] at hd
  obtain ⟨⟨⟨⟨⟨h1, h2⟩, h0⟩, h3⟩, h4⟩, h5⟩ := hd
  have h2' := Nat.eq_of_beq_eq_true h2
  have hlt : ∀ i ∈ l, i < all.size := fun i hi => by simpa using List.all_eq_true.1 h3 i hi
  have hnd : l.Nodup := by
    clear h h0 h2 h2' h3 h4 h5 hlt
    induction l with
    | nil => simp
    | cons x xs ih =>
      simp only [uniqB, Bool.and_eq_true, Bool.not_eq_true'] at h1
      refine List.nodup_cons.2 ⟨fun hc => ?_, ih h1.2⟩
      rw [memB_iff.2 hc] at h1
      cases h1.1
  have hall : ∀ i, i < all.size → i ∈ l := fun i hi => memB_iff.1 (List.all_eq_true.1 h0 i (List.mem_range.2 hi))
  refine wpIn_region_any hm ?_
  obtain ⟨t1, t2⟩ := firstM_spec (masks all.toList []) l [] 0 (fun e he => by simp at he)
  have el : l.take (headN all l) ++ l.drop (headN all l) = l := List.take_append_drop _ _
  refine wpAny_tail hS hR (w0 := w) hin h4 hQ all.size _ (l.take (headN all l)) (l.drop (headN all l)) (by simp) (by rw [el]; exact hnd) (by rw [el]; exact hlt) (fun i hi => ?_) (fun i hi hli => ?_) (pairsB_take _ _ h5) (by simpa [headN] using t1) t2 (by rw [el]; omega) ρ a _ hf (.inr hI) ⟨rfl, rfl, rfl, fun _ _ h => h, Nat.le_refl _⟩ h
  · have := hall i hi
    rw [el]
    simp [Array.getD_eq_getD_getElem?, hi, this]
  · simp [Array.getD_eq_getD_getElem?, hi] at hli

end Go.Sh
