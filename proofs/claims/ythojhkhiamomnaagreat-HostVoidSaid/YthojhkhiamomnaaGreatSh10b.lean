/-
  Regions in which one new block stands in no order with calls: each place that it may have between them is looked at by itself.
-/
import Derived.Test.YthojhkhiamomnaaGreatSh10
set_option linter.unusedSectionVars false
set_option linter.unusedSimpArgs false
set_option linter.unusedVariables false
namespace Go.Sh
variable {D : List Deferred} {r : Option Nat}

theorem nodup_le : ∀ (l r : List Nat), l.Nodup → (∀ x ∈ l, x ∈ r) → l.length ≤ r.length
  | [], _, _, _ => Nat.zero_le _
  | x :: l, r, hn, h => by
    have hx := h x List.mem_cons_self
    have hn := List.nodup_cons.1 hn
    have := nodup_le l (r.erase x) hn.2 fun y hy => (List.mem_erase_of_ne (fun (e : y = x) => hn.1 (e ▸ hy))).2 (h y (List.mem_cons_of_mem _ hy))
    rw [List.length_erase_of_mem hx] at this
    have := List.length_pos_of_mem hx
    simp only [List.length_cons]; omega
/-- A region in whatever order, from what holds before each of its steps. -/
theorem wpAny_gen {P : Program} {S} {I : Heap → Prop} (hS : Sound P S I) {n : Nat} {all : Array Oper} {Q : Exit → Act → World → Prop} {w0 : World}
    (hin : all.toList.all (opIn n all) = true) (hpred : predsB 0 all.toList = true) (R : List Nat → Env → Heap → Prop) (hQ : ∀ ρ a w, Fits n D ρ a → R [] ρ (hp w) → Rest w0 w → Q .normal a w)
    (hstep : ∀ (rem : List Nat) (ρ : Env) (H : Heap) (i : Nat) (o : Oper), R rem ρ H → rem.Nodup → i ∈ rem → all[i]? = some o → (∀ e ∈ rem, reachB (masks all.toList []) e i = true → False) →
      ∃ rem', rem'.Nodup ∧ (∀ k, k ∈ rem' ↔ (k ∈ rem ∧ k ≠ i)) ∧ ((I H ∧ GW all S o ρ H fun ρ' H' => I H' → R rem' ρ' H') ∨ GW all (OpW P) o ρ H fun ρ' H' => R rem' ρ' H')) :
    ∀ (fuel : Nat) (listed : Array Bool) (rem : List Nat), listed.size = all.size → rem.Nodup → (∀ i ∈ rem, i < all.size) → (∀ i, i < all.size → (listed.getD i true = false ↔ i ∈ rem)) →
      (∀ i, i < all.size → listed.getD i true = true → ∀ j, reachB (masks all.toList []) j i = true → listed.getD j true = true) → rem.length ≤ fuel →
      ∀ (ρ : Env) (a : Act) (w : World), Fits n D ρ a → Rest w0 w → R rem ρ (hp w) → wpAnyIn (Fw r) 0 P .any all Q fuel listed a w := by
  have preds_ok : ∀ i o, all[i]? = some o → ∀ p ∈ preds o, p < i := fun i o hi p hp' => by
    have := predsB_spec all.toList 0 hpred i o (by simpa using hi) p hp'
    omega
  have mem_ready : ∀ (listed : Array Bool) (i : Nat) (o : Oper), all[i]? = some o → (i ∈ Region.ready .any all listed ↔ (listed.getD i true = false ∧ ∀ p ∈ preds o, listed.getD p false = true)) := by
    intro listed i o hi
    unfold Region.ready
    have hlt : i < all.size := (Array.getElem?_eq_some_iff.1 hi).1
    rw [List.mem_filter]
    simp only [List.mem_range, hlt, true_and, hi, Option.map_some, Option.getD_some, Bool.and_eq_true, Bool.not_eq_true']
    refine and_congr_right fun _ => ?_
    rw [← Array.all_toList, List.all_eq_true]
    constructor
    · intro h p hp'
      simp only [preds, List.mem_filterMap] at hp'
      obtain ⟨e, he, hb⟩ := hp'
      have := h e he
      cases hbb : Region.binds .any e with
      | false => rw [hbb] at hb; cases hb
      | true =>
        rw [hbb] at hb this
        cases hb
        simpa using this
    · intro h e he
      cases hbb : Region.binds .any e with
      | false => rfl
      | true =>
        have := h e.on (by simp only [preds, List.mem_filterMap]; exact ⟨e, he, by rw [hbb]⟩)
        simp only [Bool.not_true, Bool.false_or]
        exact this
  intro fuel
  induction fuel with
  | zero =>
    intro listed rem hsz hnd hlt hmem hcl hlen ρ a w hf hr h
    obtain rfl : rem = [] := List.eq_nil_of_length_eq_zero (by omega)
    refine ⟨?_, hQ ρ a w hf h hr⟩
    cases hrd : Region.ready .any all listed with
    | nil => rfl
    | cons i rs =>
      have hi : i ∈ Region.ready .any all listed := by rw [hrd]; exact List.mem_cons_self
      have hi' : i < all.size := by
        unfold Region.ready at hi
        simpa using (List.mem_filter.1 hi).1
      have := ((mem_ready listed i all[i] (Array.getElem?_eq_getElem hi')).1 hi).1
      exact absurd ((hmem i hi').1 this) (by simp)
  | succ fuel ih =>
    intro listed rem hsz hnd hlt hmem hcl hlen ρ a w hf hr h
    refine ⟨fun hrd => ?_, fun i hi => ?_⟩
    · -- nothing is ready: nothing is left
      have : rem = [] := by
        cases hl : rem with
        | nil => rfl
        | cons x xs =>
          exfalso
          have hne : ∃ i, i ∈ rem ∧ ∀ j ∈ rem, i ≤ j := by
            have : ∀ l : List Nat, l ≠ [] → ∃ i, i ∈ l ∧ ∀ j ∈ l, i ≤ j := by
              intro l
              induction l with
              | nil => intro h; exact absurd rfl h
              | cons x xs ih =>
                intro _
                by_cases hx : xs = []
                · subst hx; exact ⟨x, by simp, by simp⟩
                · obtain ⟨i, hi, hm⟩ := ih hx
                  by_cases hle : x ≤ i
                  · exact ⟨x, by simp, fun j hj => by rcases List.mem_cons.1 hj with rfl | hj; omega; have := hm j hj; omega⟩
                  · exact ⟨i, by simp [hi], fun j hj => by rcases List.mem_cons.1 hj with rfl | hj; omega; exact hm j hj⟩
            exact this rem (by rw [hl]; simp)
          obtain ⟨i, hi, hmin⟩ := hne
          have hi' := hlt i hi
          have hio : all[i]? = some all[i] := Array.getElem?_eq_getElem hi'
          have : i ∈ Region.ready .any all listed := (mem_ready listed i _ hio).2 ⟨(hmem i hi').2 hi, fun p hp' => by
            have hpi := preds_ok i _ hio p hp'
            have hpn : p ∉ rem := fun hp'' => by have := hmin p hp''; omega
            have hps : p < all.size := by omega
            cases hlp : listed.getD p true with
            | false => exact absurd ((hmem p hps).1 hlp) hpn
            | true =>
              rw [Array.getD_eq_getD_getElem?, Array.getElem?_eq_getElem (by omega)] at hlp ⊢
              exact hlp⟩
          rw [hrd] at this
          cases this
      subst this
      exact hQ ρ a w hf h hr
    · have hi' : i < all.size := by
        unfold Region.ready at hi
        simpa using (List.mem_filter.1 hi).1
      have hio : all[i]? = some all[i] := Array.getElem?_eq_getElem hi'
      obtain ⟨hun, hprs⟩ := (mem_ready listed i _ hio).1 hi
      have hir : i ∈ rem := (hmem i hi').1 hun
      have listed_of : ∀ p, p < all.size → listed.getD p false = true → listed.getD p true = true := fun p hps h => by
        rw [Array.getD_eq_getD_getElem?, Array.getElem?_eq_getElem (by omega)] at h ⊢
        exact h
      have reach_listed : ∀ e, reachB (masks all.toList []) e i = true → listed.getD e true = true := fun e he => by
        have hb := masks_bit all.toList [] i all[i] (by simp [hi']) e (by simpa [reachB] using he)
        obtain ⟨p, hp', hj⟩ := hb
        have hpi := preds_ok i _ hio p hp'
        have hpl := listed_of p (by omega) (hprs p hp')
        rcases hj with rfl | hj
        · exact hpl
        · exact hcl p (by omega) hpl e hj
      have hin' : opIn n all all[i] = true := List.all_eq_true.1 hin _ (by simp)
      have getD_set : ∀ k, k < all.size → (listed.setIfInBounds i true).getD k true = if k = i then true else listed.getD k true := by
        intro k hks
        simp only [Array.getD_eq_getD_getElem?, Array.getElem?_setIfInBounds]
        by_cases e : k = i
        · subst e; simp [hsz, hks]
        · rw [if_neg (fun e' => e e'.symm), if_neg e]
      have hcl2 : ∀ k, k < all.size → (listed.setIfInBounds i true).getD k true = true → ∀ j, reachB (masks all.toList []) j k = true → (listed.setIfInBounds i true).getD j true = true := fun k hks hlk j hj => by
        rw [getD_set k hks] at hlk
        have hold : listed.getD j true = true → (listed.setIfInBounds i true).getD j true = true := by
          intro h
          simp only [Array.getD_eq_getD_getElem?, Array.getElem?_setIfInBounds] at h ⊢
          by_cases e : i = j
          · subst e; simp [hsz, hi']
          · rw [if_neg e]; exact h
        by_cases e : k = i
        · subst e
          exact hold (reach_listed j hj)
        · rw [if_neg e] at hlk
          exact hold (hcl k hks hlk j hj)
      have unl : ∀ e ∈ rem, reachB (masks all.toList []) e i = true → False := fun e he hre => by
        have h1 := reach_listed e hre
        have h2 := (hmem e (hlt e he)).2 he
        rw [h1] at h2; cases h2
      obtain ⟨rem', hnd', hm', hgo⟩ := hstep rem ρ (hp w) i _ h hnd hir hio unl
      have hlen' : rem'.length < rem.length := by
        have := nodup_le (i :: rem') rem (List.nodup_cons.2 ⟨fun hc => ((hm' i).1 hc).2 rfl, hnd'⟩) (fun k hk => by
          rcases List.mem_cons.1 hk with rfl | hk
          · exact hir
          · exact ((hm' k).1 hk).1)
        simp only [List.length_cons] at this
        omega
      have hnext : ∀ ρ' a' w', Fits n D ρ' a' → R rem' ρ' (hp w') → Rest w w' → wpAnyIn (Fw r) 0 P .any all Q fuel (listed.setIfInBounds i true) a' w' := fun ρ' a' w' hf' hR' hr' => by
        refine ih _ rem' (by simp [hsz]) hnd' (fun k hk => hlt k ((hm' k).1 hk).1) (fun k hks => ?_) hcl2 (by omega) ρ' a' w' hf' (hr.trans hr') hR'
        rw [getD_set k hks, hm' k]
        by_cases e : k = i
        · subst e; simp
        · rw [if_neg e, hmem k hks]; simp [e]
      rcases hgo with ⟨hI, hg⟩ | hg
      · have hg' : GWs all S [all[i]] ρ (hp w) (fun ρ' H' => I H' → R rem' ρ' H') := hg
        exact wpOp_of hS hio hin' hf hI hg' fun ρ' a' w' hf' hI' hk hr' => hnext ρ' a' w' hf' (hk hI') hr'
      · have hg' : GWs all (OpW P) [all[i]] ρ (hp w) (fun ρ' H' => R rem' ρ' H') := hg
        exact wpOp_of (soundOp P) hio hin' hf trivial hg' fun ρ' a' w' hf' _ hk hr' => hnext ρ' a' w' hf' hk hr'

theorem swaps_of {P : Program} {S} {C : List Tmp} (hR : Ranked S (rankC P C)) {all : Array Oper} {e i : Nat} {x y : Oper} (hx : all[e]? = some x) (hy : all[i]? = some y) (h : pairB P C all (masks all.toList []) e i = true)
    (hn : reachB (masks all.toList []) e i = true → False) : apartB all x y = true ∧ Swaps S x y := by
  unfold pairB at h
  have hnr : reachB (masks all.toList []) e i = false := by
    cases hre : reachB (masks all.toList []) e i with
    | false => rfl
    | true => exact (hn hre).elim
  have hx2 : all.toList[e]? = some x := by simpa using hx
  have hy2 : all.toList[i]? = some y := by simpa using hy
  rw [hnr, hx2, hy2] at h
  simp only [Bool.false_or, Bool.and_eq_true] at h
  refine ⟨h.1, hR.swaps ?_⟩
  have hs := h.2
  generalize rankC P C x = r at hs
  generalize rankC P C y = s at hs
  unfold swapB at hs
  split at hs
  · exact .inl rfl
  · simp only [Bool.or_eq_true] at hs
    rcases hs with hs | hs
    · exact .inr (.inl ⟨by omega, Nat.le_of_ble_eq_true hs⟩)
    · exact .inr (.inr (.inr ⟨.inl rfl, .inr (Nat.eq_of_beq_eq_true hs)⟩))
  · have := Nat.le_of_ble_eq_true hs
    rcases Nat.lt_or_ge s 3 with h | h
    · exact .inr (.inl ⟨by omega, by omega⟩)
    · exact .inr (.inr (.inl ⟨rfl, by omega⟩))
  · simp only [Bool.or_eq_true] at hs
    rcases hs with hs | hs
    · exact .inr (.inr (.inr ⟨.inr rfl, .inl (Nat.le_of_ble_eq_true hs)⟩))
    · exact .inr (.inr (.inr ⟨.inr rfl, .inr (Nat.eq_of_beq_eq_true hs)⟩))
  · cases hs

/-- What never changes places with what stands behind it. -/
def strongB (r : Nat) : Bool := match r with
  | 0 | 1 | 2 | 5 => false
  | _ => true
theorem strong_no {P : Program} {C : List Tmp} {all : Array Oper} {e i : Nat} {x : Oper} (hx : all[e]? = some x) (hs : strongB (rankC P C x) = true) (h : pairB P C all (masks all.toList []) e i = true) : reachB (masks all.toList []) e i = true := by
  unfold pairB at h
  have hx2 : all.toList[e]? = some x := by simpa using hx
  rw [hx2] at h
  cases hr : reachB (masks all.toList []) e i with
  | true => rfl
  | false =>
    rw [hr] at h
    simp only [Bool.false_or] at h
    split at h
    · rename_i y' hxy hy
      cases hxy
      simp only [Bool.and_eq_true] at h
      have h2 := h.2
      generalize rankC P C x = r at hs h2
      unfold strongB at hs
      unfold swapB at h2
      split at h2 <;> simp_all
    · cases h

/-- The orders, as a tree: at each of Y the new block may come first. -/
def GTs (all : Array Oper) (S : Oper → Env → Heap → (Value → Heap → Prop) → Prop) (a : Nat) (post Y : List Nat) (K : Env → Heap → Prop) : List Nat → Env → Heap → Prop
  | [], ρ, H => GWs all S (opsAt all (a :: post)) ρ H K
  | h :: t, ρ, H => match memB h Y with
    | true => GWs all S (opsAt all (a :: h :: (t ++ post))) ρ H K ∧ GWs all S (opsAt all [h]) ρ H fun ρ' H' => GTs all S a post Y K t ρ' H'
    | false => GWs all S (opsAt all [h]) ρ H fun ρ' H' => GTs all S a post Y K t ρ' H'

theorem opsAt_cons {all : Array Oper} {i : Nat} {o : Oper} (h : all[i]? = some o) (l : List Nat) : opsAt all (i :: l) = o :: opsAt all l := by
  have : all.toList[i]? = some o := by simpa using h
  unfold opsAt
  rw [List.filterMap_cons, this]
theorem opsAt_app (all : Array Oper) (l1 l2 : List Nat) : opsAt all (l1 ++ l2) = opsAt all l1 ++ opsAt all l2 := by simp [opsAt]

section
variable {P : Program} {S : Oper → Env → Heap → (Value → Heap → Prop) → Prop} {C : List Tmp} {all : Array Oper} {a : Nat} {Y : List Nat} {K : Env → Heap → Prop}

theorem GTs.mono (N : Nice S) {post : List Nat} {K' : Env → Heap → Prop} (hk : ∀ ρ H, K ρ H → K' ρ H) : ∀ (pre : List Nat) (ρ : Env) (H : Heap), GTs all S a post Y K pre ρ H → GTs all S a post Y K' pre ρ H
  | [], ρ, H, h => GWs.mono N hk _ _ _ h
  | x :: t, ρ, H, h => by
    unfold GTs at h ⊢
    split at h
    · exact ⟨GWs.mono N hk _ _ _ h.1, GWs.mono N (fun ρ H h => GTs.mono N hk t ρ H h) _ _ _ h.2⟩
    · exact GWs.mono N (fun ρ H h => GTs.mono N hk t ρ H h) _ _ _ h

/-- The new block comes first. -/
theorem GTs.first (hR : Ranked S (rankC P C)) {post : List Nat} {oa : Oper} (ha : all[a]? = some oa) : ∀ (pre : List Nat), (∀ h ∈ pre, h < all.size) → (∀ h ∈ pre, h ∈ Y ∨ pairB P C all (masks all.toList []) h a = true) → (∀ e ∈ pre, reachB (masks all.toList []) e a = true → False) →
    ∀ (ρ : Env) (H : Heap), GTs all S a post Y K pre ρ H → GWs all S (opsAt all (a :: (pre ++ post))) ρ H K
  | [], _, _, _, ρ, H, h => h
  | x :: t, hlt, hp, hn, ρ, H, h => by
    unfold GTs at h
    split at h
    · exact h.1
    · rename_i hm
      have hx : all[x]? = some (all[x]'(hlt x List.mem_cons_self)) := Array.getElem?_eq_getElem _
      have hpx : pairB P C all (masks all.toList []) x a = true := by
        rcases hp x List.mem_cons_self with h | h
        · rw [memB_iff.2 h] at hm; cases hm
        · exact h
      obtain ⟨h1, h2⟩ := swaps_of hR hx ha hpx (hn x List.mem_cons_self)
      rw [opsAt_cons hx] at h
      have h3 : GWs all S ([all[x]'(hlt x List.mem_cons_self)] ++ oa :: opsAt all (t ++ post)) ρ H K := by
        refine GW.mono hR.toNice (fun ρ' H' h => ?_) h
        have := GTs.first hR ha t (fun h hh => hlt h (List.mem_cons_of_mem _ hh)) (fun h hh => hp h (List.mem_cons_of_mem _ hh)) (fun e he => hn e (List.mem_cons_of_mem _ he)) ρ' H' h
        rw [opsAt_cons ha] at this
        exact this
      have h4 := GWs.front hR.toNice _ _ (fun z hz => by
        simp only [List.mem_singleton] at hz
        subst hz
        exact ⟨h1, h2⟩) ρ H h3
      rw [opsAt_cons ha, List.cons_append, opsAt_cons hx]
      exact h4

/-- One of those ahead comes first. -/
theorem GTs.ahead (hR : Ranked S (rankC P C)) {post : List Nat} {i : Nat} {o : Oper} (hi : all[i]? = some o) (p2 : List Nat) : ∀ (p1 : List Nat), (∀ h ∈ p1, h < all.size ∧ h ∉ Y ∧ pairB P C all (masks all.toList []) h i = true ∧ (reachB (masks all.toList []) h i = true → False)) →
    ∀ (ρ : Env) (H : Heap), GTs all S a post Y K (p1 ++ i :: p2) ρ H → GW all S o ρ H fun ρ' H' => GTs all S a post Y K (p1 ++ p2) ρ' H'
  | [], _, ρ, H, h => by
    simp only [List.nil_append] at h ⊢
    unfold GTs at h
    rw [opsAt_cons hi] at h
    split at h
    · exact h.2
    · exact h
  | x :: t, hp, ρ, H, h => by
    obtain ⟨hlt, hy, hpr, hn⟩ := hp x List.mem_cons_self
    have hx : all[x]? = some (all[x]'hlt) := Array.getElem?_eq_getElem _
    have hm : memB x Y = false := by
      cases hm : memB x Y with
      | false => rfl
      | true => exact absurd (memB_iff.1 hm) hy
    simp only [List.cons_append] at h ⊢
    unfold GTs at h
    rw [hm, opsAt_cons hx] at h
    obtain ⟨h1, h2⟩ := swaps_of hR hx hi hpr hn
    have h3 : GW all S (all[x]'hlt) ρ H fun ρ' H' => GW all S o ρ' H' fun ρ'' H'' => GTs all S a post Y K (t ++ p2) ρ'' H'' :=
      GW.mono hR.toNice (fun ρ' H' h => GTs.ahead hR hi p2 t (fun h hh => hp h (List.mem_cons_of_mem _ hh)) ρ' H' h) h
    have h4 := GW.swap hR.toNice h1 h2 h3
    refine GW.mono hR.toNice (fun ρ' H' h => ?_) h4
    unfold GTs
    rw [hm, opsAt_cons hx]
    exact h

/-- One of those behind comes first. -/
theorem GTs.behind (hR : Ranked S (rankC P C)) {q1 q2 : List Nat} {i : Nat} {o oa : Oper} (hi : all[i]? = some o) (ha : all[a]? = some oa) (hai : pairB P C all (masks all.toList []) a i = true) (han : reachB (masks all.toList []) a i = true → False)
    (hq : ∀ h ∈ q1, h < all.size ∧ pairB P C all (masks all.toList []) h i = true ∧ (reachB (masks all.toList []) h i = true → False)) : ∀ (pre : List Nat), (∀ h ∈ pre, h < all.size ∧ h ∉ Y ∧ pairB P C all (masks all.toList []) h i = true ∧ (reachB (masks all.toList []) h i = true → False)) →
    ∀ (ρ : Env) (H : Heap), GTs all S a (q1 ++ i :: q2) Y K pre ρ H → GW all S o ρ H fun ρ' H' => GTs all S a (q1 ++ q2) Y K pre ρ' H'
  | [], _, ρ, H, h => by
    unfold GTs at h
    have e : opsAt all (a :: (q1 ++ i :: q2)) = opsAt all (a :: q1) ++ o :: opsAt all q2 := by
      rw [← List.cons_append, opsAt_app, opsAt_cons hi]
    rw [e] at h
    have h2 := GWs.front hR.toNice _ _ (fun z hz => by
      rw [opsAt_cons ha] at hz
      rcases List.mem_cons.1 hz with rfl | hz
      · exact swaps_of hR ha hi hai han
      · simp only [opsAt, List.mem_filterMap] at hz
        obtain ⟨e, he, hxe⟩ := hz
        obtain ⟨_, h1, h2⟩ := hq e he
        exact swaps_of hR (by simpa using hxe) hi h1 h2) ρ H h
    have e2 : opsAt all (a :: q1) ++ opsAt all q2 = opsAt all (a :: (q1 ++ q2)) := by rw [← opsAt_app, List.cons_append]
    rw [e2] at h2
    exact h2
  | x :: t, hp, ρ, H, h => by
    obtain ⟨hlt, hy, hpr, hn⟩ := hp x List.mem_cons_self
    have hx : all[x]? = some (all[x]'hlt) := Array.getElem?_eq_getElem _
    have hm : memB x Y = false := by
      cases hm : memB x Y with
      | false => rfl
      | true => exact absurd (memB_iff.1 hm) hy
    unfold GTs at h
    rw [hm, opsAt_cons hx] at h
    obtain ⟨h1, h2⟩ := swaps_of hR hx hi hpr hn
    have h3 : GW all S (all[x]'hlt) ρ H fun ρ' H' => GW all S o ρ' H' fun ρ'' H'' => GTs all S a (q1 ++ q2) Y K t ρ'' H'' :=
      GW.mono hR.toNice (fun ρ' H' h => GTs.behind hR hi ha hai han hq t (fun h hh => hp h (List.mem_cons_of_mem _ hh)) ρ' H' h) h
    have h4 := GW.swap hR.toNice h1 h2 h3
    refine GW.mono hR.toNice (fun ρ' H' h => ?_) h4
    unfold GTs
    rw [hm, opsAt_cons hx]
    exact h
end

/-- All that must be seen of such a region. -/
def treeOk (P : Program) (C : List Tmp) (all : Array Oper) (a : Nat) (pre post zs Y : List Nat) : Bool :=
  let M := masks all.toList []
  let l := a :: (pre ++ post) ++ zs
  uniqB l && Nat.beq l.length all.size && (List.range all.size).all (memB · l) && l.all (Nat.blt · all.size) && predsB 0 all.toList &&
  pairsB P C all M (pre ++ post) && pre.all (fun h => memB h Y || pairB P C all M h a) && post.all (pairB P C all M a ·) && Y.all (fun y => match all.toList[y]? with | some o => strongB (rankC P C o) | none => false) &&
  (a :: (pre ++ post)).all (fun e => zs.all (reachB M e ·)) && orderedB M zs
where orderedB (M : List Nat) : List Nat → Bool
  | [] => true
  | e :: l => l.all (reachB M e ·) && orderedB M l

theorem ordered_pw {M : List Nat} : ∀ {l : List Nat}, treeOk.orderedB M l = true → l.Pairwise (fun e z => reachB M e z = true)
  | [], _ => List.Pairwise.nil
  | e :: l, h => by
    simp only [treeOk.orderedB, Bool.and_eq_true] at h
    exact List.pairwise_cons.2 ⟨fun z hz => List.all_eq_true.1 h.1 z hz, ordered_pw h.2⟩
theorem uniq_nd : ∀ {l : List Nat}, uniqB l = true → l.Nodup
  | [], _ => List.nodup_nil
  | x :: xs, h => by
    simp only [uniqB, Bool.and_eq_true, Bool.not_eq_true'] at h
    exact List.nodup_cons.2 ⟨fun hc => (by rw [memB_iff.2 hc] at h; cases h.1), uniq_nd h.2⟩

theorem wp_tree {P : Program} {S} {I : Heap → Prop} {C : List Tmp} (hS : Sound P S I) (hR : Ranked S (rankC P C)) (hm : P.follows .mixedOrders = true) {n id : Nat} {all : Array Oper} {av : Nat} {pre post zs Y : List Nat} {Q : Exit → Act → World → Prop} {K : Env → Heap → Prop}
    (hin : all.toList.all (opIn n all) = true) (hd : treeOk P C all av pre post zs Y = true) {ρ : Env} {a : Act} {w : World} (hf : Fits n D ρ a) (hI : I (hp w)) (h : GTs all S av post Y (fun ρ' H' => GWs all (OpW P) (opsAt all zs) ρ' H' K) pre ρ (hp w))
    (hQ : ∀ ρ a w', Fits n D ρ a → K ρ (hp w') → Rest w w' → Q .normal a w') : (Code.region id all true).wpIn (Fw r) 0 P Q a w := by
  simp only [treeOk, Bool.and_eq_true] at hd
  obtain ⟨⟨⟨⟨⟨⟨⟨⟨⟨⟨h1, h2⟩, h0⟩, h3⟩, h4⟩, h5⟩, h6⟩, h7⟩, h8⟩, h9⟩, h10⟩ := hd
  have hnd := uniq_nd h1
  have h2' := Nat.eq_of_beq_eq_true h2
  have hlt : ∀ i ∈ av :: (pre ++ post) ++ zs, i < all.size := fun i hi => by simpa using List.all_eq_true.1 h3 i hi
  have hall : ∀ i, i < all.size → i ∈ av :: (pre ++ post) ++ zs := fun i hi => memB_iff.1 (List.all_eq_true.1 h0 i (List.mem_range.2 hi))
  have hzs := ordered_pw h10
  have hrz : ∀ e ∈ av :: (pre ++ post), ∀ z ∈ zs, reachB (masks all.toList []) e z = true := fun e he z hz => List.all_eq_true.1 (List.all_eq_true.1 h9 e he) z hz
  have hstr : ∀ y ∈ Y, ∀ o, all[y]? = some o → strongB (rankC P C o) = true := fun y hy o ho => by
    have := List.all_eq_true.1 h8 y hy
    have ho2 : all.toList[y]? = some o := by simpa using ho
    rw [ho2] at this; exact this
  have hav : all[av]? = some (all[av]'(hlt av (by simp))) := Array.getElem?_eq_getElem _
  -- what holds of what is left
  let R : List Nat → Env → Heap → Prop := fun rem ρ H =>
    (∃ l zs', rem = l ++ zs' ∧ (∀ k ∈ l ++ zs', k ∈ av :: (pre ++ post) ++ zs) ∧ pairsB P C all (masks all.toList []) l = true ∧ (∀ e ∈ l, ∀ z ∈ zs', reachB (masks all.toList []) e z = true) ∧ zs'.Pairwise (fun e z => reachB (masks all.toList []) e z = true) ∧ (l = [] ∨ I H) ∧ GWs all S (opsAt all l) ρ H (fun ρ' H' => GWs all (OpW P) (opsAt all zs') ρ' H' K)) ∨
    (∃ p q, rem = av :: (p ++ q) ++ zs ∧ (∀ k ∈ p, k ∈ pre) ∧ (∀ k ∈ q, k ∈ post) ∧ pairsB P C all (masks all.toList []) (p ++ q) = true ∧ I H ∧ GTs all S av q Y (fun ρ' H' => GWs all (OpW P) (opsAt all zs) ρ' H' K) p ρ H)
  refine wpIn_region_any hm ?_
  refine wpAny_gen hS (w0 := w) hin h4 R (fun ρ a w' hf' hr hrest => ?_) (fun rem ρ H i o hRr hndr hir hio hun => ?_) all.size _ (av :: (pre ++ post) ++ zs) (by simp) hnd hlt (fun i hi => ?_) (fun i hi hli => ?_) (by omega) ρ a _ hf ⟨rfl, rfl, rfl, fun _ _ h => h, Nat.le_refl _⟩ (.inr ⟨pre, post, rfl, fun _ h => h, fun _ h => h, h5, hI, h⟩)
  · rcases hr with ⟨l, zs', he, _, _, _, _, _, h⟩ | ⟨p, q, he, _⟩
    · obtain ⟨rfl, rfl⟩ := List.append_eq_nil_iff.1 he.symm
      exact hQ ρ a w' hf' h hrest
    · simp at he
  · rcases hRr with ⟨l, zs', rfl, hsub, hpairs, hlz, hzs', hIl, hg⟩ | ⟨p, q, rfl, hpp, hqq, hpairs, hIH, hg⟩
    · rcases List.mem_append.1 hir with hil | hiz
      · obtain ⟨l1, l2, rfl⟩ := List.append_of_mem hil
        obtain ⟨hp1, hp2⟩ := pairsB_split l1 i l2 hpairs
        have hI2 : I H := by
          rcases hIl with h | h
          · simp at h
          · exact h
        have hnd1 := List.nodup_append.1 hndr
        have hnd' := List.nodup_append.1 hnd1.1
        have hni1 : i ∉ l1 := fun hc => hnd'.2.2 i hc i (by simp) rfl
        have hni2 : i ∉ l2 := (List.nodup_cons.1 hnd'.2.1).1
        have hniz : i ∉ zs' := fun hc => hnd1.2.2 i (by simp) i hc rfl
        refine ⟨(l1 ++ l2) ++ zs', ?_, fun k => ?_, .inl ⟨hI2, ?_⟩⟩
        · refine List.nodup_append.2 ⟨List.nodup_append.2 ⟨hnd'.1, (List.nodup_cons.1 hnd'.2.1).2, fun x hx y hy => hnd'.2.2 x hx y (by simp [hy])⟩, hnd1.2.1, fun x hx y hy => hnd1.2.2 x (by simp only [List.mem_append, List.mem_cons] at hx ⊢; rcases hx with h | h; exact .inl h; exact .inr (.inr h)) y hy⟩
        · simp only [List.mem_append, List.mem_cons]
          by_cases e : k = i
          · subst e; simp [hni1, hni2, hniz]
          · simp [e]
        · rw [opsAt_app, opsAt_cons hio] at hg
          have hfr := GWs.front hR.toNice _ _ (fun x hx => by
            simp only [opsAt, List.mem_filterMap] at hx
            obtain ⟨e, he, hxe⟩ := hx
            exact swaps_of hR (by simpa using hxe) hio (hp1 e he) (hun e (by simp [he]))) ρ H hg
          refine GW.mono hR.toNice (fun ρ' H' hk hI' => ?_) hfr
          refine .inl ⟨l1 ++ l2, zs', rfl, fun k hk => hsub k (by simp only [List.mem_append, List.mem_cons] at hk ⊢; rcases hk with (h | h) | h; exact .inl (.inl h); exact .inl (.inr (.inr h)); exact .inr h), hp2, fun e he z hz => hlz e (by simp only [List.mem_append, List.mem_cons] at he ⊢; rcases he with h | h; exact .inl h; exact .inr (.inr h)) z hz, hzs', .inr hI', ?_⟩
          rw [opsAt_app]; exact hk
      · have hl0 : l = [] := by
          cases hl : l with
          | nil => rfl
          | cons e es => subst hl; exact (hun e (by simp) (hlz e (by simp) i hiz)).elim
        subst hl0
        obtain ⟨z1, zs2, rfl⟩ := List.append_of_mem hiz
        have hz1 : z1 = [] := by
          cases hl : z1 with
          | nil => rfl
          | cons e es => subst hl; exact (hun e (by simp) ((List.pairwise_append.1 hzs').2.2 e (by simp) i (by simp))).elim
        subst hz1
        simp only [List.nil_append] at hndr hg hzs' hsub
        have hni := (List.nodup_cons.1 hndr).1
        refine ⟨zs2, (List.nodup_cons.1 hndr).2, fun k => ?_, .inr ?_⟩
        · simp only [List.nil_append, List.mem_cons]
          by_cases e : k = i
          · subst e; simp [hni]
          · simp [e]
        · have hg' : GWs all (OpW P) (opsAt all (i :: zs2)) ρ H K := hg
          rw [opsAt_cons hio] at hg'
          refine GW.mono (niceOp P) (fun ρ' H' hk => .inl ⟨[], zs2, rfl, fun k hk => hsub k (by simp at hk ⊢; exact .inr hk), rfl, fun e he => by simp at he, (List.pairwise_cons.1 hzs').2, .inl rfl, hk⟩) hg'
    · have hpl : ∀ k ∈ p ++ q, k ∈ pre ++ post := fun k hk => by
        rcases List.mem_append.1 hk with h | h
        · exact List.mem_append_left _ (hpp k h)
        · exact List.mem_append_right _ (hqq k h)
      have hnd1 := List.nodup_append.1 hndr
      have hnd2 := List.nodup_cons.1 hnd1.1
      have hnd3 := List.nodup_append.1 hnd2.2
      have ltp : ∀ k ∈ p ++ q, k < all.size := fun k hk => hlt k (by have := hpl k hk; simp only [List.cons_append, List.mem_cons, List.mem_append] at this ⊢; rcases this with h | h; exact .inr (.inl (.inl h)); exact .inr (.inl (.inr h)))
      have noY : ∀ (l1 : List Nat), (∀ e ∈ l1, e ∈ p ++ q ∧ pairB P C all (masks all.toList []) e i = true) → ∀ e ∈ l1, e < all.size ∧ e ∉ Y ∧ pairB P C all (masks all.toList []) e i = true ∧ (reachB (masks all.toList []) e i = true → False) := fun l1 h e he => by
        have hn := hun e (by simp only [List.cons_append, List.mem_cons, List.mem_append]; have := (h e he).1; rcases List.mem_append.1 this with h | h; exact .inr (.inl (.inl h)); exact .inr (.inl (.inr h)))
        refine ⟨ltp e (h e he).1, fun hy => ?_, (h e he).2, hn⟩
        have he2 : all[e]? = some (all[e]'(ltp e (h e he).1)) := Array.getElem?_eq_getElem _
        exact hn (strong_no he2 (hstr e hy _ he2) (h e he).2)
      simp only [List.cons_append, List.mem_cons] at hir
      rcases hir with rfl | hir
      · rw [hav] at hio
        cases hio
        refine ⟨(p ++ q) ++ zs, ?_, fun k => ?_, .inl ⟨hIH, ?_⟩⟩
        · exact (List.nodup_cons.1 (by simpa using hndr)).2
        · have := (List.nodup_cons.1 (by simpa using hndr : (i :: ((p ++ q) ++ zs)).Nodup)).1
          simp only [List.cons_append, List.mem_cons]
          by_cases e : k = i
          · subst e; simp only [this, true_or, ne_eq, not_true_eq_false, and_false]
          · simp [e]
        · have h1 := GTs.first hR hav p (fun h hh => ltp h (List.mem_append_left _ hh)) (fun h hh => by
            have := List.all_eq_true.1 h6 h (hpp h hh)
            simp only [Bool.or_eq_true] at this
            exact this.imp memB_iff.1 (fun h => h)) (fun e he => hun e (by simp [he])) ρ H hg
          rw [opsAt_cons hav] at h1
          refine GW.mono hR.toNice (fun ρ' H' hk hI' => .inl ⟨p ++ q, zs, rfl, fun k hk => ?_, hpairs, fun e he z hz => hrz e (by have := hpl e he; simp only [List.mem_cons]; exact .inr this) z hz, hzs, .inr hI', hk⟩) h1
          rcases List.mem_append.1 hk with h | h
          · have := hpl k h
            simp only [List.cons_append, List.mem_cons, List.mem_append] at this ⊢
            rcases this with h | h
            · exact .inr (.inl (.inl h))
            · exact .inr (.inl (.inr h))
          · simp [h]
      · rcases List.mem_append.1 hir with hir | hiz
        · have hna : i ≠ av := fun e => by subst e; exact hnd2.1 hir
          have hniz : i ∉ zs := fun hc => hnd1.2.2 i (by simp only [List.mem_cons]; exact .inr hir) i hc rfl
          rcases List.mem_append.1 hir with hip | hiq
          · obtain ⟨p1, p2, rfl⟩ := List.append_of_mem hip
            have hpairs2 : pairsB P C all (masks all.toList []) (p1 ++ i :: (p2 ++ q)) = true := by simpa using hpairs
            obtain ⟨hp1, hp2⟩ := pairsB_split p1 i (p2 ++ q) hpairs2
            have hnp := List.nodup_append.1 hnd3.1
            have hni1 : i ∉ p1 := fun hc => hnp.2.2 i hc i (by simp) rfl
            have hni2 : i ∉ p2 := (List.nodup_cons.1 hnp.2.1).1
            have hniq : i ∉ q := fun hc => hnd3.2.2 i (by simp) i hc rfl
            refine ⟨av :: ((p1 ++ p2) ++ q) ++ zs, ?_, fun k => ?_, .inl ⟨hIH, ?_⟩⟩
            · have hsubl : List.Sublist (av :: ((p1 ++ p2) ++ q) ++ zs) (av :: ((p1 ++ i :: p2) ++ q) ++ zs) := by
                refine List.Sublist.append (List.Sublist.cons_cons _ (List.Sublist.append (List.Sublist.append (List.Sublist.refl _) (List.sublist_cons_self _ _)) (List.Sublist.refl _))) (List.Sublist.refl _)
              exact hndr.sublist hsubl
            · simp only [List.cons_append, List.mem_cons, List.mem_append]
              by_cases e : k = i
              · subst e; simp [hni1, hni2, hniq, hniz, hna]
              · simp [e]
            · have h1 := GTs.ahead hR hio p2 p1 (noY p1 fun e he => ⟨by simp [he], hp1 e he⟩) ρ H hg
              refine GW.mono hR.toNice (fun ρ' H' hk hI' => .inr ⟨p1 ++ p2, q, rfl, fun k hk => hpp k (by simp only [List.mem_append, List.mem_cons] at hk ⊢; rcases hk with h | h; exact .inl h; exact .inr (.inr h)), hqq, by simpa using hp2, hI', hk⟩) h1
          · obtain ⟨q1, q2, rfl⟩ := List.append_of_mem hiq
            have hpairs2 : pairsB P C all (masks all.toList []) ((p ++ q1) ++ i :: q2) = true := by simpa using hpairs
            obtain ⟨hp1, hp2⟩ := pairsB_split (p ++ q1) i q2 hpairs2
            have hnp := List.nodup_append.1 hnd3.2.1
            have hni1 : i ∉ q1 := fun hc => hnp.2.2 i hc i (by simp) rfl
            have hni2 : i ∉ q2 := (List.nodup_cons.1 hnp.2.1).1
            have hnip : i ∉ p := fun hc => hnd3.2.2 i hc i (by simp) rfl
            have hqi : pairB P C all (masks all.toList []) av i = true := List.all_eq_true.1 h7 i (hqq i (by simp))
            refine ⟨av :: (p ++ (q1 ++ q2)) ++ zs, ?_, fun k => ?_, .inl ⟨hIH, ?_⟩⟩
            · have hsubl : List.Sublist (av :: (p ++ (q1 ++ q2)) ++ zs) (av :: (p ++ (q1 ++ i :: q2)) ++ zs) := by
                refine List.Sublist.append (List.Sublist.cons_cons _ (List.Sublist.append (List.Sublist.refl _) (List.Sublist.append (List.Sublist.refl _) (List.sublist_cons_self _ _)))) (List.Sublist.refl _)
              exact hndr.sublist hsubl
            · simp only [List.cons_append, List.mem_cons, List.mem_append]
              by_cases e : k = i
              · subst e; simp [hni1, hni2, hnip, hniz, hna]
              · simp [e]
            · have hn := noY (p ++ q1) fun e he => ⟨by rcases List.mem_append.1 he with h | h <;> simp [h], hp1 e he⟩
              have h1 := GTs.behind hR hio hav hqi (hun av (by simp)) (fun h hh => by have := hn h (by simp [hh]); exact ⟨this.1, this.2.2⟩) p (fun h hh => hn h (by simp [hh])) ρ H hg
              refine GW.mono hR.toNice (fun ρ' H' hk hI' => .inr ⟨p, q1 ++ q2, rfl, hpp, fun k hk => hqq k (by simp only [List.mem_append, List.mem_cons] at hk ⊢; rcases hk with h | h; exact .inl h; exact .inr (.inr h)), by simpa using hp2, hI', hk⟩) h1
        · exact (hun av (by simp) (hrz av (by simp) i hiz)).elim
  · have := hall i hi
    simp only [Array.getD_eq_getD_getElem?]
    simp [hi, this]
    simpa using this
  · simp [Array.getD_eq_getD_getElem?, hi] at hli

end Go.Sh
