/-
  Regions in which loads are kept until the stores come: the stores come after them.
-/
import Derived.Test.YthojhkhiamomnaaGreatSh10b
namespace Go.Sh
variable {D : List Deferred} {r : Option Nat}

def lateMk : Tmp := 1000000
def isSt (o : Oper) : Bool := match o.op with
  | .store _ _ _ => true
  | _ => false
/-- Each store comes after the kept loads. -/
def storesLate (all : Array Oper) (C : List Tmp) : Bool :=
  (List.range all.size).all fun i => match all.toList[i]? with
    | some o => !(isSt o) || (List.range all.size).all fun j => match all.toList[j]? with
      | some p => !(inC C p) || reachB (masks all.toList []) j i
      | none => true
    | none => true
theorem storesLate_spec {all : Array Oper} {C : List Tmp} (h : storesLate all C = true) {i : Nat} (hi : i < all.size) (hs : isSt all[i] = true) {j : Nat} {o : Oper} (hj : all[j]? = some o) (hc : inC C o = true) : reachB (masks all.toList []) j i = true := by
  have h1 := List.all_eq_true.1 h i (List.mem_range.2 hi)
  have e1 : all.toList[i]? = some all[i] := by simp [hi]
  rw [e1] at h1
  simp only [hs, Bool.not_true, Bool.false_or] at h1
  have hjl : j < all.size := (Array.getElem?_eq_some_iff.1 hj).1
  have h2 := List.all_eq_true.1 h1 j (List.mem_range.2 hjl)
  have e2 : all.toList[j]? = some o := by simpa using hj
  rw [e2] at h2
  simp only [hc, Bool.not_true, Bool.false_or] at h2
  exact h2
/-- Kept loads that are still to come. -/
def needs (all : Array Oper) (C : List Tmp) (l : List Nat) : Prop := ∃ k o, k ∈ l ∧ all[k]? = some o ∧ inC C o = true

/-- As where blocks are kept; but stores need keep nothing. -/
def isPl (C : List Tmp) (o : Oper) : Bool := isSt o && !(inC C o)
def KeptL (P : Program) (C : List Tmp) (bs : List Nat) (H0 : Heap) (o : Oper) (ρ : Env) (H : Heap) (K : Value → Heap → Prop) : Prop :=
  match isPl C o with
  | true => OpW P o ρ H K
  | false => KeptS P C bs H0 o ρ H K
theorem rank_st {P : Program} {o : Oper} (h : isSt o = true) : rank P o = 3 := by
  unfold isSt at h
  unfold rank
  cases ho : o.op <;> rw [ho] at h <;> simp only at h ⊢ <;> cases h
theorem rankC_st {C : List Tmp} {P : Program} {o : Oper} (h : isPl C o = true) : rankC P C o = 3 := by
  unfold isPl at h
  simp only [Bool.and_eq_true, Bool.not_eq_true'] at h
  unfold rankC; rw [h.2]; exact rank_st h.1
theorem keptL_pl {P : Program} {C : List Tmp} {bs : List Nat} {H0 : Heap} {o : Oper} (h : isPl C o = true) : KeptL P C bs H0 o = OpW P o := by
  funext ρ H K; unfold KeptL; rw [h]
theorem keptL_no {P : Program} {C : List Tmp} {bs : List Nat} {H0 : Heap} {o : Oper} (h : isPl C o = false) : KeptL P C bs H0 o = KeptS P C bs H0 o := by
  funext ρ H K; unfold KeptL; rw [h]
theorem rankedLate (P : Program) (C : List Tmp) (bs : List Nat) (H0 : Heap) : Ranked (KeptL P C bs H0) (rankC P C) where
  mono := by
    intro o ρ H K K' hk h
    cases hs : isPl C o with
    | true => rw [keptL_pl hs] at h ⊢; exact OpW.mono hk h
    | false => rw [keptL_no hs] at h ⊢; exact (rankedKept P C bs H0).mono _ _ _ _ _ hk h
  congr := by
    intro o ρ ρ' H K hc h
    cases hs : isPl C o with
    | true => rw [keptL_pl hs] at h ⊢; exact OpW.congr hc h
    | false => rw [keptL_no hs] at h ⊢; exact (rankedKept P C bs H0).congr _ _ _ _ _ hc h
  pure0 := by
    intro o ρ hr
    cases hs : isPl C o with
    | true => rw [rankC_st hs] at hr; cases hr
    | false => rw [keptL_no hs]; exact (rankedKept P C bs H0).pure0 _ _ hr
  read1 := by
    intro o ρ hr
    cases hs : isPl C o with
    | true => rw [rankC_st hs] at hr; cases hr
    | false => rw [keptL_no hs]; exact (rankedKept P C bs H0).read1 _ _ hr
  ro5 := by
    intro o ρ hr
    cases hs : isPl C o with
    | true => rw [rankC_st hs] at hr; cases hr
    | false => rw [keptL_no hs]; exact (rankedKept P C bs H0).ro5 _ _ hr
  new2 := by
    intro o ρ hr
    cases hs : isPl C o with
    | true => rw [rankC_st hs] at hr; cases hr
    | false => rw [keptL_no hs]; exact (rankedKept P C bs H0).new2 _ _ hr
  mem3 := by
    intro o ρ obj H K hr h
    cases hs : isPl C o with
    | true =>
      rw [keptL_pl hs] at h ⊢
      unfold isPl at hs
      simp only [Bool.and_eq_true] at hs
      exact OpW.mem3 (rank_st hs.1) ρ obj H K h
    | false => rw [keptL_no hs] at h ⊢; exact (rankedKept P C bs H0).mem3 _ _ _ _ _ hr h

structure SoundL (P : Program) (S : Oper → Env → Heap → (Value → Heap → Prop) → Prop) (I : Heap → Prop) (C : List Tmp) : Prop where
  keep : ∀ o ρ H K, I H → isSt o = false → S o ρ H K → SemW P (execOp (ev ρ) o) H (NextW P fun v H' => I H' ∧ K v H')
  free : ∀ o ρ H K, inC C o = false → S o ρ H K → SemW P (execOp (ev ρ) o) H (NextW P K)
  load : ∀ o ρ H K, inC C o = true → S o ρ H K → isSt o = false
theorem soundLate (P : Program) (C : List Tmp) (bs : List Nat) (H0 : Heap) : SoundL P (KeptL P C bs H0) (KeptIn bs H0) C where
  keep := fun o ρ H K hI hs h => by
    rw [keptL_no (by unfold isPl; rw [hs]; rfl)] at h
    exact soundKept P C bs H0 o ρ H K hI h
  free := fun o ρ H K hc h => by
    refine OpW.sem ?_
    cases hs : isPl C o with
    | true => rw [keptL_pl hs] at h; exact h
    | false =>
      rw [keptL_no hs] at h
      unfold KeptS at h
      rw [hc] at h
      simp only at h
      split at h
      · exact OpW.mono (fun _ _ h => h.2) h
      · exact h
  load := fun o ρ H K hc h => by
    rw [keptL_no (by unfold isPl; rw [hc]; simp)] at h
    unfold KeptS at h
    rw [hc] at h
    simp only at h
    unfold isSt
    cases ho : o.op <;> rw [ho] at h <;> simp only at h ⊢

theorem wp_one {P : Program} {S : Oper → Env → Heap → (Value → Heap → Prop) → Prop} {I J : Heap → Prop} {o : Oper} (hS : ∀ ρ H K, I H → S o ρ H K → SemW P (execOp (ev ρ) o) H (NextW P fun v H' => J H' ∧ K v H')) {n : Nat} {all : Array Oper} {ρ : Env} {a : Act} {w : World} {K : Value → Heap → Prop} {next : Act → World → Prop} {Q : Exit → Act → World → Prop}
    (hin : opIn n all o = true) (hf : Fits n D ρ a) (hI : I (hp w)) (h : S o ρ (hp w) K) (hn : ∀ v w', J (hp w') → K v (hp w') → Rest w w' → next (a.put o.dst v) w') : o.wpIn (Fw r) 0 P a w next Q := by
  simp only [opIn, Bool.and_eq_true] at hin
  obtain ⟨⟨⟨h1, h2⟩, h3⟩, h4⟩ := hin
  have hsem := hS ρ (hp w) K hI h
  have hx : execOp a.eval o = execOp (ev ρ) o := by
    refine execOp_congr o (fun cs b e => by rw [e] at h4; cases h4) fun x hx => eval_ev hf x fun t ht => ?_
    have : t ∈ opTmps o := List.mem_filterMap.2 ⟨x, by simpa using hx, by rw [ht]⟩
    have := (List.all_eq_true.1 h1) t (opTmps_looks this)
    simpa using this
  unfold Oper.wpIn
  refine ⟨fun f _ => fw_fn r f, ?_⟩
  rw [Oper.semAt_eq _ _ _ (fun c e => by rw [e] at h4; cases h4), hx]
  obtain ⟨nx, w', hr, hk, hrest⟩ := SemW.sound _ w _ hsem
  rw [hr]
  cases nx <;> simp only [NextW] at hk
  case value v => exact hn v w' hk.1 hk.2 hrest
  case skip => exact hn undef w' hk.1 hk.2 hrest
  case enter f args =>
    rw [Oper.uponIn_enter]
    refine ⟨(fun h => by cases h), (calls_fw r (hk.2 w' rfl)).mono ?_⟩
    rintro e w'' ⟨v, rfl, hv, hrest'⟩
    exact hn v w'' hv.1 hv.2 (hrest.trans hrest')
  case round l fn tmps assign body =>
    rw [Oper.uponIn_round]
    have h1 : RoundIn (Fw r) (0 - 1) P l fn tmps assign body w' _ := hk w' rfl
    refine ⟨(fun h => by cases h), h1.mono ?_⟩
    rintro e w'' ⟨v, rfl, hv, hrest'⟩
    exact hn v w'' hv.1 hv.2 (hrest.trans hrest')

theorem wpOp_one {P : Program} {S : Oper → Env → Heap → (Value → Heap → Prop) → Prop} {I J : Heap → Prop} {o : Oper} (hS : ∀ ρ H K, I H → S o ρ H K → SemW P (execOp (ev ρ) o) H (NextW P fun v H' => J H' ∧ K v H')) (hJ : ∀ H, I H → J H) {n : Nat} {all : Array Oper} {i : Nat} (hi : all[i]? = some o) {ρ : Env} {a : Act} {w : World} {K : Env → Heap → Prop} {next : Act → World → Prop} {Q : Exit → Act → World → Prop}
    (hin : opIn n all o = true) (hf : Fits n D ρ a) (hI : I (hp w)) (h : GW all S o ρ (hp w) K)
    (hn : ∀ ρ' a' w', Fits n D ρ' a' → J (hp w') → K ρ' (hp w') → Rest w w' → next a' w') : wpOpIn (Fw r) 0 P all Q i next a w := by
  have hd : dstIn n o.dst = true := by
    simp only [opIn, Bool.and_eq_true] at hin
    exact hin.1.1.2
  unfold wpOpIn
  rw [hi]
  simp only
  rw [wanted_eq hin hf]
  unfold GW at h
  cases hw : wantedE all o ρ with
  | true =>
    rw [hw] at h
    simp only [if_true]
    exact (wp_one hS hin hf hI h fun v w' hI' hk hr => hn _ _ _ (hf.put o.dst v hd) hI' hk hr)
  | false =>
    rw [hw] at h
    simp only [Bool.false_eq_true, if_false]
    exact ⟨fun f _ => fw_fn r f, hn _ _ _ (hf.put o.dst undef hd) (hJ _ hI) h (.refl w)⟩

theorem wpAny_late {P : Program} {S} {I : Heap → Prop} {C : List Tmp} (hS : SoundL P S I C) (hR : Ranked S (rankC P C)) {n : Nat} {all : Array Oper} {Q : Exit → Act → World → Prop} {K : Env → Heap → Prop} {w0 : World}
    (hin : all.toList.all (opIn n all) = true) (hpred : predsB 0 all.toList = true) (hlate : storesLate all C = true) (hQ : ∀ ρ a w, Fits n D ρ a → K ρ (hp w) → Rest w0 w → Q .normal a w) :
    ∀ (fuel : Nat) (listed : Array Bool) (l : List Nat), listed.size = all.size → l.Nodup → (∀ i ∈ l, i < all.size) → (∀ i, i < all.size → (listed.getD i true = false ↔ i ∈ l)) →
      (∀ i, i < all.size → listed.getD i true = true → ∀ j, reachB (masks all.toList []) j i = true → listed.getD j true = true) →
      pairsB P C all (masks all.toList []) l = true → l.length ≤ fuel →
      ∀ (ρ : Env) (a : Act) (w : World), Fits n D ρ a → (needs all C l → I (hp w)) → Rest w0 w → GWs all S (opsAt all l) ρ (hp w) K → wpAnyIn (Fw r) 0 P .any all Q fuel listed a w := by
  have preds_ok : ∀ i o, all[i]? = some o → ∀ p ∈ preds o, p < i := fun i o hi p hp' => by
    have := predsB_spec all.toList 0 hpred i o (by simpa using hi) p hp'
    omega
  have mem_ready : ∀ (listed : Array Bool) (i : Nat) (o : Oper), all[i]? = some o → (i ∈ Region.ready .any all listed ↔ (listed.getD i true = false ∧ ∀ p ∈ preds o, listed.getD p false = true)) := by
    intro listed i o hi
    unfold Region.ready
    have hlt : i < all.size := (Array.getElem?_eq_some_iff.1 hi).1
    rw [List.mem_filter]
    simp only [List.mem_range, hlt, true_and, hi, Option.map_some, Option.getD_some, Bool.and_eq_true, Bool.not_eq_true']
    refine and_congr_right fun _ => ?_
    rw [← Array.all_toList, List.all_eq_true]
    constructor
    · intro h p hp'
      simp only [preds, List.mem_filterMap] at hp'
      obtain ⟨e, he, hb⟩ := hp'
      have := h e he
      cases hbb : Region.binds .any e with
      | false => rw [hbb] at hb; cases hb
      | true =>
        rw [hbb] at hb this
        cases hb
        simpa using this
    · intro h e he
      cases hbb : Region.binds .any e with
      | false => rfl
      | true =>
        have := h e.on (by simp only [preds, List.mem_filterMap]; exact ⟨e, he, by rw [hbb]⟩)
        simp only [Bool.not_true, Bool.false_or]
        exact this
  intro fuel
  induction fuel with
  | zero =>
    intro listed l hsz hnd hlt hmem hcl hpairs hlen ρ a w hf hI hr h
    obtain rfl : l = [] := List.eq_nil_of_length_eq_zero (by omega)
    refine ⟨?_, hQ ρ a w hf h hr⟩
    cases hrd : Region.ready .any all listed with
    | nil => rfl
    | cons i rs =>
      have hi : i ∈ Region.ready .any all listed := by rw [hrd]; exact List.mem_cons_self
      have hi' : i < all.size := by
        unfold Region.ready at hi
        simpa using (List.mem_filter.1 hi).1
      have := ((mem_ready listed i all[i] (Array.getElem?_eq_getElem hi')).1 hi).1
      exact absurd ((hmem i hi').1 this) (by simp)
  | succ fuel ih =>
    intro listed l hsz hnd hlt hmem hcl hpairs hlen ρ a w hf hI hr h
    refine ⟨fun hrd => ?_, fun i hi => ?_⟩
    · -- nothing is ready: nothing is left
      have : l = [] := by
        cases hl : l with
        | nil => rfl
        | cons x xs =>
          exfalso
          have hne : ∃ i, i ∈ l ∧ ∀ j ∈ l, i ≤ j := by
            have : ∀ l : List Nat, l ≠ [] → ∃ i, i ∈ l ∧ ∀ j ∈ l, i ≤ j := by
              intro l
              induction l with
              | nil => intro h; exact absurd rfl h
              | cons x xs ih =>
                intro _
                by_cases hx : xs = []
                · subst hx; exact ⟨x, by simp, by simp⟩
                · obtain ⟨i, hi, hm⟩ := ih hx
                  by_cases hle : x ≤ i
                  · exact ⟨x, by simp, fun j hj => by rcases List.mem_cons.1 hj with rfl | hj; omega; have := hm j hj; omega⟩
                  · exact ⟨i, by simp [hi], fun j hj => by rcases List.mem_cons.1 hj with rfl | hj; omega; exact hm j hj⟩
            exact this l (by rw [hl]; simp)
          obtain ⟨i, hi, hmin⟩ := hne
          have hi' := hlt i hi
          have hio : all[i]? = some all[i] := Array.getElem?_eq_getElem hi'
          have : i ∈ Region.ready .any all listed := (mem_ready listed i _ hio).2 ⟨(hmem i hi').2 hi, fun p hp' => by
            have hpi := preds_ok i _ hio p hp'
            have hpn : p ∉ l := fun hp'' => by have := hmin p hp''; omega
            have hps : p < all.size := by omega
            cases hlp : listed.getD p true with
            | false => exact absurd ((hmem p hps).1 hlp) hpn
            | true =>
              rw [Array.getD_eq_getD_getElem?, Array.getElem?_eq_getElem (by omega)] at hlp ⊢
              exact hlp⟩
          rw [hrd] at this
          cases this
      subst this
      exact hQ ρ a w hf h hr
    · have hi' : i < all.size := by
        unfold Region.ready at hi
        simpa using (List.mem_filter.1 hi).1
      have hio : all[i]? = some all[i] := Array.getElem?_eq_getElem hi'
      obtain ⟨hun, hprs⟩ := (mem_ready listed i _ hio).1 hi
      have hil : i ∈ l := (hmem i hi').1 hun
      obtain ⟨l1, l2, rfl⟩ := List.append_of_mem hil
      obtain ⟨hp1, hp2⟩ := pairsB_split l1 i l2 hpairs
      have listed_of : ∀ p, p < all.size → listed.getD p false = true → listed.getD p true = true := fun p hps h => by
        rw [Array.getD_eq_getD_getElem?, Array.getElem?_eq_getElem (by omega)] at h ⊢
        exact h
      have reach_listed : ∀ e, reachB (masks all.toList []) e i = true → listed.getD e true = true := fun e he => by
        have hb := masks_bit all.toList [] i all[i] (by simp [hi']) e (by simpa [reachB] using he)
        obtain ⟨p, hp', hj⟩ := hb
        have hpi := preds_ok i _ hio p hp'
        have hpl := listed_of p (by omega) (hprs p hp')
        rcases hj with rfl | hj
        · exact hpl
        · exact hcl p (by omega) hpl e hj
      have hfront : GWs all S (all[i] :: (opsAt all l1 ++ opsAt all l2)) ρ (hp w) K := by
        have hsplit : opsAt all (l1 ++ i :: l2) = opsAt all l1 ++ all[i] :: opsAt all l2 := by
          simp [opsAt, List.filterMap_append, hi']
        rw [hsplit] at h
        refine GWs.front hR.toNice _ _ (fun x hx => ?_) _ _ h
        simp only [opsAt, List.mem_filterMap] at hx
        obtain ⟨e, he, hxe⟩ := hx
        have hpe := hp1 e he
        unfold pairB at hpe
        have hnr : reachB (masks all.toList []) e i = false := by
          cases hre : reachB (masks all.toList []) e i with
          | false => rfl
          | true =>
            have h1 := reach_listed e hre
            have h2 := (hmem e (hlt e (by simp [he]))).2 (by simp [he])
            rw [h1] at h2; cases h2
        rw [hnr] at hpe
        have hi2 : all.toList[i]? = some all[i] := by simp [hi']
        rw [hxe, hi2] at hpe
        simp only [Bool.false_or, Bool.and_eq_true] at hpe
        refine ⟨hpe.1, hR.swaps ?_⟩
        have hs := hpe.2
        generalize rankC P C x = r at hs
        generalize rankC P C all[i] = s at hs
        unfold swapB at hs
        split at hs
        · exact .inl rfl
        · simp only [Bool.or_eq_true] at hs
          rcases hs with hs | hs
          · exact .inr (.inl ⟨by omega, Nat.le_of_ble_eq_true hs⟩)
          · exact .inr (.inr (.inr ⟨.inl rfl, .inr (Nat.eq_of_beq_eq_true hs)⟩))
        · have := Nat.le_of_ble_eq_true hs
          rcases Nat.lt_or_ge s 3 with h | h
          · exact .inr (.inl ⟨by omega, by omega⟩)
          · exact .inr (.inr (.inl ⟨rfl, by omega⟩))
        · simp only [Bool.or_eq_true] at hs
          rcases hs with hs | hs
          · exact .inr (.inr (.inr ⟨.inr rfl, .inl (Nat.le_of_ble_eq_true hs)⟩))
          · exact .inr (.inr (.inr ⟨.inr rfl, .inr (Nat.eq_of_beq_eq_true hs)⟩))
        · cases hs
      have hin' : opIn n all all[i] = true := List.all_eq_true.1 hin _ (by simp)
      have hJ : ∀ (ρ : Env) (H : Heap) (K : Value → Heap → Prop), (needs all C (l1 ++ i :: l2) → I H) → S all[i] ρ H K → SemW P (execOp (ev ρ) all[i]) H (NextW P fun v H' => (needs all C (l1 ++ l2) → I H') ∧ K v H') := by
        intro ρ H K hJ hs
        by_cases hn : needs all C (l1 ++ l2)
        · have hnl : isSt all[i] = false := by
            cases hst : isSt all[i] with
            | false => rfl
            | true =>
              exfalso
              obtain ⟨k, o, hk1, hk2, hk3⟩ := hn
              have hkm : k ∈ l1 ++ i :: l2 := by
                simp only [List.mem_append, List.mem_cons] at hk1 ⊢
                rcases hk1 with h | h
                · exact .inl h
                · exact .inr (.inr h)
              have hr := storesLate_spec hlate hi' hst hk2 hk3
              have h1 := reach_listed k hr
              have h2 := (hmem k (hlt k hkm)).2 hkm
              rw [h1] at h2; cases h2
          have hn2 : needs all C (l1 ++ i :: l2) := by
            obtain ⟨k, o, hk1, hk2, hk3⟩ := hn
            refine ⟨k, o, ?_, hk2, hk3⟩
            simp only [List.mem_append, List.mem_cons] at hk1 ⊢
            rcases hk1 with h | h
            · exact .inl h
            · exact .inr (.inr h)
          exact SemW.mono _ _ _ _ (fun n H h => NextW.mono (fun _ _ h => ⟨fun _ => h.1, h.2⟩) n H h) (hS.keep _ ρ H K (hJ hn2) hnl hs)
        · cases hc : inC C all[i] with
          | true =>
            have hn2 : needs all C (l1 ++ i :: l2) := ⟨i, all[i], by simp, hio, hc⟩
            have hnl : isSt all[i] = false := hS.load _ ρ H K hc hs
            exact SemW.mono _ _ _ _ (fun n H h => NextW.mono (fun _ _ h => ⟨fun _ => h.1, h.2⟩) n H h) (hS.keep _ ρ H K (hJ hn2) hnl hs)
          | false => exact SemW.mono _ _ _ _ (fun n H h => NextW.mono (fun _ _ h => ⟨fun hx => absurd hx hn, h⟩) n H h) (hS.free _ ρ H K hc hs)
      refine wpOp_one hJ (fun H hj hx => hj (by
        obtain ⟨k, o, hk1, hk2, hk3⟩ := hx
        refine ⟨k, o, ?_, hk2, hk3⟩
        simp only [List.mem_append, List.mem_cons] at hk1 ⊢
        rcases hk1 with h | h
        · exact .inl h
        · exact .inr (.inr h))) hio hin' hf hI hfront fun ρ' a' w' hf' hI' hk hr' => ?_
      have hnd' := List.nodup_append.1 hnd
      have hni1 : i ∉ l1 := fun hc => hnd'.2.2 i hc i (by simp) rfl
      have hni2 : i ∉ l2 := (List.nodup_cons.1 hnd'.2.1).1
      have hopsj : opsAt all l1 ++ opsAt all l2 = opsAt all (l1 ++ l2) := by simp [opsAt]
      rw [hopsj] at hk
      have getD_set : ∀ k, k < all.size → (listed.setIfInBounds i true).getD k true = if k = i then true else listed.getD k true := by
        intro k hks
        simp only [Array.getD_eq_getD_getElem?, Array.getElem?_setIfInBounds]
        by_cases e : k = i
        · subst e; simp [hsz, hks]
        · rw [if_neg (fun e' => e e'.symm), if_neg e]
      refine ih _ (l1 ++ l2) (by simp [hsz]) ?_ (fun k hk' => hlt k (by simp at hk' ⊢; rcases hk' with h | h; exact .inl h; exact .inr (.inr h))) (fun k hks => ?_) (fun k hks hlk j hj => ?_) hp2 (by simp at hlen ⊢; omega) ρ' a' w' hf' hI' (hr.trans hr') hk
      · refine List.nodup_append.2 ⟨hnd'.1, (List.nodup_cons.1 hnd'.2.1).2, fun x hx y hy => hnd'.2.2 x hx y (by simp [hy])⟩
      · rw [getD_set k hks]
        by_cases e : k = i
        · subst e
          simp [hni1, hni2]
        · rw [if_neg e, hmem k hks]
          simp [e]
      · rw [getD_set k hks] at hlk
        have hold : listed.getD j true = true → (listed.setIfInBounds i true).getD j true = true := by
          intro h
          simp only [Array.getD_eq_getD_getElem?, Array.getElem?_setIfInBounds] at h ⊢
          by_cases e : i = j
          · subst e; simp [hsz, hi']
          · rw [if_neg e]; exact h
        by_cases e : k = i
        · subst e
          exact hold (reach_listed j hj)
        · rw [if_neg e] at hlk
          exact hold (hcl k hks hlk j hj)


theorem wp_draw_late {P : Program} {S} {I : Heap → Prop} {all : Array Oper} {C : List Tmp} (hS : SoundL P S I C) (hR : Ranked S (rankC P C)) (hlate : storesLate all C = true) (hm : P.follows .mixedOrders = true) {n id : Nat} {l : List Nat} {Q : Exit → Act → World → Prop} {K : Env → Heap → Prop}
    (hin : all.toList.all (opIn n all) = true) (hd : drawOk P C all l = true) {ρ : Env} {a : Act} {w : World} (hf : Fits n D ρ a) (hI : I (hp w)) (h : GWs all S (opsAt all l) ρ (hp w) K)
    (hQ : ∀ ρ a w', Fits n D ρ a → K ρ (hp w') → Rest w w' → Q .normal a w') : (Code.region id all true).wpIn (Fw r) 0 P Q a w := by
  simp only [drawOk, Bool.and_eq_true] at hd
  obtain ⟨⟨⟨⟨⟨h1, h2⟩, h0⟩, h3⟩, h4⟩, h5⟩ := hd
  have h2' := Nat.eq_of_beq_eq_true h2
  have hlt : ∀ i ∈ l, i < all.size := fun i hi => by simpa using List.all_eq_true.1 h3 i hi
  have hnd : l.Nodup := by
    clear h h0 h2 h2' h3 h4 h5 hlt
    induction l with
    | nil => simp
    | cons x xs ih =>
      simp only [uniqB, Bool.and_eq_true, Bool.not_eq_true'] at h1
      refine List.nodup_cons.2 ⟨fun hc => ?_, ih h1.2⟩
      rw [memB_iff.2 hc] at h1
      cases h1.1
  have hall : ∀ i, i < all.size → i ∈ l := fun i hi => memB_iff.1 (List.all_eq_true.1 h0 i (List.mem_range.2 hi))
  refine wpIn_region_any hm ?_
  refine wpAny_late hS hR (w0 := w) hin h4 hlate hQ all.size _ l (by simp) hnd hlt (fun i hi => ?_) (fun i hi hli => ?_) h5 (by omega) ρ a _ hf (fun _ => hI) ⟨rfl, rfl, rfl, fun _ _ h => h, Nat.le_refl _⟩ h
  · have := hall i hi
    simp [Array.getD_eq_getD_getElem?, hi, this]
  · simp [Array.getD_eq_getD_getElem?, hi] at hli


end Go.Sh
