/-
  Attributes (layer 20): what the document puts; the copies.
-/
import Derived.Test.YtinilfhnplfhoaaAtt3
namespace Go.Proofs.Ytinilfhnplfhoaa
open Go.Sh

theorem rput_c (c : List UInt8) (fl kind : Int) (data : List UInt8) (K : List UInt8 → Prop) (hf : okFl fl) (hl : data.length ≤ 100000) (hc : c.length ≤ 100000) (h : K (c ++ attB fl kind data)) : ref20_put_q c fl kind data K := by
  have e16 : IntKind.wrap .u8 (fl + 16) = fl + 16 := by rcases hf with rfl | rfl | rfl | rfl <;> decide
  unfold ref20_put_q
  rw [e16]
  refine IfB.intro (fun h1 => ?_) (fun h1 => ?_)
  · have h1 : 255 < data.length := by simp only [decide_eq_true_eq] at h1; omega
    refine ⟨by decide, by decide, by simp only [List.length_cons, List.length_nil]; omega, by simp only [List.length_append, List.length_cons, List.length_nil]; omega, of_eq h ?_⟩
    rw [tdiv_1, tmod_1, wr_i64 (by omega) (by omega), of8w, of8w, u8_mod, attB, if_pos h1, List.append_assoc]
  · have h1 : ¬ 255 < data.length := by simp only [decide_eq_false_iff_not] at h1; omega
    refine ⟨by simp only [List.length_cons, List.length_nil]; omega, by simp only [List.length_append, List.length_cons, List.length_nil]; omega, of_eq h ?_⟩
    rw [of8w, attB, if_neg h1, List.append_assoc]
theorem num4_c (n : Nat) (K : List UInt8 → Prop) (hn : n < 4294967296) (h : K (be4 n)) : ref20_num4_q (n : Int) K := by
  unfold ref20_num4_q
  refine ⟨by decide, by decide, by decide, by decide, by decide, by decide, of_eq h ?_⟩
  rw [tdiv_1, tdiv_2, tdiv_3, wu32 (by omega), wu32 (by omega), wu32 (by omega), tmod_1, tmod_1, tmod_1, of8w, of8w, of8w, of8w, u8_mod, u8_mod, u8_mod]; rfl

theorem ref20_Check_c (a : Attrs) (K : Int → Prop) (hl : a.path.length ≤ 9223372036854775807) (hc : cnt a.path ≤ 9223372036854775807) (ho : a.others.length ≤ 9223372036854775807) (h : K (errIf (attrsOk a))) : ref20_Check_q a K := by
  obtain ⟨origin, path, nxt, hasMed, med, hasLocal, loc, atomic, hasMaker, makerAS, maker, comms, others⟩ := a
  have bad : attrsOk (origin, path, nxt, hasMed, med, hasLocal, loc, atomic, hasMaker, makerAS, maker, comms, others) = false → K 2 := fun hb => of_eq h (by rw [hb]; rfl)
  simp only [attrsOk, Attrs.origin, Attrs.path, Attrs.next, Attrs.hasMaker, Attrs.makerAS, Attrs.comms, Attrs.others] at *
  have badj : (decide (0 ≤ origin) && decide (origin ≤ 2) && pathOk path && decide ((nxt.toNat : Int) ≠ 0 ∧ (nxt.toNat : Int) < 3758096384) && !(hasMaker && (makerAS.toNat : Int) == 0) && decide (comms.length ≤ 32) && (othersOk (-1) others && decide (others.length ≤ 8))) = false →
      ref20_Check_j0 (origin, path, nxt, hasMed, med, hasLocal, loc, atomic, hasMaker, makerAS, maker, comms, others) true K := fun hb => ifT rfl (bad hb)
  unfold ref20_Check_q
  refine IfB.intro (fun h1 => badj ?_) (fun h1 => IfB.intro (fun h2 => badj ?_) (fun h2 => ?_))
  · have : ¬ 0 ≤ origin := by simp only [decide_eq_true_eq] at h1; omega
    simp [this]
  · have : ¬ origin ≤ 2 := by simp only [decide_eq_true_eq] at h2; omega
    simp [this]
  have h1 : 0 ≤ origin := by simp only [decide_eq_false_iff_not] at h1; omega
  have h2 : origin ≤ 2 := by simp only [decide_eq_false_iff_not] at h2; omega
  intro _
  refine ref19_Check_c path _ hl hc fun _ => ?_
  rw [errIf_ne]
  refine IfB.intro (fun h3 => badj ?_) (fun h3 => IfB.intro (fun h4 => badj ?_) (fun h4 => IfB.intro (fun h5 => badj ?_) (fun h5 => ?_)))
  · have : pathOk path = false := by simpa only [Bool.not_eq_true'] using h3
    simp [this]
  · have : (nxt.toNat : Int) = 0 := by simpa only [beq_iff_eq] using h4
    simp [this]
  · have : ¬ (nxt.toNat : Int) < 3758096384 := by simp only [decide_eq_true_eq] at h5; omega
    simp [this]
  have h3 : pathOk path = true := by simpa only [Bool.not_eq_false'] using h3
  have h4 : (nxt.toNat : Int) ≠ 0 := by simpa only [beq_eq_false_iff_ne] using h4
  have h5 : (nxt.toNat : Int) < 3758096384 := by simp only [decide_eq_false_iff_not] at h5; omega
  have rest : (hasMaker && (makerAS.toNat : Int) == 0) = false → IfB (decide ((comms.length : Int) > 32)) (ref20_Check_j0 (origin, path, nxt, hasMed, med, hasLocal, loc, atomic, hasMaker, makerAS, maker, comms, others) true K) (ref20_Check_j0 (origin, path, nxt, hasMed, med, hasLocal, loc, atomic, hasMaker, makerAS, maker, comms, others) (decide ((others.length : Int) > 8)) K) := fun h6 => by
    refine IfB.intro (fun h7 => badj ?_) (fun h7 => IfB.intro (fun h8 => bad ?_) (fun h8 => ?_))
    · have : ¬ comms.length ≤ 32 := by simp only [decide_eq_true_eq] at h7; omega
      simp [this]
    · have : ¬ others.length ≤ 8 := by simp only [decide_eq_true_eq] at h8; omega
      simp [this]
    have h7 : comms.length ≤ 32 := by simp only [decide_eq_false_iff_not] at h7; omega
    have h8 : others.length ≤ 8 := by simp only [decide_eq_false_iff_not] at h8; omega
    refine LoopJ.over others (fun pre => (lastOf (-1) pre, (pre.length : Int), ())) (fun pre => othersOk (-1) pre = true) rfl rfl (fun pre x post hp hn hP next hx => ?_) (fun hP next _ => ?_)
    · intro _
      dsimp only [ref20_Check_l5, ref20_Check_j1]
      have good : othersOk (lastOf (-1) pre) [x] = true → next (x.1, IntKind.wrap .i64 ((pre.length : Int) + 1), ()) := fun hg => by
        refine of_eq (hx (by rw [othersOk_app, hP, hg]; rfl)) ?_
        rw [lastOf_snoc, wr_i64 (by omega) (by omega)]; simp
      have badx : othersOk (lastOf (-1) pre) [x] = false → K 2 := fun hb => bad (by
        have e : pre ++ x :: post = (pre ++ [x]) ++ post := by simp
        rw [hp, e, othersOk_app, othersOk_app, hb]; simp)
      refine ifT (decide_eq_true (by omega)) ⟨by omega, AtN.of (at_pre hp) fun _ => ?_⟩
      refine IfB.intro (fun h1 => badx ?_) (fun h1 => IfB.intro (fun h2 => badx ?_) (fun h2 _ => ref20_known_c x.1 _ fun _ => IfB.intro (fun h3 => badx ?_) (fun h3 => IfB.intro (fun h4 => badx ?_) (fun h4 => good ?_))))
      · have h1 : ¬ lastOf (-1) pre < x.1 := by simp only [decide_eq_true_eq] at h1; omega
        simp [othersOk, h1]
      · have h2 : ¬ x.1 ≤ 255 := by simp only [decide_eq_true_eq] at h2; omega
        simp [othersOk, h2]
      · simp [othersOk, h3]
      · have h4 : ¬ x.2.length ≤ 255 := by simp only [decide_eq_true_eq] at h4; omega
        simp [othersOk, h4]
      · have h1 : lastOf (-1) pre < x.1 := by simp only [decide_eq_false_iff_not] at h1; omega
        have h2 : x.1 ≤ 255 := by simp only [decide_eq_false_iff_not] at h2; omega
        have h4 : x.2.length ≤ 255 := by simp only [decide_eq_false_iff_not] at h4; omega
        simp [othersOk, h1, h2, h3, h4]
    · dsimp only [ref20_Check_l5]
      refine ifF (decide_eq_false (by omega)) (of_eq h ?_)
      rw [hP, h3, h6, decide_eq_true h1, decide_eq_true h2, decide_eq_true h7, decide_eq_true h8, decide_eq_true ⟨h4, h5⟩]; rfl
  refine IfB.intro (fun h6 => IfB.intro (fun h7 => badj ?_) (fun h7 => rest ?_)) (fun h6 => rest ?_)
  · have h6 : hasMaker = true := h6
    have h7 : ((makerAS.toNat : Int) == 0) = true := h7
    rw [h6, h7]; simp
  · have h7 : ((makerAS.toNat : Int) == 0) = false := h7
    rw [h7, Bool.and_false]
  · have h6 : hasMaker = false := h6
    rw [h6, Bool.false_and]

theorem ref20_Put_c (a : Attrs) (four : Bool) (K : List UInt8 → Int → Prop) (hl : a.path.length ≤ 9223372036854775807) (hc : cnt a.path ≤ 9223372036854775807) (hs : ∀ s ∈ a.path, s.2.length ≤ 9223372036854775807) (ho : a.others.length ≤ 9223372036854775807)
    (h : K (if attrsOk a then attrsB four a else []) (errIf (attrsOk a))) : ref20_Put_q a four K := by
  unfold ref20_Put_q
  simp only [ofI_u32]
  intro _
  refine ref20_Check_c a _ hl hc ho fun _ => ?_
  rw [errIf_ne]
  refine IfB.intro (fun h1 => ?_) (fun h1 _ => ref19_Put_c a.path four _ hl hc fun _ _ => ?_)
  · have h1 : attrsOk a = false := by simpa using h1
    rw [h1] at h
    exact h
  have h1 : attrsOk a = true := by simpa using h1
  rw [h1, if_pos rfl] at h
  have hok := h1
  simp only [attrsOk, Bool.and_eq_true, decide_eq_true_eq, Bool.not_eq_true'] at hok
  obtain ⟨⟨⟨⟨⟨⟨_, _⟩, hpok⟩, _⟩, _⟩, hcm⟩, hoth, hol⟩ := hok
  have hsum : attrsB four a = attB 64 1 [ofI .u8 (IntKind.wrap .u8 a.origin)] ++ (attB 64 2 (encPath four a.path) ++ (attB 64 3 (be4 a.next.toNat) ++ ((if a.hasMed then attB 128 4 (be4 a.med.toNat) else []) ++ ((if a.atomic then attB 64 6 [] else []) ++ ((if a.hasMaker then attB 192 7 (encAS four a.makerAS ++ be4 a.maker.toNat) else []) ++ ((if 0 < a.comms.length then attB 192 8 (a.comms.flatMap fun x => be4 x.toNat) else []) ++
      ((if !four && greatP a.path then attB 192 17 (encPath true a.path) else []) ++ ((if !four && (a.hasMaker && bigAS a.makerAS) then attB 192 18 (be4 a.makerAS.toNat ++ be4 a.maker.toNat) else []) ++ othersB a.others)))))))) := by
    unfold attrsB headB perhB oldB
    simp only [List.append_assoc]
  rw [hsum] at h
  clear hsum
  rw [if_pos hpok]
  obtain ⟨origin, path, nxt, hasMed, med, hasLocal, loc, atomic, hasMaker, makerAS, maker, comms, others⟩ := a
  simp only [Attrs.origin, Attrs.path, Attrs.next, Attrs.hasMed, Attrs.med, Attrs.hasLocal, Attrs.loc, Attrs.atomic, Attrs.hasMaker, Attrs.makerAS, Attrs.maker, Attrs.comms, Attrs.others] at *
  have hps := path_short (four := four) hpok
  have hpt := path_short (four := true) hpok
  have hm1 := u32_lt makerAS
  have hm2 := u32_lt maker
  have s9 : ∀ c : List UInt8, c.length ≤ 20000 → K (c ++ othersB others) 0 → ref20_Put_j9 (origin, path, nxt, hasMed, med, hasLocal, loc, atomic, hasMaker, makerAS, maker, comms, others) c K := fun c hc h => by
    dsimp only [ref20_Put_j9, ref20_Put_j10]
    refine LoopJ.over others (fun pre => (c ++ othersB pre, (pre.length : Int), ())) (fun _ => True) (by simp [othersB]) trivial (fun pre x post hp hn _ next hx => ?_) (fun _ next _ => ?_)
    · intro _
      dsimp only [ref20_Put_l31]
      have hpre : othersOk (-1) pre = true ∧ othersOk (lastOf (-1) pre) (x :: post) = true := by
        have := hoth
        rw [hp, othersOk_app, Bool.and_eq_true] at this
        exact this
      have hb := othersB_len pre _ hpre.1
      have hx2 : x.2.length ≤ 255 := by
        have := hpre.2
        simp only [othersOk, Bool.and_eq_true, decide_eq_true_eq] at this
        exact this.1.2
      refine ifT (decide_eq_true (by omega)) ⟨by omega, AtN.of (at_pre hp) fun _ => ⟨by omega, AtN.of (at_pre hp) fun _ _ => ?_⟩⟩
      refine rput_c _ 224 x.1 x.2 _ (.inr (.inr (.inr rfl))) (by omega) (by simp only [List.length_append]; omega) fun _ => of_eq (hx trivial) ?_
      rw [wr_i64 (by omega) (by omega)]
      simp [othersB]
    · dsimp only [ref20_Put_l31]
      exact ifF (decide_eq_false (by omega)) h
  have s8 : ∀ (c : List UInt8) (b : Bool), c.length ≤ 10000 → K (c ++ ((if b then attB 192 18 (be4 makerAS.toNat ++ be4 maker.toNat) else []) ++ othersB others)) 0 → ref20_Put_j8 (origin, path, nxt, hasMed, med, hasLocal, loc, atomic, hasMaker, makerAS, maker, comms, others) c b K := fun c b hc h => by
    dsimp only [ref20_Put_j8]
    have hb := attB_len 192 18 (be4 makerAS.toNat ++ be4 maker.toNat)
    simp only [List.length_append, be4_length] at hb
    refine IfB.intro (fun h1 _ => num4_c _ _ (by omega) fun _ _ => num4_c _ _ (by omega) fun _ => ⟨by simp [be4_length], fun _ => rput_c c 192 18 _ _ (.inr (.inr (.inl rfl))) (by simp [be4_length]) (by omega) fun _ => s9 _ ?_ (of_eq2 h ?_)⟩) (fun h1 => s9 _ (by omega) (of_eq2 h ?_))
    · simp only [List.length_append]; omega
    · rw [if_pos h1, ← List.append_assoc]
    · rw [h1]; simp
  have s7 : ∀ (c : List UInt8), c.length ≤ 9000 → K (c ++ ((if !four && (hasMaker && bigAS makerAS) then attB 192 18 (be4 makerAS.toNat ++ be4 maker.toNat) else []) ++ othersB others)) 0 → ref20_Put_j7 four (origin, path, nxt, hasMed, med, hasLocal, loc, atomic, hasMaker, makerAS, maker, comms, others) c K := fun c hc h => by
    dsimp only [ref20_Put_j7]
    rw [big_eq]
    refine IfB.intro (fun h1 => IfB.intro (fun h2 => s8 _ _ (by omega) (of_eq2 h ?_)) (fun h2 => s8 _ _ (by omega) (of_eq2 h ?_))) (fun h1 => s8 _ _ (by omega) (of_eq2 h ?_))
    · rw [h1, h2]; rfl
    · rw [h1, h2]; rfl
    · rw [h1]; rfl
  have s6 : ∀ (c : List UInt8) (b : Bool), c.length ≤ 5000 → K (c ++ ((if b then attB 192 17 (encPath true path) else []) ++ ((if !four && (hasMaker && bigAS makerAS) then attB 192 18 (be4 makerAS.toNat ++ be4 maker.toNat) else []) ++ othersB others))) 0 → ref20_Put_j6 four (origin, path, nxt, hasMed, med, hasLocal, loc, atomic, hasMaker, makerAS, maker, comms, others) c b K := fun c b hc' h => by
    dsimp only [ref20_Put_j6]
    have hb := attB_len 192 17 (encPath true path)
    refine IfB.intro (fun h1 _ => ref19_Put_c path true _ hl hc fun _ _ => rput_c c 192 17 _ _ (.inr (.inr (.inl rfl))) ?_ (by omega) fun _ => s7 _ ?_ (of_eq2 h ?_)) (fun h1 => s7 _ (by omega) (of_eq2 h ?_))
    · rw [if_pos hpok]; omega
    · rw [if_pos hpok, List.length_append]; omega
    · rw [if_pos h1, if_pos hpok, ← List.append_assoc]
    · rw [h1]; simp
  have s5 : ∀ (c : List UInt8), c.length ≤ 5000 → K (c ++ ((if !four && greatP path then attB 192 17 (encPath true path) else []) ++ ((if !four && (hasMaker && bigAS makerAS) then attB 192 18 (be4 makerAS.toNat ++ be4 maker.toNat) else []) ++ othersB others))) 0 → ref20_Put_j5 four (origin, path, nxt, hasMed, med, hasLocal, loc, atomic, hasMaker, makerAS, maker, comms, others) c K := fun c hc' h => by
    dsimp only [ref20_Put_j5]
    refine IfB.intro (fun h1 _ => ref20_great_c path _ hl hs fun _ => s6 _ _ (by omega) (of_eq2 h ?_)) (fun h1 => s6 _ _ (by omega) (of_eq2 h ?_))
    · rw [h1]; rfl
    · rw [h1]; rfl
  generalize hR5 : ((if !four && greatP path then attB 192 17 (encPath true path) else []) ++ ((if !four && (hasMaker && bigAS makerAS) then attB 192 18 (be4 makerAS.toNat ++ be4 maker.toNat) else []) ++ othersB others)) = R5 at s5 h
  have s4 : ∀ (c : List UInt8), c.length ≤ 4000 → K (c ++ ((if 0 < comms.length then attB 192 8 (comms.flatMap fun x => be4 x.toNat) else []) ++ R5)) 0 → ref20_Put_j3 four (origin, path, nxt, hasMed, med, hasLocal, loc, atomic, hasMaker, makerAS, maker, comms, others) c K := fun c hc h => by
    dsimp only [ref20_Put_j3, ref20_Put_j4]
    refine IfB.intro (fun h1 => ?_) (fun h1 => s5 c (by omega) (of_eq2 h ?_))
    · have h1 : 0 < comms.length := by simpa using h1
      rw [if_pos h1] at h
      refine LoopJ.over comms (fun pre => (pre.flatMap fun x => be4 x.toNat, (pre.length : Int), ())) (fun _ => True) rfl trivial (fun pre x post hp hn _ next hx => ?_) (fun _ next _ => ?_)
      · intro _
        dsimp only [ref20_Put_l21]
        have hb := be4s_len pre
        have hx3 := u32_lt x
        refine ifT (decide_eq_true (by omega)) ⟨by omega, AtN.of (at_pre hp) fun _ _ => num4_c _ _ (by omega) fun _ => ⟨by rw [be4_length]; omega, of_eq (hx trivial) ?_⟩⟩
        rw [wr_i64 (by omega) (by omega)]
        simp
      · dsimp only [ref20_Put_l21]
        have hfl := be4s_len comms
        have hb := attB_len 192 8 (comms.flatMap fun x => be4 x.toNat)
        refine ifF (decide_eq_false (by omega)) fun _ => rput_c c 192 8 _ _ (.inr (.inr (.inl rfl))) (by omega) (by omega) fun _ => s5 _ (by rw [List.length_append]; omega) (of_eq2 h ?_)
        rw [List.append_assoc]
    · have h1 : ¬ 0 < comms.length := by simp at h1; simp [h1]
      rw [if_neg h1, List.nil_append]
  generalize hR4 : ((if 0 < comms.length then attB 192 8 (comms.flatMap fun x => be4 x.toNat) else []) ++ R5) = R4 at s4 h
  have s2 : ∀ (c d : List UInt8), c.length ≤ 3000 → d.length ≤ 4 → K (c ++ (attB 192 7 (d ++ be4 maker.toNat) ++ R4)) 0 → ref20_Put_j2 four (origin, path, nxt, hasMed, med, hasLocal, loc, atomic, hasMaker, makerAS, maker, comms, others) c d K := fun c d hc hd h => by
    dsimp only [ref20_Put_j2]
    have hb := attB_len 192 7 (d ++ be4 maker.toNat)
    rw [List.length_append, be4_length] at hb
    refine fun _ => num4_c _ _ (by omega) fun _ => ⟨by rw [be4_length]; omega, fun _ => rput_c c 192 7 _ _ (.inr (.inr (.inl rfl))) (by rw [List.length_append, be4_length]; omega) (by omega) fun _ => s4 _ (by rw [List.length_append]; omega) (of_eq2 h ?_)⟩
    rw [List.append_assoc]
  have s1 : ∀ (c : List UInt8), c.length ≤ 3000 → K (c ++ ((if hasMaker then attB 192 7 (encAS four makerAS ++ be4 maker.toNat) else []) ++ R4)) 0 → ref20_Put_j1 four (origin, path, nxt, hasMed, med, hasLocal, loc, atomic, hasMaker, makerAS, maker, comms, others) c K := fun c hc h => by
    dsimp only [ref20_Put_j1]
    refine IfB.intro (fun h1 _ => num4_c _ _ (by omega) fun _ => ?_) (fun h1 => s4 c (by omega) (of_eq2 h ?_))
    · rw [if_pos h1] at h
      refine IfB.intro (fun h2 => ⟨by decide, by rw [be4_length]; decide, IfB.intro (fun h3 => s2 _ _ hc (by simp) (of_eq2 h ?_)) (fun h3 => s2 _ _ hc (by simp [be4]) (of_eq2 h ?_))⟩) (fun h2 => s2 _ _ hc (by simp [be4]) (of_eq2 h ?_))
      · have h2 : four = false := by simpa using h2
        have h3 : makerAS.toNat > 65535 := by simp only [decide_eq_true_eq] at h3; omega
        have : encAS four makerAS = [ofI .u8 91, ofI .u8 160] := by simp [encAS, h2, h3, be2]; decide
        rw [this]
      · have h2 : four = false := by simpa using h2
        have h3 : ¬ makerAS.toNat > 65535 := by simp only [decide_eq_false_iff_not] at h3; omega
        have : encAS four makerAS = (be4 makerAS.toNat).drop 2 := by simp [encAS, h2, h3, be2, be4]
        rw [this]
      · have h2 : four = true := by simpa using h2
        have : encAS four makerAS = be4 makerAS.toNat := by simp [encAS, h2]
        rw [this]
    · rw [h1]; simp
  generalize hR1 : ((if hasMaker then attB 192 7 (encAS four makerAS ++ be4 maker.toNat) else []) ++ R4) = R1 at s1 h
  have s0 : ∀ (c : List UInt8), c.length ≤ 2500 → K (c ++ ((if atomic then attB 64 6 [] else []) ++ R1)) 0 → ref20_Put_j0 four (origin, path, nxt, hasMed, med, hasLocal, loc, atomic, hasMaker, makerAS, maker, comms, others) c K := fun c hc h => by
    dsimp only [ref20_Put_j0]
    have hb := attB_len 64 6 []
    rw [List.length_nil] at hb
    refine IfB.intro (fun h1 _ => rput_c c 64 6 _ _ (.inl rfl) (by simp) (by omega) fun _ => s1 _ (by rw [List.length_append]; omega) (of_eq2 h ?_)) (fun h1 => s1 c (by omega) (of_eq2 h ?_))
    · rw [if_pos h1, ← List.append_assoc]
    · rw [h1]; simp
  generalize hR0 : ((if atomic then attB 64 6 [] else []) ++ R1) = R0 at s0 h
  have b1 := attB_len 64 1 [ofI .u8 (IntKind.wrap .u8 origin)]
  have b2 := attB_len 64 2 (encPath four path)
  have b3 := attB_len 64 3 (be4 nxt.toNat)
  have b4 := attB_len 128 4 (be4 med.toNat)
  rw [be4_length] at b3 b4
  simp only [List.length_cons, List.length_nil] at b1
  have hn := u32_lt nxt
  have hmd := u32_lt med
  refine rput_c [] 64 1 [ofI .u8 (IntKind.wrap .u8 origin)] _ (.inl rfl) (by simp only [List.length_cons, List.length_nil]; omega) (by simp only [List.length_nil]; omega) fun _ _ => ?_
  rw [List.nil_append]
  refine rput_c _ 64 2 _ _ (.inl rfl) (by omega) (by omega) fun _ _ => num4_c _ _ (by omega) fun _ _ => rput_c _ 64 3 _ _ (.inl rfl) (by rw [be4_length]; omega) (by rw [List.length_append]; omega) fun _ => ?_
  refine IfB.intro (fun h1 _ => num4_c _ _ (by omega) fun _ _ => rput_c _ 128 4 _ _ (.inr (.inl rfl)) (by rw [be4_length]; omega) (by simp only [List.length_append]; omega) fun _ => s0 _ (by simp only [List.length_append]; omega) (of_eq2 h ?_)) (fun h1 => s0 _ (by simp only [List.length_append]; omega) (of_eq2 h ?_))
  · have h1 : hasMed = true := h1
    rw [if_pos h1]; simp only [List.append_assoc]
  · have h1 : hasMed = false := h1
    rw [h1]; simp

end Go.Proofs.Ytinilfhnplfhoaa
