/-
  Attributes (layer 20): what the program puts, and what the document does.
-/
import Derived.Test.YtinilfhnplfhoaaAtt2
namespace Go.Proofs.Ytinilfhnplfhoaa
open Go.Sh

def bigAS (x : UInt32) : Bool := decide (65535 < x.toNat)
def greatP (p : List Seg) : Bool := p.any fun s => s.2.any bigAS
theorem big_eq (x : UInt32) : decide ((x.toNat : Int) > 65535) = bigAS x := by
  unfold bigAS
  congr 1
  apply propext
  omega

theorem idx1_c (l : List UInt32) (K : Int → Prop) (hl : l.length ≤ 9223372036854775807) (h1 : ∀ i : Nat, l.any bigAS = true → K i) (h2 : l.any bigAS = false → K (-1)) : slices_IndexFuncasl_uint32_uint32_at_attr_great_1_1_q l K := by
  unfold slices_IndexFuncasl_uint32_uint32_at_attr_great_1_1_q
  refine LoopJ.over l (fun pre => ((pre.length : Int), ())) (fun pre => pre.any bigAS = false) rfl rfl (fun pre x post hp hn hP next hx => ?_) (fun hP next _ => ?_)
  · intro _
    dsimp only [slices_IndexFuncasl_uint32_uint32_at_attr_great_1_1_l2, attr_great_1_1_q]
    refine ifT (decide_eq_true (by omega)) ⟨by omega, AtN.of (at_pre hp) fun _ _ _ => ?_⟩
    rw [big_eq]
    refine IfB.intro (fun h => h1 _ ?_) (fun h => of_eq (hx ?_) ?_)
    · rw [hp]; simp [h]
    · rw [List.any_append, hP]; simp [h]
    · rw [wr_i64 (by omega) (by omega)]; simp
  · dsimp only [slices_IndexFuncasl_uint32_uint32_at_attr_great_1_1_l2]
    exact ifF (decide_eq_false (by omega)) (h2 hP)
theorem great1_c (s : Seg) (K : Bool → Prop) (hl : s.2.length ≤ 9223372036854775807) (h : K (s.2.any bigAS)) : attr_great_1_q s K := by
  unfold attr_great_1_q
  intro _
  unfold slices_ContainsFuncasl_uint32_uint32_at_attr_great_1_1_q
  intro _
  refine idx1_c s.2 _ hl (fun i hi _ _ => of_eq h ?_) (fun hi _ _ => of_eq h ?_)
  · rw [hi, decide_eq_true (by omega)]
  · rw [hi]; rfl
theorem idx2_c (l : List Seg) (K : Int → Prop) (hl : l.length ≤ 9223372036854775807) (hs : ∀ s ∈ l, s.2.length ≤ 9223372036854775807) (h1 : ∀ i : Nat, greatP l = true → K i) (h2 : greatP l = false → K (-1)) : slices_IndexFuncasl_api_Segment_api_Segment_at_attr_great_1_q l K := by
  unfold slices_IndexFuncasl_api_Segment_api_Segment_at_attr_great_1_q
  refine LoopJ.over l (fun pre => ((pre.length : Int), ())) (fun pre => greatP pre = false) rfl rfl (fun pre x post hp hn hP next hx => ?_) (fun hP next _ => ?_)
  · intro _
    dsimp only [slices_IndexFuncasl_api_Segment_api_Segment_at_attr_great_1_l2]
    refine ifT (decide_eq_true (by omega)) ⟨by omega, AtN.of (at_pre hp) fun _ _ => great1_c x _ (hs x (by simp [hp])) fun _ => ?_⟩
    refine IfB.intro (fun h => h1 _ ?_) (fun h => of_eq (hx ?_) ?_)
    · rw [hp]; simp only [greatP, List.any_append, List.any_cons, h, Bool.true_or, Bool.or_true]
    · simp only [greatP] at hP
      simp only [greatP, List.any_append, hP, List.any_cons, h, List.any_nil, Bool.or_false]
    · rw [wr_i64 (by omega) (by omega)]; simp
  · dsimp only [slices_IndexFuncasl_api_Segment_api_Segment_at_attr_great_1_l2]
    exact ifF (decide_eq_false (by omega)) (h2 hP)
theorem great_c (p : List Seg) (K : Bool → Prop) (hl : p.length ≤ 9223372036854775807) (hs : ∀ s ∈ p, s.2.length ≤ 9223372036854775807) (h : K (greatP p)) : attr_great_q p K := by
  unfold attr_great_q
  intro _
  unfold slices_ContainsFuncasl_api_Segment_api_Segment_at_attr_great_1_q
  intro _
  refine idx2_c p _ hl hs (fun i hi _ _ => of_eq h ?_) (fun hi _ _ => of_eq h ?_)
  · rw [hi, decide_eq_true (by omega)]
  · rw [hi]; rfl
theorem ref20_great_c (p : List Seg) (K : Bool → Prop) (hl : p.length ≤ 9223372036854775807) (hs : ∀ s ∈ p, s.2.length ≤ 9223372036854775807) (h : K (greatP p)) : ref20_great_q p K := by
  unfold ref20_great_q
  refine LoopJ.over p (fun pre => ((pre.length : Int), ())) (fun pre => greatP pre = false) rfl rfl (fun pre s post hp hn hP next hx => ?_) (fun hP next _ => ?_)
  · intro _
    dsimp only [ref20_great_l2]
    refine ifT (decide_eq_true (by omega)) ?_
    have hsl := hs s (by simp [hp])
    refine LoopJ.over s.2 (fun l => ((l.length : Int), ())) (fun l => l.any bigAS = false) rfl rfl (fun l x r hs hm hL next' hy => ?_) (fun hL next' _ => ?_)
    · intro _
      dsimp only [ref20_great_l5]
      refine ⟨by omega, AtN.of (at_pre hp) fun _ => ifT (decide_eq_true (by omega)) ⟨by omega, AtN.of (at_pre hp) fun _ => ⟨by omega, AtN.of (at_pre hs) fun _ => ?_⟩⟩⟩
      rw [big_eq]
      refine IfB.intro (fun h3 => of_eq h ?_) (fun h3 => of_eq (hy ?_) ?_)
      · have : s.2.any bigAS = true := by rw [hs]; simp [h3]
        rw [hp]; simp only [greatP, List.any_append, List.any_cons, this, Bool.true_or, Bool.or_true]
      · rw [List.any_append, hL]; simp [h3]
      · rw [wr_i64 (by omega) (by omega)]; simp
    · dsimp only [ref20_great_l5]
      refine ⟨by omega, AtN.of (at_pre hp) fun _ => ifF (decide_eq_false (by omega)) (of_eq (hx ?_) ?_)⟩
      · simp only [greatP] at hP
        simp only [greatP, List.any_append, hP, List.any_cons, hL, List.any_nil, Bool.or_false]
      · rw [wr_i64 (by omega) (by omega)]; simp
  · dsimp only [ref20_great_l2]
    exact ifF (decide_eq_false (by omega)) (of_eq h hP)

/-- Attributes' bytes. -/
def headB (four : Bool) (a : Attrs) : List UInt8 := attB 64 1 [ofI .u8 (IntKind.wrap .u8 a.origin)] ++ (attB 64 2 (encPath four a.path) ++ attB 64 3 (be4 a.next.toNat))
def oldB (four : Bool) (a : Attrs) : List UInt8 :=
  (if !four && greatP a.path then attB 192 17 (encPath true a.path) else []) ++ if !four && (a.hasMaker && bigAS a.makerAS) then attB 192 18 (be4 a.makerAS.toNat ++ be4 a.maker.toNat) else []
def othersB (l : List Raw) : List UInt8 := l.flatMap fun x => attB 224 x.1 x.2
def attrsB (four : Bool) (a : Attrs) : List UInt8 := headB four a ++ (perhB four a ++ (oldB four a ++ othersB a.others))

theorem path_short {four : Bool} {p : List Seg} (hok : pathOk p = true) : (encPath four p).length ≤ 1000 := by
  simp only [pathOk, Bool.and_eq_true, decide_eq_true_eq] at hok
  have h1 := parts_len p hok.1
  have h2 := encPath_len four p
  omega
theorem headB_len {four : Bool} {a : Attrs} (h : pathOk a.path = true) : (headB four a).length ≤ 1100 := by
  unfold headB
  have h1 := attB_len 64 1 [ofI .u8 (IntKind.wrap .u8 a.origin)]
  have h2 := attB_len 64 2 (encPath four a.path)
  have h3 := attB_len 64 3 (be4 a.next.toNat)
  have h4 := path_short (four := four) h
  simp only [List.length_append, be4_length, List.length_cons, List.length_nil] at *
  omega
theorem oldB_len {four : Bool} {a : Attrs} (h : pathOk a.path = true) : (oldB four a).length ≤ 1100 := by
  unfold oldB
  have h1 := attB_len 192 17 (encPath true a.path)
  have h2 := attB_len 192 18 (be4 a.makerAS.toNat ++ be4 a.maker.toNat)
  have h4 := path_short (four := true) h
  simp only [List.length_append, be4_length] at *
  split <;> split <;> (try simp only [List.length_nil]) <;> omega
theorem othersB_len : ∀ (l : List Raw) (last : Int), othersOk last l = true → (othersB l).length ≤ 259 * l.length
  | [], _, _ => by simp [othersB]
  | x :: l, last, h => by
    simp only [othersOk, Bool.and_eq_true, decide_eq_true_eq] at h
    have h1 := othersB_len l x.1 h.2
    have h2 := attB_len 224 x.1 x.2
    have h3 : (othersB (x :: l)).length = (attB 224 x.1 x.2).length + (othersB l).length := by simp [othersB]
    have h4 := h.1.2
    simp only [List.length_cons]
    omega

theorem attr_Put_c (a : Attrs) (four : Bool) (K : List UInt8 → Int → Prop) (hl : a.path.length ≤ 9223372036854775807) (hc : cnt a.path ≤ 9223372036854775807) (hs : ∀ s ∈ a.path, s.2.length ≤ 9223372036854775807) (ho : a.others.length ≤ 9223372036854775807)
    (h : K (if attrsOk a then attrsB four a else []) (errIf (attrsOk a))) : attr_Put_q a four K := by
  unfold attr_Put_q
  simp only [ofI_u32]
  intro _
  refine attr_Check_c a _ hl hc ho fun _ => ?_
  rw [errIf_ne]
  refine IfB.intro (fun h1 => ?_) (fun h1 _ => path_Put_c a.path four _ hl hc fun _ _ => ?_)
  · have h1 : attrsOk a = false := by simpa using h1
    rw [h1] at h ⊢
    exact h
  have h1 : attrsOk a = true := by simpa using h1
  rw [h1] at h
  have hok := h1
  simp only [attrsOk, Bool.and_eq_true, decide_eq_true_eq, Bool.not_eq_true'] at hok
  obtain ⟨⟨⟨⟨⟨⟨_, _⟩, hpok⟩, _⟩, _⟩, hcm⟩, hoth, hol⟩ := hok
  rw [if_pos hpok]
  have hps := path_short (four := four) hpok
  have hpt := path_short (four := true) hpok
  -- what comes last
  have s4 : ∀ c : List UInt8, c.length ≤ 20000 → K (c ++ othersB a.others) 0 → attr_Put_j3 a c K := fun c hc h => by
    dsimp only [attr_Put_j3, attr_Put_j4]
    refine LoopJ.over a.others (fun pre => ((pre.length : Int), c ++ othersB pre, ())) (fun _ => True) (by simp [othersB]) trivial (fun pre x post hp hn _ next hx => ?_) (fun _ next _ => ?_)
    · intro _
      dsimp only [attr_Put_l16]
      have hpre : othersOk (-1) pre = true ∧ othersOk (lastOf (-1) pre) (x :: post) = true := by
        have := hoth
        rw [hp, othersOk_app, Bool.and_eq_true] at this
        exact this
      have hb := othersB_len pre _ hpre.1
      have hx2 : x.2.length ≤ 255 := by
        have := hpre.2
        simp only [othersOk, Bool.and_eq_true, decide_eq_true_eq] at this
        exact this.1.2
      refine ifT (decide_eq_true (show (pre.length : Int) < (a.others.length : Int) by omega)) ⟨by omega, AtN.of (at_pre hp) fun _ _ _ => ?_⟩
      refine put_c _ 224 x.1 [x.2] _ (.inr (.inr (.inr rfl))) (by simp) (by simp; omega) (by simp only [List.length_append]; omega) fun _ _ => of_eq (hx trivial) ?_
      rw [wr_i64 (by omega) (by omega)]
      simp [othersB]
    · dsimp only [attr_Put_l16]
      exact ifF (decide_eq_false (show ¬ (a.others.length : Int) < (a.others.length : Int) by omega)) h
  have s3 : ∀ (c : List UInt8) (b : Bool), c.length ≤ 10000 → K (c ++ ((if b then attB 192 18 (be4 a.makerAS.toNat ++ be4 a.maker.toNat) else []) ++ othersB a.others)) 0 → attr_Put_j2 a c b K := fun c b hc h => by
    dsimp only [attr_Put_j2]
    have hb := attB_len 192 18 (be4 a.makerAS.toNat ++ be4 a.maker.toNat)
    simp only [List.length_append, be4_length] at hb
    refine IfB.intro (fun h1 _ => num_c _ _ fun _ _ => num_c _ _ fun _ _ _ => usual_c c 18 _ _ (.inr (.inr (.inl rfl))) (by simp) ?_ (by omega) fun _ _ => s4 _ ?_ (of_eq2 h ?_)) (fun h1 => s4 _ (by omega) (of_eq2 h ?_))
    · simp only [List.flatten_cons, List.flatten_nil, List.append_nil, List.length_append, be4_length]; omega
    · simp only [List.flatten_cons, List.flatten_nil, List.append_nil, List.length_append]
      have : flagOf 18 = 192 := rfl
      rw [this]; (dsimp only [Attrs.origin, Attrs.path, Attrs.next, Attrs.hasMed, Attrs.med, Attrs.hasLocal, Attrs.loc, Attrs.atomic, Attrs.hasMaker, Attrs.makerAS, Attrs.maker, Attrs.comms, Attrs.others] at *; omega)
    · rw [if_pos h1, ← List.append_assoc]; simp only [List.flatten_cons, List.flatten_nil, List.append_nil]; rfl
    · rw [h1]; simp
  have s2 : ∀ (c : List UInt8), c.length ≤ 9000 → K (c ++ ((if !four && (a.hasMaker && bigAS a.makerAS) then attB 192 18 (be4 a.makerAS.toNat ++ be4 a.maker.toNat) else []) ++ othersB a.others)) 0 → attr_Put_j1 four a c K := fun c hc h => by
    dsimp only [attr_Put_j1]
    rw [big_eq]
    refine IfB.intro (fun h1 => IfB.intro (fun h2 => s3 _ _ (by omega) (of_eq2 h ?_)) (fun h2 => s3 _ _ (by omega) (of_eq2 h ?_))) (fun h1 => s3 _ _ (by omega) (of_eq2 h ?_))
    · have h2 : a.hasMaker = true := h2
      rw [h1, h2]; rfl
    · have h2 : a.hasMaker = false := h2
      rw [h1, h2]; rfl
    · rw [h1]; rfl
  have s1 : ∀ (c : List UInt8) (b : Bool), c.length ≤ 5000 → K (c ++ ((if b then attB 192 17 (encPath true a.path) else []) ++ ((if !four && (a.hasMaker && bigAS a.makerAS) then attB 192 18 (be4 a.makerAS.toNat ++ be4 a.maker.toNat) else []) ++ othersB a.others))) 0 → attr_Put_j0 four a c b K := fun c b hc' h => by
    dsimp only [attr_Put_j0]
    have hb := attB_len 192 17 (encPath true a.path)
    refine IfB.intro (fun h1 _ => path_Put_c a.path true _ hl hc fun _ _ _ => usual_c c 17 _ _ (.inr (.inr (.inl rfl))) (by simp) ?_ (by omega) fun _ _ => s2 _ ?_ (of_eq2 h ?_)) (fun h1 => s2 _ (by omega) (of_eq2 h ?_))
    · rw [if_pos hpok]; simp only [List.flatten_cons, List.flatten_nil, List.append_nil]; omega
    · rw [if_pos hpok]; simp only [List.flatten_cons, List.flatten_nil, List.append_nil, List.length_append]
      have : flagOf 17 = 192 := rfl
      rw [this]; (dsimp only [Attrs.origin, Attrs.path, Attrs.next, Attrs.hasMed, Attrs.med, Attrs.hasLocal, Attrs.loc, Attrs.atomic, Attrs.hasMaker, Attrs.makerAS, Attrs.maker, Attrs.comms, Attrs.others] at *; omega)
    · rw [if_pos h1, if_pos hpok, ← List.append_assoc]; simp only [List.flatten_cons, List.flatten_nil, List.append_nil]; rfl
    · rw [h1]; simp
  have hh := headB_len (four := four) hpok
  have hhd : headB four a = attB 64 1 [ofI .u8 (IntKind.wrap .u8 a.origin)] ++ (attB 64 2 (encPath four a.path) ++ attB 64 3 (be4 a.next.toNat)) := rfl
  have hhl : (headB four a).length = (attB 64 1 [ofI .u8 (IntKind.wrap .u8 a.origin)]).length + ((attB 64 2 (encPath four a.path)).length + (attB 64 3 (be4 a.next.toNat)).length) := by rw [hhd]; simp only [List.length_append]
  have hp := perhB_len four a
  have f1 : flagOf 1 = 64 := rfl
  have f2 : flagOf 2 = 64 := rfl
  have f3 : flagOf 3 = 64 := rfl
  have e1 : ∀ x : List UInt8, [x].flatten = x := fun x => by simp
  refine fun _ => usual_c [] 1 _ _ (.inl rfl) (by simp) (by simp) (by simp) fun _ _ _ => ?_
  rw [e1, f1, List.nil_append]
  refine fun _ => usual_c _ 2 _ _ (.inl rfl) (by simp) (by rw [e1]; (dsimp only [Attrs.origin, Attrs.path, Attrs.next, Attrs.hasMed, Attrs.med, Attrs.hasLocal, Attrs.loc, Attrs.atomic, Attrs.hasMaker, Attrs.makerAS, Attrs.maker, Attrs.comms, Attrs.others] at *; omega)) (by (dsimp only [Attrs.origin, Attrs.path, Attrs.next, Attrs.hasMed, Attrs.med, Attrs.hasLocal, Attrs.loc, Attrs.atomic, Attrs.hasMaker, Attrs.makerAS, Attrs.maker, Attrs.comms, Attrs.others] at *; omega)) fun _ _ _ => ?_
  rw [e1, f2]
  refine num_c _ _ fun _ _ _ => usual_c _ 3 _ _ (.inl rfl) (by simp) (by rw [e1, be4_length]; decide) (by simp only [List.length_append]; (dsimp only [Attrs.origin, Attrs.path, Attrs.next, Attrs.hasMed, Attrs.med, Attrs.hasLocal, Attrs.loc, Attrs.atomic, Attrs.hasMaker, Attrs.makerAS, Attrs.maker, Attrs.comms, Attrs.others] at *; omega)) fun _ _ => ?_
  rw [e1, f3, List.append_assoc]
  rw [← hhd]
  refine fun _ _ => perhaps_c _ a four _ (by (dsimp only [Attrs.origin, Attrs.path, Attrs.next, Attrs.hasMed, Attrs.med, Attrs.hasLocal, Attrs.loc, Attrs.atomic, Attrs.hasMaker, Attrs.makerAS, Attrs.maker, Attrs.comms, Attrs.others] at *; omega)) (by (dsimp only [Attrs.origin, Attrs.path, Attrs.next, Attrs.hasMed, Attrs.med, Attrs.hasLocal, Attrs.loc, Attrs.atomic, Attrs.hasMaker, Attrs.makerAS, Attrs.maker, Attrs.comms, Attrs.others] at *; omega)) fun _ _ => ?_
  have hfin : K ((headB four a ++ perhB four a) ++ ((if !four && greatP a.path then attB 192 17 (encPath true a.path) else []) ++ ((if !four && (a.hasMaker && bigAS a.makerAS) then attB 192 18 (be4 a.makerAS.toNat ++ be4 a.maker.toNat) else []) ++ othersB a.others))) 0 := by
    have e : attrsB four a = (headB four a ++ perhB four a) ++ ((if !four && greatP a.path then attB 192 17 (encPath true a.path) else []) ++ ((if !four && (a.hasMaker && bigAS a.makerAS) then attB 192 18 (be4 a.makerAS.toNat ++ be4 a.maker.toNat) else []) ++ othersB a.others)) := by
      unfold attrsB oldB
      simp only [List.append_assoc]
    rw [← e]
    exact h
  refine IfB.intro (fun h1 _ => great_c a.path _ hl hs fun _ => s1 _ _ (by simp only [List.length_append]; (dsimp only [Attrs.origin, Attrs.path, Attrs.next, Attrs.hasMed, Attrs.med, Attrs.hasLocal, Attrs.loc, Attrs.atomic, Attrs.hasMaker, Attrs.makerAS, Attrs.maker, Attrs.comms, Attrs.others] at *; omega)) (of_eq2 hfin ?_)) (fun h1 => s1 _ _ (by simp only [List.length_append]; (dsimp only [Attrs.origin, Attrs.path, Attrs.next, Attrs.hasMed, Attrs.med, Attrs.hasLocal, Attrs.loc, Attrs.atomic, Attrs.hasMaker, Attrs.makerAS, Attrs.maker, Attrs.comms, Attrs.others] at *; omega)) (of_eq2 hfin ?_))
  · rw [h1]; rfl
  · rw [h1]; rfl

end Go.Proofs.Ytinilfhnplfhoaa
