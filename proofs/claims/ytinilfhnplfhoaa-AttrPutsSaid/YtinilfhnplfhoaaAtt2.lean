/-
  Attributes (layer 20): what the program puts.
-/
import Derived.Test.YtinilfhnplfhoaaAtt
namespace Go.Proofs.Ytinilfhnplfhoaa
open Go.Sh

theorem grow_c (n : Int) (K : List UInt8 → Prop) (h0 : 0 ≤ n) (hn : n ≤ 1000000000) (h : K []) : slices_Growasl_byte_byte_at_nil_q n K := by
  unfold slices_Growasl_byte_byte_at_nil_q
  have e : IntKind.wrap .i64 (n - IntKind.wrap .i64 (0 - 0)) = n := by
    rw [wr_i64 (n := 0 - 0) (by omega) (by omega)]
    exact wr_i64 (by omega) (by omega) |>.trans (by omega)
  rw [e]
  refine ifF (decide_eq_false (by omega)) (IfB.intro (fun h1 => ?_) (fun _ => h))
  have h1 : 0 < n := by simpa using h1
  exact ⟨by omega, by omega, h1, hn, by omega, by omega, by simpa using h⟩

theorem sum_pre {pre post : List (List UInt8)} {x : List UInt8} : (pre ++ x :: post).flatten.length = pre.flatten.length + x.length + post.flatten.length := by simp; omega
theorem concat_c (l : List (List UInt8)) (K : List UInt8 → Prop) (hl : l.length ≤ 1000000000) (hf : l.flatten.length ≤ 1000000000) (h : K l.flatten) : slices_Concatasl_byte_byte_q l K := by
  unfold slices_Concatasl_byte_byte_q
  refine LoopJ.over l (fun pre => ((pre.flatten.length : Int), (pre.length : Int), ())) (fun _ => True) rfl trivial (fun pre x post hp hn _ next hx => ?_) (fun _ next _ => ?_)
  · intro _
    dsimp only [slices_Concatasl_byte_byte_l3]
    have hs := sum_pre (pre := pre) (x := x) (post := post)
    rw [← hp] at hs
    refine ifT (decide_eq_true (by omega)) ⟨by omega, AtN.of (at_pre hp) fun _ => ?_⟩
    rw [wr_i64 (n := (pre.flatten.length : Int) + x.length) (by omega) (by omega)]
    refine ifF (decide_eq_false (by omega)) (of_eq (hx trivial) ?_)
    rw [wr_i64 (by omega) (by omega)]
    simp
  · dsimp only [slices_Concatasl_byte_byte_l3]
    refine ifF (decide_eq_false (by omega)) fun _ => grow_c _ _ (by omega) (by omega) fun _ => ?_
    refine LoopJ.over l (fun pre => (pre.flatten, (pre.length : Int), ())) (fun _ => True) rfl trivial (fun pre x post hp hn _ next hx => ?_) (fun _ next _ => ?_)
    · intro _
      dsimp only [slices_Concatasl_byte_byte_l11]
      have hs := sum_pre (pre := pre) (x := x) (post := post)
      rw [← hp] at hs
      refine ifT (decide_eq_true (by omega)) ⟨by omega, AtN.of (at_pre hp) fun _ => ⟨by omega, of_eq (hx trivial) ?_⟩⟩
      rw [wr_i64 (by omega) (by omega)]
      simp
    · dsimp only [slices_Concatasl_byte_byte_l11]
      exact ifF (decide_eq_false (by omega)) h

/-- One attribute. -/
def attB (fl kind : Int) (data : List UInt8) : List UInt8 :=
  (if 255 < data.length then [ofI .u8 (fl + 16), ofI .u8 (IntKind.wrap .u8 kind), UInt8.ofNat (data.length / 256), UInt8.ofNat data.length] else [ofI .u8 fl, ofI .u8 (IntKind.wrap .u8 kind), UInt8.ofNat data.length]) ++ data
theorem attB_len (fl kind : Int) (data : List UInt8) : (attB fl kind data).length ≤ data.length + 4 := by
  unfold attB; split <;> simp
def okFl (fl : Int) : Prop := fl = 64 ∨ fl = 128 ∨ fl = 192 ∨ fl = 224
theorem or_16 {fl : Int} (h : okFl fl) : bitsOr .u8 fl 16 = fl + 16 := by
  rcases h with rfl | rfl | rfl | rfl <;> decide

theorem put_c (c : List UInt8) (fl kind : Int) (parts : List (List UInt8)) (K : List UInt8 → Prop) (hf : okFl fl) (hp : parts.length ≤ 1000) (hl : parts.flatten.length ≤ 100000) (hc : c.length ≤ 100000) (h : K (c ++ attB fl kind parts.flatten)) : attr_writer_put_q c fl kind parts K := by
  unfold attr_writer_put_q
  intro _
  refine concat_c parts _ (by omega) (by omega) fun _ => ?_
  rw [or_16 hf]
  refine IfB.intro (fun h1 => ?_) (fun h1 => ?_)
  · have h1 : 255 < parts.flatten.length := by simp only [decide_eq_true_eq] at h1; omega
    refine ⟨by decide, by simp only [List.length_cons, List.length_nil]; omega, ?_⟩
    refine ⟨by simp only [List.length_append, List.length_cons, List.length_nil]; omega, of_eq h ?_⟩
    rw [fdiv_1, of8w, of8w, attB, if_pos h1, List.append_assoc]
  · have h1 : ¬ 255 < parts.flatten.length := by simp only [decide_eq_false_iff_not] at h1; omega
    refine ⟨by simp only [List.length_cons, List.length_nil]; omega, ?_⟩
    refine ⟨by simp only [List.length_append, List.length_cons, List.length_nil]; omega, of_eq h ?_⟩
    rw [of8w, attB, if_neg h1, List.append_assoc]
theorem usual_c (c : List UInt8) (kind : Int) (parts : List (List UInt8)) (K : List UInt8 → Prop) (hf : okFl (flagOf kind)) (hp : parts.length ≤ 1000) (hl : parts.flatten.length ≤ 100000) (hc : c.length ≤ 100000) (h : K (c ++ attB (flagOf kind) kind parts.flatten)) : attr_writer_usual_q c kind parts K := by
  unfold attr_writer_usual_q
  intro _
  exact attr_known_c kind _ fun _ _ _ => put_c c _ kind parts _ hf hp hl hc fun _ _ => h
theorem num_c (n : Nat) (K : List UInt8 → Prop) (h : K (be4 n)) : attr_num_q (n : Int) K := by
  unfold attr_num_q
  refine ⟨by decide, by decide, by decide, of_eq h ?_⟩
  rw [fdiv_1, fdiv_2, fdiv_3, of8w, of8w, of8w, of8w]; rfl
theorem system_c (x : UInt32) (four : Bool) (K : List UInt8 → Prop) (h : K (encAS four x)) : attr_system_q (x.toNat : Int) four K := by
  unfold attr_system_q
  refine IfB.intro (fun h1 _ => num_c _ _ fun _ => of_eq h ?_) (fun h1 => IfB.intro (fun h2 => ?_) (fun h2 => ?_))
  · rw [h1]; rfl
  · have h2 : x.toNat > 65535 := by simp only [decide_eq_true_eq] at h2; omega
    dsimp only [attr_system_j0]
    exact fun _ => num_c 23456 _ fun _ => ⟨by decide, by decide, of_eq h (by simp [encAS, h1, h2, be2, be4])⟩
  · have h2 : ¬ x.toNat > 65535 := by simp only [decide_eq_false_iff_not] at h2; omega
    dsimp only [attr_system_j0]
    exact fun _ => num_c _ _ fun _ => ⟨by decide, by simp only [be4_length]; decide, of_eq h (by simp [encAS, h1, h2, be2, be4])⟩

/-- What there may be. -/
def perhB (four : Bool) (a : Attrs) : List UInt8 :=
  (if a.hasMed then attB 128 4 (be4 a.med.toNat) else []) ++ ((if a.atomic then attB 64 6 [] else []) ++ ((if a.hasMaker then attB 192 7 (encAS four a.makerAS ++ be4 a.maker.toNat) else []) ++ if 0 < a.comms.length then attB 192 8 (a.comms.flatMap fun x => be4 x.toNat) else []))
theorem be4s_len : ∀ l : List UInt32, (l.flatMap fun x => be4 x.toNat).length = 4 * l.length
  | [] => rfl
  | x :: l => by simp only [List.flatMap_cons, List.length_append, List.length_cons, be4s_len l, be4_length]; omega
theorem perhB_len (four : Bool) (a : Attrs) : (perhB four a).length ≤ 4 * a.comms.length + 100 := by
  unfold perhB
  have h1 := attB_len 128 4 (be4 a.med.toNat)
  have h2 := attB_len 64 6 []
  have h3 := attB_len 192 7 (encAS four a.makerAS ++ be4 a.maker.toNat)
  have h4 := attB_len 192 8 (a.comms.flatMap fun x => be4 x.toNat)
  have h5 := encAS_len four a.makerAS
  rw [be4s_len] at h4
  simp only [List.length_append, be4_length, List.length_nil] at *
  split <;> split <;> split <;> split <;> (try simp only [List.length_nil]) <;> omega

theorem perhaps_c (c : List UInt8) (a : Attrs) (four : Bool) (K : List UInt8 → Prop) (hc : c.length ≤ 10000) (hm : a.comms.length ≤ 100) (h : K (c ++ perhB four a)) : attr_writer_perhaps_q c a four K := by
  obtain ⟨origin, path, nxt, hasMed, med, hasLocal, loc, atomic, hasMaker, makerAS, maker, comms, others⟩ := a
  simp only [perhB, Attrs.hasMed, Attrs.med, Attrs.atomic, Attrs.hasMaker, Attrs.makerAS, Attrs.maker, Attrs.comms] at *
  have s3 : ∀ (c : List UInt8), c.length ≤ 20000 → K (c ++ if 0 < comms.length then attB 192 8 (comms.flatMap fun x => be4 x.toNat) else []) → attr_writer_perhaps_j2 (origin, path, nxt, hasMed, med, hasLocal, loc, atomic, hasMaker, makerAS, maker, comms, others) c K := fun c hc h => by
    dsimp only [attr_writer_perhaps_j2]
    refine IfB.intro (fun h1 => ?_) (fun h1 => of_eq h ?_)
    · have h1 : 0 < comms.length := by simpa using h1
      rw [if_pos h1] at h
      refine LoopJ.over comms (fun pre => (pre.map fun x => be4 x.toNat, (pre.length : Int), ())) (fun _ => True) rfl trivial (fun pre x post hp hn _ next hx => ?_) (fun _ next _ => ?_)
      · intro _
        dsimp only [attr_writer_perhaps_l10]
        refine ifT (decide_eq_true (by omega)) ⟨by omega, AtN.of (at_pre hp) fun _ _ => num_c _ _ fun _ => ⟨by simp only [List.length_map, List.length_cons, List.length_nil]; omega, of_eq (hx trivial) ?_⟩⟩
        rw [wr_i64 (by omega) (by omega)]
        simp
      · dsimp only [attr_writer_perhaps_l10]
        have e : (comms.map fun x => be4 x.toNat).flatten = comms.flatMap fun x => be4 x.toNat := by simp [List.flatMap]
        have hfl := be4s_len comms
        refine ifF (decide_eq_false (by omega)) fun _ _ => usual_c c 8 _ _ (.inr (.inr (.inl rfl))) (by simp; omega) (by rw [e]; omega) (by omega) fun _ _ => of_eq h ?_
        rw [e]; rfl
    · have h1 : ¬ 0 < comms.length := by simp at h1; simp [h1]
      rw [if_neg h1, List.append_nil]
  have s2 : ∀ (c : List UInt8), c.length ≤ 15000 → K (c ++ ((if hasMaker then attB 192 7 (encAS four makerAS ++ be4 maker.toNat) else []) ++ if 0 < comms.length then attB 192 8 (comms.flatMap fun x => be4 x.toNat) else [])) → attr_writer_perhaps_j1 four (origin, path, nxt, hasMed, med, hasLocal, loc, atomic, hasMaker, makerAS, maker, comms, others) c K := fun c hc h => by
    dsimp only [attr_writer_perhaps_j1]
    have hl := encAS_len four makerAS
    have hb := attB_len 192 7 (encAS four makerAS ++ be4 maker.toNat)
    simp only [List.length_append, be4_length] at hb
    refine IfB.intro (fun h1 _ => system_c _ _ _ fun _ _ => num_c _ _ fun _ _ _ => usual_c c 7 _ _ (.inr (.inr (.inl rfl))) (by simp) ?_ (by omega) fun _ _ => s3 _ ?_ (of_eq h ?_)) (fun h1 => s3 _ (by omega) (of_eq h ?_))
    · simp only [List.flatten_cons, List.flatten_nil, List.append_nil, List.length_append, be4_length]; omega
    · simp only [List.flatten_cons, List.flatten_nil, List.append_nil, List.length_append]
      have : flagOf 7 = 192 := rfl
      rw [this]; omega
    · rw [if_pos h1, ← List.append_assoc]; simp only [List.flatten_cons, List.flatten_nil, List.append_nil]; rfl
    · rw [h1]; simp
  have s1 : ∀ (c : List UInt8), c.length ≤ 12000 → K (c ++ ((if atomic then attB 64 6 [] else []) ++ ((if hasMaker then attB 192 7 (encAS four makerAS ++ be4 maker.toNat) else []) ++ if 0 < comms.length then attB 192 8 (comms.flatMap fun x => be4 x.toNat) else []))) → attr_writer_perhaps_j0 four (origin, path, nxt, hasMed, med, hasLocal, loc, atomic, hasMaker, makerAS, maker, comms, others) c K := fun c hc h => by
    dsimp only [attr_writer_perhaps_j0]
    have hb := attB_len 64 6 []
    simp only [List.length_nil] at hb
    refine IfB.intro (fun h1 _ _ => usual_c c 6 _ _ (.inl rfl) (by decide) (by decide) (by omega) fun _ _ => s2 _ ?_ (of_eq h ?_)) (fun h1 => s2 _ (by omega) (of_eq h ?_))
    · have : flagOf 6 = 64 := rfl
      rw [this]; simp only [List.length_append, List.flatten_nil]; omega
    · rw [if_pos h1, ← List.append_assoc]; rfl
    · rw [h1]; simp
  dsimp only [attr_writer_perhaps_q]
  have hb := attB_len 128 4 (be4 med.toNat)
  simp only [be4_length] at hb
  refine IfB.intro (fun h1 _ => num_c _ _ fun _ _ _ => usual_c c 4 _ _ (.inr (.inl rfl)) (by simp) ?_ (by omega) fun _ _ => s1 _ ?_ (of_eq h ?_)) (fun h1 => s1 _ (by omega) (of_eq h ?_))
  · simp [be4_length]
  · simp only [List.flatten_cons, List.flatten_nil, List.append_nil, List.length_append]
    have : flagOf 4 = 128 := rfl
    rw [this]; omega
  · rw [if_pos h1, ← List.append_assoc]; simp only [List.flatten_cons, List.flatten_nil, List.append_nil]; rfl
  · rw [h1]; simp

end Go.Proofs.Ytinilfhnplfhoaa
