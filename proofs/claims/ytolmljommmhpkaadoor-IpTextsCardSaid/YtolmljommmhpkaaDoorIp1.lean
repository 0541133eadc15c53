/-
  Packets: what is right, built.
-/
import Derived.Test.YtolmljommmhpkaaDoorSum
set_option linter.unusedSectionVars false
set_option linter.unusedSimpArgs false
set_option linter.unusedVariables false
namespace Go.Proofs.YtolmljommmhpkaaDoor
open Go.Sh

abbrev Pkt := Int × Int × Int × Int × Bool × Bool × UInt32 × UInt32 × List UInt8

theorem wi64n (a : Nat) (h : a ≤ 9223372036854775807) : IntKind.wrap .i64 (a : Int) = (a : Int) := wr_i64 (by omega) (by omega)
theorem wi20 (a : Nat) (h : a ≤ 1000000) : IntKind.wrap .i64 (20 + (a : Int)) = ((20 + a : Nat) : Int) := by rw [wr_i64 (by omega) (by omega)]; omega

/-- A packet with at most so many bytes. -/
def fewD (d : List UInt8) (m : Nat) : List UInt8 := if 65515 < d.length then List.replicate 65516 0 else d.take m
theorem fewD_fewD (d : List UInt8) (m : Nat) : fewD (fewD d m) m = fewD d m := by
  unfold fewD
  by_cases h : 65515 < d.length
  · rw [if_pos h, if_pos (by rw [List.length_replicate]; decide)]
  · rw [if_neg h, if_neg (by rw [List.length_take]; omega), List.take_take, Nat.min_self]
theorem fewD_len (d : List UInt8) (m : Nat) : (fewD d m).length ≤ 65516 := by
  unfold fewD; split
  · rw [List.length_replicate]; exact Nat.le_refl _
  · rw [List.length_take]; omega
theorem fewD_short {d : List UInt8} {m : Nat} (h : (fewD d m).length ≤ 65515) : (fewD d m).length ≤ m := by
  unfold fewD at h ⊢; split
  · rename_i h1; rw [if_pos h1, List.length_replicate] at h; omega
  · rw [List.length_take]; omega
theorem few_c (id at_ life kind : Int) (w m : Bool) (s t : UInt32) (d : List UInt8) (n : Nat) (K : Pkt → Prop) (hn : n ≤ 60000) (hk : K (id, at_, life, kind, w, m, s, t, fewD d n)) : law07_few_q (id, at_, life, kind, w, m, s, t, d) n K := by
  unfold law07_few_q
  simp only
  refine IfB.intro (fun h => ⟨by decide, by decide, by decide, ?_⟩) (fun h => ?_)
  · unfold law07_few_j0
    simp only [ofI_u32]
    have h : 65515 < d.length := by simp at h; omega
    rw [fewD, if_pos h] at hk
    exact hk
  · have h : ¬ 65515 < d.length := by simp at h; omega
    refine ⟨by omega, by omega, fun _ => ?_⟩
    unfold base_Bytes_q
    refine ⟨by simp only [List.length_nil, List.length_take]; omega, fun _ => ?_⟩
    unfold law07_few_j0
    simp only [ofI_u32]
    refine of_eq hk ?_
    have e : (min (d.length : Int) (n : Int)).toNat = min d.length n := by omega
    rw [fewD, if_neg h, e, List.nil_append]
    by_cases h2 : d.length ≤ n
    · rw [Nat.min_eq_left h2, List.take_length, List.take_of_length_le h2]
    · rw [Nat.min_eq_right (by omega)]

/-- Are the numbers right? -/
def okP (id at_ life kind : Int) : Bool := decide (0 ≤ at_ ∧ at_ ≤ 8191 ∧ 0 ≤ id ∧ id ≤ 65535 ∧ 0 ≤ life ∧ life ≤ 255 ∧ 0 ≤ kind ∧ kind ≤ 255)
theorem okP_iff {id at_ life kind : Int} : okP id at_ life kind = true ↔ (0 ≤ at_ ∧ at_ ≤ 8191 ∧ 0 ≤ id ∧ id ≤ 65535 ∧ 0 ≤ life ∧ life ≤ 255 ∧ 0 ≤ kind ∧ kind ≤ 255) := by simp [okP]
theorem okP_not {id at_ life kind : Int} (h : ¬ (0 ≤ at_ ∧ at_ ≤ 8191 ∧ 0 ≤ id ∧ id ≤ 65535 ∧ 0 ≤ life ∧ life ≤ 255 ∧ 0 ≤ kind ∧ kind ≤ 255)) : okP id at_ life kind = false := decide_eq_false h
theorem within2 {x : Int} {n : Int} {Y : Bool → Prop} (h1 : ¬ (0 ≤ x ∧ x ≤ n) → Y true) (h2 : 0 ≤ x ∧ x ≤ n → Y false) : IfB (decide (x < 0)) (Y true) (Y (decide (x > n))) := by
  refine IfB.intro (fun h => h1 ?_) (fun h => ?_)
  · simp at h; omega
  · have h : ¬ x < 0 := by simpa using h
    by_cases h3 : x > n
    · rw [decide_eq_true h3]; exact h1 (by omega)
    · rw [decide_eq_false h3]; exact h2 (by omega)
theorem right_c (id at_ life kind : Int) (w m : Bool) (s t : UInt32) (d : List UInt8) (K : Bool → Prop) (hk : K (okP id at_ life kind)) : ip_Packet_right_q (id, at_, life, kind, w, m, s, t, d) K := by
  unfold ip_Packet_right_q
  simp only
  refine within2 (x := at_) (Y := fun b => ip_Packet_right_j0 (id, at_, life, kind, w, m, s, t, d) b K) (fun h => ?_) (fun h1 => ?_)
  · rw [okP_not (by omega)] at hk; exact hk
  refine within2 (x := id) (Y := fun b => ip_Packet_right_j1 (id, at_, life, kind, w, m, s, t, d) b K) (fun h => ?_) (fun h2 => ?_)
  · rw [okP_not (by omega)] at hk; exact hk
  refine within2 (x := life) (Y := fun b => ip_Packet_right_j2 (id, at_, life, kind, w, m, s, t, d) b K) (fun h => ?_) (fun h3 => ?_)
  · rw [okP_not (by omega)] at hk; exact hk
  refine within2 (x := kind) (Y := fun b => ip_Packet_right_j3 (id, at_, life, kind, w, m, s, t, d) b K) (fun h => ?_) (fun h4 => ?_)
  · rw [okP_not (by omega)] at hk; exact hk
  rw [okP_iff.2 (by omega)] at hk; exact hk
theorem within_c (x n : Int) (K : Bool → Prop) (hk : K (decide (0 ≤ x ∧ x ≤ n))) : ref07_within_q x n K := by
  unfold ref07_within_q
  refine IfB.intro (fun h => of_eq hk ?_) (fun h => of_eq hk ?_)
  · have h : 0 ≤ x := by simpa using h
    simp [h]
  · have h : ¬ 0 ≤ x := by simpa using h
    simp [h]
theorem ref_right_c (id at_ life kind : Int) (w m : Bool) (s t : UInt32) (d : List UInt8) (K : Bool → Prop) (hk : K (okP id at_ life kind)) : ref07_right_q (id, at_, life, kind, w, m, s, t, d) K := by
  unfold ref07_right_q
  simp only
  intro _
  refine within_c _ _ _ fun _ => IfB.intro (fun h1 => ?_) (fun h1 => ?_)
  · intro _
    refine within_c _ _ _ fun _ => IfB.intro (fun h2 => ?_) (fun h2 => ?_)
    · intro _
      refine within_c _ _ _ fun _ => IfB.intro (fun h3 => ?_) (fun h3 => ?_)
      · intro _
        refine within_c _ _ _ fun _ => of_eq hk ?_
        have h1 := of_decide_eq_true h1; have h2 := of_decide_eq_true h2; have h3 := of_decide_eq_true h3
        rw [Bool.eq_iff_iff, okP_iff, decide_eq_true_iff]
        omega
      · have := of_decide_eq_false h3; rw [okP_not (by omega)] at hk; exact hk
    · have := of_decide_eq_false h2; rw [okP_not (by omega)] at hk; exact hk
  · have := of_decide_eq_false h1; rw [okP_not (by omega)] at hk; exact hk

/-- Flags, and the place. -/
def fl (a : Nat) (w m : Bool) : Nat := a + (if w then 16384 else 0) + (if m then 8192 else 0)
theorem fl_lt {a : Nat} (w m : Bool) (h : a ≤ 8191) : fl a w m < 32768 := by unfold fl; split <;> split <;> omega
theorem flags_c (id life kind : Int) (a : Nat) (w m : Bool) (s t : UInt32) (d : List UInt8) (K : Int → Prop) (ha : a ≤ 8191) (hk : K (fl a w m)) : ip_Packet_flags_q (id, a, life, kind, w, m, s, t, d) K := by
  unfold ip_Packet_flags_q
  simp only
  have h16 : bitsOr .i64 (a : Int) 16384 = ((a + 16384 : Nat) : Int) := by
    rw [show (16384 : Int) = ((16384 : Nat) : Int) from rfl, or_nat .i64 a 16384 (lt_i64 (by omega)) (lt_i64 (by decide)), or_16384 a (by omega), wi64n _ (by omega)]
  have h8 : bitsOr .i64 (a : Int) 8192 = ((a + 8192 : Nat) : Int) := by
    rw [show (8192 : Int) = ((8192 : Nat) : Int) from rfl, or_nat .i64 a 8192 (lt_i64 (by omega)) (lt_i64 (by decide)), or_8192 a (by omega), wi64n _ (by omega)]
  have h24 : bitsOr .i64 ((a + 16384 : Nat) : Int) 8192 = ((a + 16384 + 8192 : Nat) : Int) := by
    rw [show (8192 : Int) = ((8192 : Nat) : Int) from rfl, or_nat .i64 _ 8192 (lt_i64 (by omega)) (lt_i64 (by decide))]
    have : (a + 16384) ||| 8192 = a + 16384 + 8192 := by
      have e1 : (a + 16384) ||| 8192 = (a ||| 8192) ||| 16384 := by rw [← or_16384 a (by omega), Nat.or_assoc, Nat.or_comm 16384 8192, ← Nat.or_assoc]
      have e2 := or_8192 a (by omega)
      have e3 := or_16384 (a + 8192) (by omega)
      rw [e2] at e1
      omega
    rw [this, wi64n _ (by omega)]
  cases w <;> cases m <;> dsimp only [IfB, ip_Packet_flags_j0]
  · rw [show fl a false false = a by simp [fl]] at hk; exact hk
  · rw [show fl a false true = a + 8192 by simp [fl]] at hk; rw [h8]; exact hk
  · rw [show fl a true false = a + 16384 by simp [fl]] at hk; rw [h16]; exact hk
  · rw [show fl a true true = a + 16384 + 8192 by simp [fl]] at hk; rw [h16, h24]; exact hk

/-- A packet's head. -/
def hd (id a life kind : Nat) (w m : Bool) (s t : UInt32) (len c : Nat) : List UInt8 :=
  [69, 0, UInt8.ofNat ((20 + len) / 256), UInt8.ofNat (20 + len), UInt8.ofNat (id / 256), UInt8.ofNat id, UInt8.ofNat (fl a w m / 256), UInt8.ofNat (fl a w m), UInt8.ofNat life, UInt8.ofNat kind, UInt8.ofNat (c / 256), UInt8.ofNat c,
   UInt8.ofNat (s.toNat / 65536 / 256), UInt8.ofNat (s.toNat / 65536), UInt8.ofNat (s.toNat / 256), UInt8.ofNat s.toNat, UInt8.ofNat (t.toNat / 65536 / 256), UInt8.ofNat (t.toNat / 65536), UInt8.ofNat (t.toNat / 256), UInt8.ofNat t.toNat]
theorem hd_len (id a life kind : Nat) (w m : Bool) (s t : UInt32) (len c : Nat) : (hd id a life kind w m s t len c).length = 20 := rfl
/-- With its sum. -/
def hds (id a life kind : Nat) (w m : Bool) (s t : UInt32) (len : Nat) : List UInt8 := hd id a life kind w m s t len (65535 - tot (hd id a life kind w m s t len 0))
/-- What is built. -/
def bld (id at_ life kind : Int) (w m : Bool) (s t : UInt32) (d : List UInt8) : List UInt8 × Int :=
  if okP id at_ life kind = false then ([], 2) else if 65515 < d.length then ([], 3) else (hds id.toNat at_.toNat life.toNat kind.toNat w m s t d.length ++ d, 0)

theorem build_c (id at_ life kind : Int) (w m : Bool) (s t : UInt32) (d : List UInt8) (K : List UInt8 → Int → Prop) (hk : K (bld id at_ life kind w m s t d).1 (bld id at_ life kind w m s t d).2) : ip_Build_q (id, at_, life, kind, w, m, s, t, d) K := by
  unfold ip_Build_q
  simp only [ofI_u32]
  intro _
  refine right_c _ _ _ _ _ _ _ _ _ _ fun _ => IfB.intro (fun h => ?_) (fun h => IfB.intro (fun h2 => ?_) (fun h2 => ?_))
  · have h : okP id at_ life kind = false := by simpa using h
    rw [bld, if_pos h] at hk; exact hk
  · have h : okP id at_ life kind = true := by simpa using h
    rw [bld, if_neg (by rw [h]; decide), if_pos (by simp at h2; omega)] at hk; exact hk
  · have h : okP id at_ life kind = true := by simpa using h
    have h2 : ¬ 65515 < d.length := by simp at h2; omega
    rw [bld, if_neg (by rw [h]; decide), if_neg h2] at hk
    rw [okP_iff] at h
    obtain ⟨id, rfl⟩ := Int.eq_ofNat_of_zero_le h.2.2.1
    obtain ⟨a, rfl⟩ := Int.eq_ofNat_of_zero_le h.1
    obtain ⟨life, rfl⟩ := Int.eq_ofNat_of_zero_le h.2.2.2.2.1
    obtain ⟨kind, rfl⟩ := Int.eq_ofNat_of_zero_le h.2.2.2.2.2.2.1
    refine ⟨by decide, by decide, fun _ => flags_c _ _ _ _ _ _ _ _ _ _ (by omega) fun _ => ?_⟩
    have hs := u32_lt s; have ht := u32_lt t
    have hf := fl_lt w m (a := a) (by omega)
    simp (disch := omega) only [of8w, fdiv_1, fdiv_2, wi64n, wi20]
    refine ⟨by decide, by decide, by decide, by decide, by decide, by decide, by decide, fun _ => ?_⟩
    refine sum_Of_c _ _ (by simp) fun _ => ⟨by decide, ?_⟩
    simp only [Int.toNat_natCast] at hk
    have e0 : hd id a life kind w m s t d.length 0 = [ofI .u8 69, ofI .u8 0, UInt8.ofNat ((20 + d.length) / 256), UInt8.ofNat (20 + d.length), UInt8.ofNat (id / 256), UInt8.ofNat id, UInt8.ofNat (fl a w m / 256), UInt8.ofNat (fl a w m), UInt8.ofNat life, UInt8.ofNat kind, ofI .u8 0, ofI .u8 0,
   UInt8.ofNat (s.toNat / 65536 / 256), UInt8.ofNat (s.toNat / 65536), UInt8.ofNat (s.toNat / 256), UInt8.ofNat s.toNat, UInt8.ofNat (t.toNat / 65536 / 256), UInt8.ofNat (t.toNat / 65536), UInt8.ofNat (t.toNat / 256), UInt8.ofNat t.toNat] := rfl
    rw [← e0]
    refine ⟨?_, of_eq2 hk ?_⟩
    · show 20 + d.length ≤ _
      omega
    · rw [hds, hd]
      have ht := tot_le (hd id a life kind w m s t d.length 0)
      simp (disch := omega) only [of8w, fdiv_1, wi64n]
      rfl

theorem two_c (n : Nat) (K : List UInt8 → Prop) (h : n ≤ 9223372036854775807) (hk : K [UInt8.ofNat (n / 256), UInt8.ofNat n]) : ref07_two_q n K := by
  unfold ref07_two_q
  refine ⟨by decide, by decide, by decide, of_eq hk ?_⟩
  rw [tdiv_1, wi64n _ (by omega), tmod_1, tmod_1, of8w, of8w, u8_mod, u8_mod]
theorem four_c (n : Nat) (K : List UInt8 → Prop) (h : n < 4294967296) (hk : K [UInt8.ofNat (n / 65536 / 256), UInt8.ofNat (n / 65536), UInt8.ofNat (n / 256), UInt8.ofNat n]) : ref07_four_q n K := by
  unfold ref07_four_q
  refine ⟨by decide, fun _ => ?_⟩
  rw [tdiv_2, tmod_2, wu32 (by omega), wi64n _ (by omega), wi64n _ (by omega)]
  refine two_c _ _ (by omega) fun _ => ⟨by decide, fun _ => two_c _ _ (by omega) fun _ => ⟨by simp, of_eq hk ?_⟩⟩
  have e : UInt8.ofNat (n % 65536 / 256) = UInt8.ofNat (n / 256) := by
    rw [← u8_mod (n % 65536 / 256), ← u8_mod (n / 256)]; congr 1; omega
  have e2 : UInt8.ofNat (n % 65536) = UInt8.ofNat n := by
    rw [← u8_mod (n % 65536), ← u8_mod n]; congr 1; omega
  rw [e, e2]; rfl

theorem ref_build_c (id at_ life kind : Int) (w m : Bool) (s t : UInt32) (d : List UInt8) (K : List UInt8 → Int → Prop) (hk : K (bld id at_ life kind w m s t d).1 (bld id at_ life kind w m s t d).2) : ref07_Build_q (id, at_, life, kind, w, m, s, t, d) K := by
  unfold ref07_Build_q
  simp only [ofI_u32]
  intro _
  refine ref_right_c _ _ _ _ _ _ _ _ _ _ fun _ => IfB.intro (fun h => ?_) (fun h => IfB.intro (fun h2 => ?_) (fun h2 => ?_))
  · have h : okP id at_ life kind = false := by simpa using h
    rw [bld, if_pos h] at hk; exact hk
  · have h : okP id at_ life kind = true := by simpa using h
    rw [bld, if_neg (by rw [h]; decide), if_pos (by simp at h2; omega)] at hk; exact hk
  · have h : okP id at_ life kind = true := by simpa using h
    have h2 : ¬ 65515 < d.length := by simp at h2; omega
    rw [bld, if_neg (by rw [h]; decide), if_neg h2] at hk
    rw [okP_iff] at h
    obtain ⟨id, rfl⟩ := Int.eq_ofNat_of_zero_le h.2.2.1
    obtain ⟨a, rfl⟩ := Int.eq_ofNat_of_zero_le h.1
    obtain ⟨life, rfl⟩ := Int.eq_ofNat_of_zero_le h.2.2.2.2.1
    obtain ⟨kind, rfl⟩ := Int.eq_ofNat_of_zero_le h.2.2.2.2.2.2.1
    have hs := u32_lt s; have ht := u32_lt t
    have hf := fl_lt w m (a := a) (by omega)
    simp only [Int.toNat_natCast] at hk
    have hj1 : ref07_Build_j1 (id, a, life, kind, w, m, s, t, d) (fl a w m) K := by
      unfold ref07_Build_j1
      simp only
      rw [wi20 _ (by omega)]
      intro _
      refine two_c _ _ (by omega) fun _ => ⟨by simp, fun _ => two_c _ _ (by omega) fun _ => ⟨by simp, fun _ => two_c _ _ (by omega) fun _ => ⟨by simp, by simp, fun _ => four_c _ _ (by omega) fun _ => ⟨by simp, fun _ => four_c _ _ (by omega) fun _ => ⟨by simp, fun _ => ?_⟩⟩⟩⟩⟩
      rw [of8w, of8w]
      have e0 : ((((((([ofI .u8 69, ofI .u8 0] : List UInt8) ++ [UInt8.ofNat ((20 + d.length) / 256), UInt8.ofNat (20 + d.length)]) ++ [UInt8.ofNat (id / 256), UInt8.ofNat id]) ++ [UInt8.ofNat (fl a w m / 256), UInt8.ofNat (fl a w m)]) ++ [UInt8.ofNat life, UInt8.ofNat kind, ofI .u8 0, ofI .u8 0]) ++ [UInt8.ofNat (s.toNat / 65536 / 256), UInt8.ofNat (s.toNat / 65536), UInt8.ofNat (s.toNat / 256), UInt8.ofNat s.toNat]) ++ [UInt8.ofNat (t.toNat / 65536 / 256), UInt8.ofNat (t.toNat / 65536), UInt8.ofNat (t.toNat / 256), UInt8.ofNat t.toNat]) = hd id a life kind w m s t d.length 0 := rfl
      rw [e0]
      refine ref01_Of_c _ _ (by simp [hd_len]) fun _ => ?_
      have ht := tot_le (hd id a life kind w m s t d.length 0)
      rw [wi64n _ (by omega)]
      intro _
      refine two_c _ _ (by omega) fun _ => ⟨by decide, by simp, AtN.of rfl fun _ => ⟨by decide, by simp, AtN.of rfl fun _ => ⟨by decide, by simp [hd_len], AtN.of rfl fun _ => ⟨by decide, by simp [hd_len], AtN.of rfl fun _ => ⟨?_, of_eq2 hk ?_⟩⟩⟩⟩⟩
      · show 20 + d.length ≤ _
        omega
      · rw [ofI_u8, ofI_u8]
        rfl
    have hw : ∀ x y : Nat, x + y ≤ 65536 → IntKind.wrap .i64 ((x : Int) + (y : Int)) = ((x + y : Nat) : Int) := fun x y h => by
      rw [← Int.natCast_add, wi64n _ (by omega)]
    cases w <;> cases m <;> simp only [IfB, ref07_Build_j0]
    · exact hj1
    · have := hw a 8192 (by omega)
      rw [show ((8192 : Nat) : Int) = 8192 from rfl] at this
      rw [this]; exact hj1
    · have := hw a 16384 (by omega)
      rw [show ((16384 : Nat) : Int) = 16384 from rfl] at this
      rw [this]; exact hj1
    · have := hw a 16384 (by omega)
      rw [show ((16384 : Nat) : Int) = 16384 from rfl] at this
      rw [this]
      have := hw (a + 16384) 8192 (by omega)
      rw [show ((8192 : Nat) : Int) = 8192 from rfl] at this
      rw [this]; exact hj1

end Go.Proofs.YtolmljommmhpkaaDoor
