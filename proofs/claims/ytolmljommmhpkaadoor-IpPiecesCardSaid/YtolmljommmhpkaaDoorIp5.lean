/-
  Packets: cut.
-/
import Derived.Test.YtolmljommmhpkaaDoorIp4
set_option linter.unusedSectionVars false
set_option linter.unusedSimpArgs false
set_option linter.unusedVariables false
namespace Go.Proofs.YtolmljommmhpkaaDoor
open Go.Sh

/-- A packet with some of its data. -/
def pce (id a life kind : Int) (w m : Bool) (s t : UInt32) (d : List UInt8) (i j : Nat) : Pkt := (id, a + ((i / 8 : Nat) : Int), life, kind, w, m || decide (j < d.length), s, t, (d.take j).drop i)
theorem piece_c (id a life kind : Int) (w m : Bool) (s t : UInt32) (d : List UInt8) (i j : Nat) (K : Pkt → Prop) (h1 : i ≤ j) (h2 : j ≤ d.length) (h3 : d.length ≤ 100000) (h4 : 0 ≤ a ∧ a ≤ 8191) (hk : K (pce id a life kind w m s t d i j)) : ip_Packet_piece_q (id, a, life, kind, w, m, s, t, d) i j K := by
  unfold ip_Packet_piece_q
  simp only [Int.toNat_natCast]
  refine ⟨by decide, by omega, by omega, by omega, by omega, by rw [List.length_drop, List.length_take]; simp only [List.length_nil]; omega, ?_⟩
  have e : IntKind.wrap .i64 (a + IntKind.wrap .i64 (Int.tdiv (i : Int) 8)) = a + ((i / 8 : Nat) : Int) := by
    rw [show Int.tdiv (i : Int) 8 = ((i / 8 : Nat) : Int) from rfl, wi64n _ (by omega), wr_i64 (by omega) (by omega)]
  cases m with
  | true =>
    refine ifT rfl ?_
    unfold ip_Packet_piece_j0
    simp only [ofI_u32, e, List.nil_append, Int.toNat_natCast]
    exact hk
  | false =>
    refine ifF rfl ?_
    unfold ip_Packet_piece_j0
    simp only [ofI_u32, e, List.nil_append, Int.toNat_natCast, Int.ofNat_lt]
    exact hk

/-- How many whole pieces. -/
def many (len room : Nat) : Nat := (len - room + (room / 8 * 8 - 1)) / (room / 8 * 8)
theorem many_lt {len room i : Nat} (hr : 8 ≤ room) (h : i < many len room) : room / 8 * 8 * i + room < len := by
  unfold many at h
  have h1 : i + 1 ≤ (len - room + (room / 8 * 8 - 1)) / (room / 8 * 8) := h
  have h2 := (Nat.le_div_iff_mul_le (by omega : 0 < room / 8 * 8)).1 h1
  rw [Nat.add_mul, Nat.one_mul, Nat.mul_comm i] at h2
  omega
theorem many_end {len room : Nat} (hr : 8 ≤ room) : len ≤ room / 8 * 8 * many len room + room := by
  unfold many
  have h1 := Nat.lt_mul_div_succ (len - room + (room / 8 * 8 - 1)) (by omega : 0 < room / 8 * 8)
  rw [Nat.mul_add, Nat.mul_one] at h1
  omega
theorem many_le {len room : Nat} (hr : 8 ≤ room) (h : room < len) : room / 8 * 8 * many len room < len := by
  cases hm : many len room with
  | zero => omega
  | succ k =>
    have := many_lt (len := len) hr (i := k) (by omega)
    rw [Nat.mul_add, Nat.mul_one]
    omega
/-- The whole pieces. -/
def pcs (id a life kind : Int) (w m : Bool) (s t : UInt32) (d : List UInt8) (e n : Nat) : List Pkt := (List.range n).map fun j => pce id a life kind w m s t d (e * j) (e * (j + 1))
theorem pcs_succ (id a life kind : Int) (w m : Bool) (s t : UInt32) (d : List UInt8) (e n : Nat) : pcs id a life kind w m s t d e (n + 1) = pcs id a life kind w m s t d e n ++ [pce id a life kind w m s t d (e * n) (e * (n + 1))] := by
  simp [pcs, List.range_succ]
theorem pcs_len (id a life kind : Int) (w m : Bool) (s t : UInt32) (d : List UInt8) (e n : Nat) : (pcs id a life kind w m s t d e n).length = n := by simp [pcs]
/-- What is cut. -/
def cut (id a life kind : Int) (w m : Bool) (s t : UInt32) (d : List UInt8) (room : Nat) : List Pkt :=
  pcs id a life kind w m s t d (room / 8 * 8) (many d.length room) ++ [pce id a life kind w m s t d (room / 8 * 8 * many d.length room) d.length]
def cutS (id a life kind : Int) (w m : Bool) (s t : UInt32) (d : List UInt8) (most : Int) : List Pkt × Int :=
  if okP id a life kind = false ∨ most < 28 then ([], 2) else if 65515 < d.length then ([], 3) else if (d.length : Int) + 20 ≤ most then ([pce id a life kind w m s t d 0 d.length], 0) else if w = true then ([], 3)
  else if 8191 < a + (((most - 20).toNat / 8 * 8 * many d.length (most - 20).toNat / 8 : Nat) : Int) then ([], 3) else (cut id a life kind w m s t d (most - 20).toNat, 0)

theorem cut_c (id a life kind : Int) (w m : Bool) (s t : UInt32) (d : List UInt8) (most : Int) (K : List Pkt → Int → Prop) (hk : K (cutS id a life kind w m s t d most).1 (cutS id a life kind w m s t d most).2) : ip_Cut_q (id, a, life, kind, w, m, s, t, d) most K := by
  have hbad : okP id a life kind = false ∨ most < 28 → ip_Cut_j0 (id, a, life, kind, w, m, s, t, d) most true K := fun h => by
    rw [cutS, if_pos h] at hk
    unfold ip_Cut_j0
    exact ifT rfl hk
  unfold ip_Cut_q
  simp only [ofI_u32]
  refine fun _ => right_c _ _ _ _ _ _ _ _ _ _ fun _ => IfB.intro (fun h => hbad (Or.inl (by simpa using h))) (fun h => ?_)
  have hok : okP id a life kind = true := by simpa using h
  by_cases h28 : most < 28
  · rw [decide_eq_true h28]; exact hbad (Or.inr h28)
  rw [decide_eq_false h28]
  rw [cutS, if_neg (by rw [hok]; simp; omega)] at hk
  have ha := okP_iff.1 hok
  have ha : 0 ≤ a ∧ a ≤ 8191 := by omega
  unfold ip_Cut_j0
  simp only [ofI_u32]
  refine ifF rfl (IfB.intro (fun h => ?_) (fun h => ?_))
  · rw [if_pos (by simp at h; omega)] at hk; exact hk
  have hd : ¬ 65515 < d.length := by simp at h; omega
  rw [if_neg hd] at hk
  have er : IntKind.wrap .i64 (min most 65535 - 20) = (((min most 65535 - 20).toNat : Nat) : Int) := by rw [wr_i64 (by omega) (by omega)]; omega
  rw [er]
  refine IfB.intro (fun h => ?_) (fun h => ?_)
  · rw [if_pos (by simp at h; omega)] at hk
    intro _
    show ip_Packet_piece_q _ ((0 : Nat) : Int) _ _
    refine piece_c _ _ _ _ _ _ _ _ _ 0 d.length _ (by omega) (Nat.le_refl _) (by omega) ha fun _ => ?_
    exact hk
  have hne : ¬ (d.length : Int) + 20 ≤ most := by simp at h; omega
  rw [if_neg hne] at hk
  refine IfB.intro (fun h => ?_) (fun h => ?_)
  · rw [if_pos h] at hk; exact hk
  rw [if_neg (by rw [h]; decide)] at hk
  have hR : (min most 65535 - 20).toNat = (most - 20).toNat := by omega
  have hR8 : 8 ≤ (most - 20).toNat := by omega
  have hRl : (most - 20).toNat < d.length := by omega
  refine ⟨by decide, ?_⟩
  rw [cut] at hk
  have hlt : ∀ i, i < many d.length (most - 20).toNat → (most - 20).toNat / 8 * 8 * i + (most - 20).toNat < d.length := fun i hi => many_lt hR8 hi
  have hle := many_le hR8 hRl
  have hend := many_end (len := d.length) hR8
  have hE : (most - 20).toNat / 8 * 8 ≤ (most - 20).toNat := by omega
  have hE8 : 8 ≤ (most - 20).toNat / 8 * 8 := by omega
  have eE : IntKind.wrap .i64 (IntKind.wrap .i64 (Int.tdiv (((most - 20).toNat : Nat) : Int) 8) * 8) = (((most - 20).toNat / 8 * 8 : Nat) : Int) := by
    rw [show Int.tdiv (((most - 20).toNat : Nat) : Int) 8 = (((most - 20).toNat / 8 : Nat) : Int) from rfl, wi64n _ (by omega), wr_i64 (by omega) (by omega)]; omega
  refine LoopJ.up (many d.length (most - 20).toNat) (fun i => (pcs id a life kind w m s t d ((most - 20).toNat / 8 * 8) i, (((most - 20).toNat / 8 * 8 * i : Nat) : Int), ())) (fun _ => True) (by simp [pcs]) trivial (fun i hi _ next hn => ?_) (fun _ next => ?_)
  · intro _
    dsimp only [ip_Cut_l13]
    simp only [ofI_u32]
    rw [er, hR, eE]
    have h1 := hlt i hi
    generalize (most - 20).toNat = R at *
    have hs : R / 8 * 8 * (i + 1) = R / 8 * 8 * i + R / 8 * 8 := by rw [Nat.mul_add, Nat.mul_one]
    have e1 : IntKind.wrap .i64 ((d.length : Int) - ((R / 8 * 8 * i : Nat) : Int)) = ((d.length - R / 8 * 8 * i : Nat) : Int) := by rw [wr_i64 (by omega) (by omega)]; omega
    have e2 : IntKind.wrap .i64 (((R / 8 * 8 * i : Nat) : Int) + ((R / 8 * 8 : Nat) : Int)) = ((R / 8 * 8 * (i + 1) : Nat) : Int) := by rw [hs, ← Int.natCast_add, wi64n _ (by omega)]
    rw [e1, e2]
    refine ifT (decide_eq_true (by omega)) fun _ => piece_c _ _ _ _ _ _ _ _ _ _ _ _ (by omega) (by omega) (by omega) ha fun _ => ⟨?_, of_eq (hn trivial) ?_⟩
    · rw [pcs_len]
      have : i ≤ R / 8 * 8 * i := Nat.le_mul_of_pos_left i (by omega)
      simp only [List.length_cons, List.length_nil]
      omega
    · rw [pcs_succ]
  · intro _
    dsimp only [ip_Cut_l13]
    simp only [ofI_u32]
    rw [er, hR]
    generalize (most - 20).toNat = R at *
    have e1 : IntKind.wrap .i64 ((d.length : Int) - ((R / 8 * 8 * many d.length R : Nat) : Int)) = ((d.length - R / 8 * 8 * many d.length R : Nat) : Int) := by rw [wr_i64 (by omega) (by omega)]; omega
    rw [e1]
    have hsm : many d.length R ≤ R / 8 * 8 * many d.length R := Nat.le_mul_of_pos_left _ (by omega)
    refine ifF (decide_eq_false (by omega)) fun _ => piece_c _ _ _ _ _ _ _ _ _ _ _ _ (by omega) (by omega) (by omega) ha fun _ => ?_
    have hl : ∀ x : Pkt, (pcs id a life kind w m s t d (R / 8 * 8) (many d.length R) ++ [x]).length = many d.length R + 1 := fun x => by rw [List.length_append, pcs_len]; rfl
    rw [hl]
    have e2 : IntKind.wrap .i64 (((many d.length R + 1 : Nat) : Int) - 1) = ((many d.length R : Nat) : Int) := by rw [wr_i64 (by omega) (by omega)]; omega
    rw [e2, Int.toNat_natCast, pcs_len]
    refine ⟨by simp only [List.length_cons, List.length_nil]; omega, by omega, by omega, AtN.of (x := pce id a life kind w m s t d (R / 8 * 8 * many d.length R) d.length) ?_ fun _ => IfB.intro (fun h => ?_) (fun h => ?_)⟩
    · rw [List.getElem?_append_right (by rw [pcs_len]; exact Nat.le_refl _), pcs_len, Nat.sub_self]; rfl
    · have h : 8191 < a + ((R / 8 * 8 * many d.length R / 8 : Nat) : Int) := of_decide_eq_true h
      rw [if_pos h] at hk; exact hk
    · have h : ¬ 8191 < a + ((R / 8 * 8 * many d.length R / 8 : Nat) : Int) := of_decide_eq_false h
      rw [if_neg h] at hk; exact hk

theorem pce_all (id a life kind : Int) (w m : Bool) (s t : UInt32) (d : List UInt8) : pce id a life kind w m s t d 0 d.length = (id, a, life, kind, w, m, s, t, d) := by
  unfold pce
  rw [decide_eq_false (Nat.lt_irrefl _), Bool.or_false, List.take_length, Nat.zero_div, List.drop_zero]
  simp

theorem ref_cut_c (id a life kind : Int) (w m : Bool) (s t : UInt32) (d : List UInt8) (most : Int) (K : List Pkt → Int → Prop) (hm : most ≤ 9223372036854775807) (hk : K (cutS id a life kind w m s t d most).1 (cutS id a life kind w m s t d most).2) : ref07_Cut_q (id, a, life, kind, w, m, s, t, d) most K := by
  have hbad : okP id a life kind = false ∨ most < 28 → ref07_Cut_j0 most (id, a, life, kind, w, m, s, t, d) true K := fun h => by
    rw [cutS, if_pos h] at hk
    unfold ref07_Cut_j0
    exact ifT rfl hk
  unfold ref07_Cut_q
  simp only [ofI_u32]
  refine fun _ => ref_right_c _ _ _ _ _ _ _ _ _ _ fun _ => IfB.intro (fun h => hbad (Or.inl (by simpa using h))) (fun h => ?_)
  have hok : okP id a life kind = true := by simpa using h
  by_cases h28 : most < 28
  · rw [decide_eq_true h28]; exact hbad (Or.inr h28)
  rw [decide_eq_false h28]
  rw [cutS, if_neg (by rw [hok]; simp; omega)] at hk
  have ha := okP_iff.1 hok
  have ha : 0 ≤ a ∧ a ≤ 8191 := by omega
  unfold ref07_Cut_j0
  simp only [ofI_u32]
  refine ifF rfl (IfB.intro (fun h => ?_) (fun h => ?_))
  · rw [if_pos (by simp at h; omega)] at hk; exact hk
  have hd : ¬ 65515 < d.length := by simp at h; omega
  rw [if_neg hd] at hk
  have er : IntKind.wrap .i64 (most - 20) = (((most - 20).toNat : Nat) : Int) := by rw [wr_i64 (by omega) (by omega)]; omega
  rw [er]
  refine IfB.intro (fun h => ?_) (fun h => ?_)
  · rw [if_pos (by simp at h; omega), pce_all] at hk
    exact hk
  have hne : ¬ (d.length : Int) + 20 ≤ most := by simp at h; omega
  rw [if_neg hne] at hk
  refine IfB.intro (fun h => ?_) (fun h => ?_)
  · rw [if_pos h] at hk; exact hk
  rw [if_neg (by rw [h]; decide)] at hk
  have hR8 : 8 ≤ (most - 20).toNat := by omega
  have hRl : (most - 20).toNat < d.length := by omega
  refine ⟨by decide, ?_⟩
  rw [cut] at hk
  have hlt : ∀ i, i < many d.length (most - 20).toNat → (most - 20).toNat / 8 * 8 * i + (most - 20).toNat < d.length := fun i hi => many_lt hR8 hi
  have hle := many_le hR8 hRl
  have hend := many_end (len := d.length) hR8
  have hE : (most - 20).toNat / 8 * 8 ≤ (most - 20).toNat := by omega
  have hE8 : 8 ≤ (most - 20).toNat / 8 * 8 := by omega
  have eE : IntKind.wrap .i64 (IntKind.wrap .i64 (Int.tdiv (((most - 20).toNat : Nat) : Int) 8) * 8) = (((most - 20).toNat / 8 * 8 : Nat) : Int) := by
    rw [show Int.tdiv (((most - 20).toNat : Nat) : Int) 8 = (((most - 20).toNat / 8 : Nat) : Int) from rfl, wi64n _ (by omega), wr_i64 (by omega) (by omega)]; omega
  refine LoopJ.up (many d.length (most - 20).toNat) (fun i => (pcs id a life kind w m s t d ((most - 20).toNat / 8 * 8) i, (((most - 20).toNat / 8 * 8 * i : Nat) : Int), ())) (fun _ => True) (by simp [pcs]) trivial (fun i hi _ next hn => ?_) (fun _ next => ?_)
  · intro _
    dsimp only [ref07_Cut_l12]
    simp only [ofI_u32]
    rw [er, eE]
    have h1 := hlt i hi
    generalize (most - 20).toNat = R at *
    have hs : R / 8 * 8 * (i + 1) = R / 8 * 8 * i + R / 8 * 8 := by rw [Nat.mul_add, Nat.mul_one]
    have e1 : IntKind.wrap .i64 ((d.length : Int) - ((R / 8 * 8 * i : Nat) : Int)) = ((d.length - R / 8 * 8 * i : Nat) : Int) := by rw [wr_i64 (by omega) (by omega)]; omega
    have e2 : IntKind.wrap .i64 (((R / 8 * 8 * i : Nat) : Int) + ((R / 8 * 8 : Nat) : Int)) = ((R / 8 * 8 * (i + 1) : Nat) : Int) := by rw [hs, ← Int.natCast_add, wi64n _ (by omega)]
    have e3 : IntKind.wrap .i64 (a + IntKind.wrap .i64 (Int.tdiv ((R / 8 * 8 * i : Nat) : Int) 8)) = a + ((R / 8 * 8 * i / 8 : Nat) : Int) := by
      rw [show Int.tdiv ((R / 8 * 8 * i : Nat) : Int) 8 = ((R / 8 * 8 * i / 8 : Nat) : Int) from rfl, wi64n _ (by omega), wr_i64 (by omega) (by omega)]
    rw [e1, e2, e3]
    simp only [Int.toNat_natCast, List.nil_append]
    have hsm : i ≤ R / 8 * 8 * i := Nat.le_mul_of_pos_left i (by omega)
    refine ifT (decide_eq_true (by omega)) ⟨by decide, by omega, by omega, by omega, by omega, ?_, ?_, of_eq (hn trivial) ?_⟩
    · rw [List.length_drop, List.length_take]; simp only [List.length_nil]; omega
    · rw [pcs_len]
      simp only [List.length_cons, List.length_nil]
      omega
    · rw [pcs_succ]
      unfold pce
      rw [decide_eq_true (by omega : R / 8 * 8 * (i + 1) < d.length), Bool.or_true]
  · intro _
    dsimp only [ref07_Cut_l12]
    simp only [ofI_u32]
    rw [er]
    generalize (most - 20).toNat = R at *
    have e1 : IntKind.wrap .i64 ((d.length : Int) - ((R / 8 * 8 * many d.length R : Nat) : Int)) = ((d.length - R / 8 * 8 * many d.length R : Nat) : Int) := by rw [wr_i64 (by omega) (by omega)]; omega
    have hsm : many d.length R ≤ R / 8 * 8 * many d.length R := Nat.le_mul_of_pos_left _ (by omega)
    have e3 : IntKind.wrap .i64 (a + IntKind.wrap .i64 (Int.tdiv ((R / 8 * 8 * many d.length R : Nat) : Int) 8)) = a + ((R / 8 * 8 * many d.length R / 8 : Nat) : Int) := by
      rw [show Int.tdiv ((R / 8 * 8 * many d.length R : Nat) : Int) 8 = ((R / 8 * 8 * many d.length R / 8 : Nat) : Int) from rfl, wi64n _ (by omega), wr_i64 (by omega) (by omega)]
    rw [e1, e3]
    simp only [Int.toNat_natCast, List.nil_append]
    refine ifF (decide_eq_false (by omega)) ⟨by decide, IfB.intro (fun h => ?_) (fun h => ⟨by decide, by omega, by omega, ?_, ?_, ?_⟩)⟩
    · have h : 8191 < a + ((R / 8 * 8 * many d.length R / 8 : Nat) : Int) := of_decide_eq_true h
      rw [if_pos h] at hk; exact hk
    · rw [List.length_drop]; simp only [List.length_nil]; omega
    · rw [pcs_len]; simp only [List.length_cons, List.length_nil]; omega
    · have h : ¬ 8191 < a + ((R / 8 * 8 * many d.length R / 8 : Nat) : Int) := of_decide_eq_false h
      rw [if_neg h] at hk
      refine of_eq2 hk ?_
      unfold pce
      rw [decide_eq_false (Nat.lt_irrefl _), Bool.or_false, List.take_length]

theorem ipCuts_c (p : Pkt) (most : Int) (hm : most ≤ 9223372036854775807) : law07_IpCuts_q p most (fun r => r = true) := by
  obtain ⟨id, a, life, kind, w, m, s, t, d⟩ := p
  unfold law07_IpCuts_q
  simp only [ofI_u32]
  refine fun _ => few_c _ _ _ _ _ _ _ _ _ 3000 _ (by decide) fun _ _ => ?_
  simp only [ofI_u32]
  refine few_c _ _ _ _ _ _ _ _ _ 3000 _ (by decide) fun _ _ => ?_
  simp only [ofI_u32, fewD_fewD]
  refine cut_c _ _ _ _ _ _ _ _ _ _ _ fun hwf _ => plain_c _ _ fun _ => ?_
  simp only [ofI_u32]
  refine fun _ => ref_cut_c _ _ _ _ _ _ _ _ _ _ _ hm fun _ => ?_
  have hlen : (cutS id a life kind w m s t (fewD d 3000) most).1.length ≤ 9223372036854775807 := by
    simp only [WfPs] at hwf
    exact wfL hwf.1
  generalize cutS id a life kind w m s t (fewD d 3000) most = c at *
  refine ifF (by simp) ?_
  unfold law07_IpCuts_j0
  refine ifF (by simp) (LoopJ.over c.1 (fun pre => ((pre.length : Int), ())) (fun _ => True) rfl trivial (fun pre x post hp hn _ next hx => ?_) (fun _ next => ?_))
  · intro _
    dsimp only [law07_IpCuts_l7]
    refine ifT (decide_eq_true (by omega)) ⟨by omega, AtN.of (at_pre hp) fun _ => ⟨by omega, AtN.of (at_pre hp) fun _ _ => plain_c _ _ fun _ => ?_⟩⟩
    simp only [ofI_u32]
    refine fun _ => same_c _ _ fun _ => ifF rfl (of_eq (hx trivial) ?_)
    rw [wr_i64 (by omega) (by omega)]; simp
  · intro _
    dsimp only [law07_IpCuts_l7]
    exact ifF (decide_eq_false (by omega)) fun _ => works_c _ fun _ => rfl

end Go.Proofs.YtolmljommmhpkaaDoor
