/-
  Packets: read.
-/
import Derived.Test.YtolmljommmhpkaaDoorIp1
set_option linter.unusedSectionVars false
set_option linter.unusedSimpArgs false
set_option linter.unusedVariables false
namespace Go.Proofs.YtolmljommmhpkaaDoor
open Go.Sh

/-- A byte, and two, at a place. -/
def g (b : List UInt8) (i : Nat) : Nat := (b[i]?.getD 0).toNat
def gw (b : List UInt8) (i : Nat) : Nat := 256 * g b i + g b (i + 1)
theorem g_lt (b : List UInt8) (i : Nat) : g b i < 256 := u8_lt _
theorem gw_lt (b : List UInt8) (i : Nat) : gw b i < 65536 := by
  have := g_lt b i; have := g_lt b (i + 1); unfold gw; omega
theorem g_at {b : List UInt8} {i : Nat} (h : i < b.length) : b[i]? = some b[i] ∧ g b i = b[i].toNat := by
  unfold g; rw [List.getElem?_eq_getElem h]; exact ⟨rfl, rfl⟩
def noP : Pkt := (0, 0, 0, 0, false, false, 0, 0, [])
/-- What is read. -/
def rd (b : List UInt8) : Pkt × Int :=
  if b.length < 20 ∨ g b 0 / 16 ≠ 4 then (noP, 70)
  else if 4 * (g b 0 % 16) < 20 ∨ b.length < 4 * (g b 0 % 16) ∨ gw b 2 < 4 * (g b 0 % 16) ∨ b.length < gw b 2 ∨ 128 ≤ g b 6 then (noP, 70)
  else if tot (b.take (4 * (g b 0 % 16))) ≠ 65535 then (noP, 71)
  else (((gw b 4 : Int), ((gw b 6 % 8192 : Nat) : Int), (g b 8 : Int), (g b 9 : Int), decide (gw b 6 / 16384 % 2 = 1), decide (gw b 6 / 8192 % 2 = 1), UInt32.ofNat (65536 * gw b 12 + gw b 14), UInt32.ofNat (65536 * gw b 16 + gw b 18), (b.take (gw b 2)).drop (4 * (g b 0 % 16))), 0)

theorem get16_d (b : List UInt8) (i : Nat) (K : Int → Prop) (h : i + 1 < b.length) (hk : K (gw b i)) : ip_get16_q (b.drop i) K := by
  unfold ip_get16_q
  obtain ⟨h1, h2⟩ := g_at (b := b) (i := i) (by omega)
  obtain ⟨h3, h4⟩ := g_at (b := b) (i := i + 1) h
  refine ⟨by decide, AtN.of (x := b[i]) (by rw [List.getElem?_drop]; exact h1) fun _ => ⟨by decide, by decide, AtN.of (x := b[i + 1]) (by rw [List.getElem?_drop]; exact h3) fun _ => of_eq hk ?_⟩⟩
  rw [← h2, ← h4]
  have a1 := g_lt b i; have a2 := g_lt b (i + 1)
  rw [wi64n _ (by omega), wi64n _ (by omega), show ((g b i : Nat) : Int) * 256 = ((g b i * 256 : Nat) : Int) by omega, wi64n _ (by omega), or_nat .i64 _ _ (lt_i64 (by omega)) (lt_i64 (by omega)), or_256 _ _ a2, wi64n _ (by omega), gw, Nat.mul_comm]
theorem get32_d (b : List UInt8) (i : Nat) (K : Int → Prop) (h : i + 3 < b.length) (hk : K ((65536 * gw b i + gw b (i + 2) : Nat) : Int)) : ip_get32_q (b.drop i) K := by
  unfold ip_get32_q
  have a1 := gw_lt b i; have a2 := gw_lt b (i + 2)
  refine ⟨by decide, by rw [List.length_drop]; omega, fun _ => get16_d b i _ (by omega) fun _ => ⟨by decide, fun _ => ?_⟩⟩
  rw [List.drop_drop]
  refine get16_d b (i + 2) _ (by omega) fun _ => of_eq hk ?_
  rw [wu32 (by omega), wu32 (by omega), show ((gw b i : Nat) : Int) * 65536 = ((gw b i * 65536 : Nat) : Int) by omega, wu32 (by omega), or_nat .u32 _ _ (lt_u32 (by omega)) (lt_u32 (by omega)), or_65536 _ _ a2, wu32 (by omega), Nat.mul_comm]
theorem num_d (b : List UInt8) (i : Nat) (K : Int → Prop) (h : i + 1 < b.length) (hk : K (gw b i)) : ref07_num_q ((b.take (i + 2)).drop i) K := by
  unfold ref07_num_q
  obtain ⟨h1, h2⟩ := g_at (b := b) (i := i) (by omega)
  obtain ⟨h3, h4⟩ := g_at (b := b) (i := i + 1) h
  refine ⟨by decide, AtN.of (x := b[i]) (by rw [List.getElem?_drop, List.getElem?_take, if_pos (by omega)]; exact h1) fun _ => ⟨by decide, AtN.of (x := b[i + 1]) (by rw [List.getElem?_drop, List.getElem?_take, if_pos (by omega)]; exact h3) fun _ => of_eq hk ?_⟩⟩
  rw [← h2, ← h4]
  have a1 := g_lt b i; have a2 := g_lt b (i + 1)
  rw [wi64n _ (by omega), wi64n _ (by omega), show 256 * ((g b i : Nat) : Int) = ((256 * g b i : Nat) : Int) by omega, wi64n _ (by omega), ← Int.natCast_add, wi64n _ (by omega), gw]

theorem bit_ne (n a : Nat) (h : n < 65536) (c : Nat) (hc : 0 < c) (he : n &&& c = c * (n / c % 2)) (h2 : c < 65536) (ha : (a : Int) = bitsAnd .i64 (n : Int) (c : Int)) : ((a : Int) != 0) = decide (n / c % 2 = 1) := by
  rw [ha, and_nat .i64 n c (lt_i64 (by omega)) (lt_i64 (by omega)), he]
  rcases Nat.mod_two_eq_zero_or_one (n / c) with h | h
  · rw [h, Nat.mul_zero]; rfl
  · rw [h, Nat.mul_one, wi64n _ (by omega), bne, Bool.not_eq_eq_eq_not, decide_eq_true rfl]
    simp; omega
theorem bit14 (n : Nat) (h : n < 65536) : ((bitsAnd .i64 (n : Int) 16384 : Int) != 0) = decide (n / 16384 % 2 = 1) := by
  rw [show (16384 : Int) = ((16384 : Nat) : Int) from rfl, and_nat .i64 n _ (lt_i64 (by omega)) (lt_i64 (by decide)), and_16384, wi64n _ (by omega)]
  rw [Bool.eq_iff_iff]; simp; omega
theorem bit13 (n : Nat) (h : n < 65536) : ((bitsAnd .i64 (n : Int) 8192 : Int) != 0) = decide (n / 8192 % 2 = 1) := by
  rw [show (8192 : Int) = ((8192 : Nat) : Int) from rfl, and_nat .i64 n _ (lt_i64 (by omega)) (lt_i64 (by decide)), and_8192, wi64n _ (by omega)]
  rw [Bool.eq_iff_iff]; simp; omega
theorem bit15 (n : Nat) (h : n < 65536) : ((bitsAnd .i64 (n : Int) 32768 : Int) != 0) = decide (32768 ≤ n) := by
  rw [show (32768 : Int) = ((32768 : Nat) : Int) from rfl, and_nat .i64 n _ (lt_i64 (by omega)) (lt_i64 (by decide)), and_32768, wi64n _ (by omega)]
  rw [Bool.eq_iff_iff]; simp; omega
theorem size_p (x : Nat) (h : x < 256) : IntKind.wrap .i64 (4 * IntKind.wrap .i64 (bitsAnd .u8 (x : Int) 15)) = ((4 * (x % 16) : Nat) : Int) := by
  rw [show (15 : Int) = ((15 : Nat) : Int) from rfl, and_nat .u8 x _ (lt_u8 (by omega)) (lt_u8 (by decide)), and_15, wu8m, wi64n _ (by omega), wr_i64 (by omega) (by omega)]
  omega
theorem size_r (x : Nat) (h : x < 256) : IntKind.wrap .i64 (4 * IntKind.wrap .i64 (Int.tmod (x : Int) 16)) = ((4 * (x % 16) : Nat) : Int) := by
  rw [show Int.tmod (x : Int) 16 = ((x % 16 : Nat) : Int) from rfl, wi64n _ (by omega), wr_i64 (by omega) (by omega)]
  omega

theorem rd_wrong (b : List UInt8) (h : b.length < 20 ∨ g b 0 / 16 ≠ 4 ∨ 4 * (g b 0 % 16) < 20 ∨ b.length < 4 * (g b 0 % 16) ∨ gw b 2 < 4 * (g b 0 % 16) ∨ b.length < gw b 2 ∨ 128 ≤ g b 6) : rd b = (noP, 70) := by
  unfold rd
  by_cases h1 : b.length < 20 ∨ g b 0 / 16 ≠ 4
  · rw [if_pos h1]
  · rw [if_neg h1, if_pos (by omega)]
theorem rd_sum (b : List UInt8) (h : ¬ (b.length < 20 ∨ g b 0 / 16 ≠ 4 ∨ 4 * (g b 0 % 16) < 20 ∨ b.length < 4 * (g b 0 % 16) ∨ gw b 2 < 4 * (g b 0 % 16) ∨ b.length < gw b 2 ∨ 128 ≤ g b 6)) (ht : tot (b.take (4 * (g b 0 % 16))) ≠ 65535) : rd b = (noP, 71) := by
  unfold rd
  rw [if_neg (by omega), if_neg (by omega), if_pos ht]
theorem rd_well (b : List UInt8) (h : ¬ (b.length < 20 ∨ g b 0 / 16 ≠ 4 ∨ 4 * (g b 0 % 16) < 20 ∨ b.length < 4 * (g b 0 % 16) ∨ gw b 2 < 4 * (g b 0 % 16) ∨ b.length < gw b 2 ∨ 128 ≤ g b 6)) (ht : tot (b.take (4 * (g b 0 % 16))) = 65535) :
    rd b = (((gw b 4 : Int), ((gw b 6 % 8192 : Nat) : Int), (g b 8 : Int), (g b 9 : Int), decide (gw b 6 / 16384 % 2 = 1), decide (gw b 6 / 8192 % 2 = 1), UInt32.ofNat (65536 * gw b 12 + gw b 14), UInt32.ofNat (65536 * gw b 16 + gw b 18), (b.take (gw b 2)).drop (4 * (g b 0 % 16))), 0) := by
  unfold rd
  rw [if_neg (by omega), if_neg (by omega), if_neg (by omega)]

theorem read_c (b : List UInt8) (K : Pkt → Int → Prop) (hb : b.length < 100000) (hk : K (rd b).1 (rd b).2) : ip_Read_q b K := by
  have hw : (b.length < 20 ∨ g b 0 / 16 ≠ 4 ∨ 4 * (g b 0 % 16) < 20 ∨ b.length < 4 * (g b 0 % 16) ∨ gw b 2 < 4 * (g b 0 % 16) ∨ b.length < gw b 2 ∨ 128 ≤ g b 6) → ip_Read_j1 K := fun h => by
    rw [rd_wrong b h] at hk; exact hk
  unfold ip_Read_q
  refine IfB.intro (fun h => hw (Or.inl (by simp at h; omega))) (fun h => ?_)
  have h20 : 20 ≤ b.length := by simp at h; omega
  obtain ⟨h00, h01⟩ := g_at (b := b) (i := 0) (by omega)
  obtain ⟨h60, h61⟩ := g_at (b := b) (i := 6) (by omega)
  obtain ⟨h80, h81⟩ := g_at (b := b) (i := 8) (by omega)
  obtain ⟨h90, h91⟩ := g_at (b := b) (i := 9) (by omega)
  refine ⟨by decide, AtN.of h00 fun _ => ⟨by decide, ?_⟩⟩
  have hl := g_lt b 0; have hl6 := g_lt b 6; have hl7 := g_lt b 7; have hl2 := gw_lt b 2; have hgl6 := gw_lt b 6
  have he6 : gw b 6 = 256 * g b 6 + g b 7 := rfl
  unfold ip_Read_j0
  rw [← h01, show Int.fdiv ((g b 0 : Nat) : Int) 16 = ((g b 0 / 16 : Nat) : Int) by rw [Int.fdiv_eq_ediv_of_nonneg _ (by decide)]; rfl]
  refine IfB.intro (fun h => hw (Or.inr (Or.inl ?_))) (fun h4 => ⟨by decide, AtN.of h00 fun _ => ?_⟩)
  · simp at h; omega
  have h4 : g b 0 / 16 = 4 := by simp at h4; omega
  refine ⟨by decide, by omega, by decide, by omega, fun _ => get16_d b 2 _ (by omega) fun _ _ => get16_d b 6 _ (by omega) fun _ => ?_⟩
  rw [← h01, size_p _ hl]
  refine IfB.intro (fun h => hw (by simp at h; omega)) (fun h5 => IfB.intro (fun h => hw (by simp at h; omega)) (fun h6 => IfB.intro (fun h => hw (by simp at h; omega)) (fun h7 => IfB.intro (fun h => hw (by simp at h; omega)) (fun h8 => ?_))))
  rw [bit15 _ hgl6]
  unfold ip_Read_j3
  refine IfB.intro (fun h => hw (by simp at h; omega)) (fun h9 => ?_)
  have hn : ¬ (b.length < 20 ∨ g b 0 / 16 ≠ 4 ∨ 4 * (g b 0 % 16) < 20 ∨ b.length < 4 * (g b 0 % 16) ∨ gw b 2 < 4 * (g b 0 % 16) ∨ b.length < gw b 2 ∨ 128 ≤ g b 6) := by
    simp at h5 h6 h7 h8 h9; omega
  rw [← h01, size_p _ hl, Int.toNat_natCast, Int.toNat_natCast]
  refine ⟨by omega, by omega, fun _ => sum_Right_c _ _ (by rw [List.length_take]; omega) fun _ => IfB.intro (fun h => ?_) (fun h => ?_)⟩
  · rw [rd_sum b hn (by simpa using h)] at hk; exact hk
  have ht : tot (b.take (4 * (g b 0 % 16))) = 65535 := by simpa using h
  rw [rd_well b hn ht] at hk
  refine ⟨by decide, AtN.of h80 fun _ => ⟨by decide, AtN.of h90 fun _ => ⟨by decide, by omega, by decide, by omega, by decide, by omega, by omega, by omega, by omega, by omega, ?_⟩⟩⟩
  have hfin : ([] : List UInt8).length + ((b.take (gw b 2)).drop (4 * (g b 0 % 16))).length ≤ 140737488355232 ∧ K ((gw b 4 : Int), (bitsAnd .i64 (gw b 6) 8191), (IntKind.wrap .i64 (b[8].toNat : Int)), (IntKind.wrap .i64 (b[9].toNat : Int)), (((bitsAnd .i64 (gw b 6) 16384) : Int) != 0), (((bitsAnd .i64 (gw b 6) 8192) : Int) != 0), (ofI .u32 ((65536 * gw b 12 + gw b 14 : Nat) : Int)), (ofI .u32 ((65536 * gw b 16 + gw b 18 : Nat) : Int)), (([] : List UInt8) ++ ((b.take (gw b 2)).drop (4 * (g b 0 % 16))))) 0 := by
    refine ⟨by rw [List.length_drop, List.length_take]; simp only [List.length_nil]; omega, ?_⟩
    rw [bit14 _ hgl6, bit13 _ hgl6, ← h81, ← h91, List.nil_append]
    have a8 := g_lt b 8; have a9 := g_lt b 9
    rw [show (8191 : Int) = ((8191 : Nat) : Int) from rfl, and_nat .i64 _ _ (lt_i64 (by omega)) (lt_i64 (by decide)), and_8191, wi64n _ (by omega), wi64n _ (by omega), wi64n _ (by omega)]
    exact hk
  have h16 : ∀ Y : Int → Prop, Y (gw b 4) → ip_get16_q (b.drop 4) Y := fun Y hY => get16_d b 4 Y (by omega) hY
  have h12 : ∀ Y : Int → Prop, Y ((65536 * gw b 12 + gw b 14 : Nat) : Int) → ip_get32_q (b.drop 12) Y := fun Y hY => get32_d b 12 Y (by omega) hY
  have h17 : ∀ Y : Int → Prop, Y ((65536 * gw b 16 + gw b 18 : Nat) : Int) → ip_get32_q (b.drop 16) Y := fun Y hY => get32_d b 16 Y (by omega) hY
  have hA : (WfPs ip_get32_ps ((b.drop 16), ()) → ip_get32_q (b.drop 16) (fun x => WfPs ip_get32_rs (x, ()) → ([] : List UInt8).length + ((b.take (gw b 2)).drop (4 * (g b 0 % 16))).length ≤ 140737488355232 ∧ K ((gw b 4 : Int), (bitsAnd .i64 (gw b 6) 8191), (IntKind.wrap .i64 (b[8].toNat : Int)), (IntKind.wrap .i64 (b[9].toNat : Int)), (((bitsAnd .i64 (gw b 6) 16384) : Int) != 0), (((bitsAnd .i64 (gw b 6) 8192) : Int) != 0), (ofI .u32 ((65536 * gw b 12 + gw b 14 : Nat) : Int)), (ofI .u32 x), (([] : List UInt8) ++ ((b.take (gw b 2)).drop (4 * (g b 0 % 16))))) 0)) := fun _ => h17 _ fun _ => hfin
  exact ⟨fun _ => h16 _ fun _ _ => h12 _ fun _ => hA, fun _ => h16 _ fun _ => ⟨fun _ => h12 _ fun _ => hA, fun _ => h12 _ fun _ => ⟨hA, hA⟩⟩⟩

theorem ref_read_c (b : List UInt8) (K : Pkt → Int → Prop) (hb : b.length < 100000) (hk : K (rd b).1 (rd b).2) : ref07_Read_q b K := by
  have hw : (b.length < 20 ∨ g b 0 / 16 ≠ 4 ∨ 4 * (g b 0 % 16) < 20 ∨ b.length < 4 * (g b 0 % 16) ∨ gw b 2 < 4 * (g b 0 % 16) ∨ b.length < gw b 2 ∨ 128 ≤ g b 6) → K (0, 0, 0, 0, false, false, (ofI .u32 0), (ofI .u32 0), ([] : List UInt8)) 70 := fun h => by
    rw [rd_wrong b h] at hk; exact hk
  unfold ref07_Read_q
  refine IfB.intro (fun h => hw (Or.inl (by simp at h; omega))) (fun h => ?_)
  have h20 : 20 ≤ b.length := by simp at h; omega
  obtain ⟨h00, h01⟩ := g_at (b := b) (i := 0) (by omega)
  obtain ⟨h60, h61⟩ := g_at (b := b) (i := 6) (by omega)
  obtain ⟨h80, h81⟩ := g_at (b := b) (i := 8) (by omega)
  obtain ⟨h90, h91⟩ := g_at (b := b) (i := 9) (by omega)
  refine ⟨by decide, AtN.of h00 fun _ => ⟨by decide, ?_⟩⟩
  have hl := g_lt b 0; have hl6 := g_lt b 6; have hl7 := g_lt b 7; have hl2 := gw_lt b 2; have hgl6 := gw_lt b 6
  have he6 : gw b 6 = 256 * g b 6 + g b 7 := rfl
  unfold ref07_Read_j0
  rw [← h01, show Int.tdiv ((g b 0 : Nat) : Int) 16 = ((g b 0 / 16 : Nat) : Int) from rfl, wu8m]
  refine IfB.intro (fun h => hw (Or.inr (Or.inl ?_))) (fun h4 => ⟨by decide, AtN.of h00 fun _ => ?_⟩)
  · simp at h; omega
  have h4 : g b 0 / 16 = 4 := by simp at h4; omega
  refine ⟨by decide, by decide, by omega, by decide, by decide, fun _ => num_d b 2 _ (by omega) fun _ => ?_⟩
  rw [← h01, size_r _ hl]
  have hj : ∀ c : Bool, (c = false → ¬ (b.length < 20 ∨ g b 0 / 16 ≠ 4 ∨ 4 * (g b 0 % 16) < 20 ∨ b.length < 4 * (g b 0 % 16) ∨ gw b 2 < 4 * (g b 0 % 16) ∨ b.length < gw b 2 ∨ 128 ≤ g b 6)) → (c = true → (b.length < 20 ∨ g b 0 / 16 ≠ 4 ∨ 4 * (g b 0 % 16) < 20 ∨ b.length < 4 * (g b 0 % 16) ∨ gw b 2 < 4 * (g b 0 % 16) ∨ b.length < gw b 2 ∨ 128 ≤ g b 6)) → ref07_Read_j1 b b[0] (gw b 2) c K := by
    intro c hc1 hc2
    unfold ref07_Read_j1
    refine IfB.intro (fun h => hw (hc2 h)) (fun h9 => ?_)
    have hn := hc1 h9
    rw [← h01, size_r _ hl, Int.toNat_natCast]
    refine ⟨by omega, by omega, fun _ => ref01_Right_c _ _ (by rw [List.length_take]; omega) fun _ => IfB.intro (fun h => ?_) (fun h => ?_)⟩
    · rw [rd_sum b hn (by simpa using h)] at hk; exact hk
    have ht : tot (b.take (4 * (g b 0 % 16))) = 65535 := by simpa using h
    rw [rd_well b hn ht] at hk
    refine ⟨by decide, by omega, by decide, by decide, fun _ => num_d b 6 _ (by omega) fun _ => ⟨by decide, AtN.of h80 fun _ => ⟨by decide, AtN.of h90 fun _ => ⟨by decide, by omega, by decide, by decide, by decide, by decide, by decide, by decide, by decide, ?_⟩⟩⟩⟩
    have hj2 : ref07_Read_j2 b b[0] (gw b 2) (gw b 6) b[8] b[9] (gw b 4) K := by
      unfold ref07_Read_j2
      rw [← h01, size_r _ hl]
      refine ⟨by decide, by omega, by decide, by decide, by decide, by omega, by decide, by decide, fun _ => num_d b 12 _ (by omega) fun _ _ => num_d b 14 _ (by omega) fun _ => ⟨by decide, by omega, by decide, by decide, by decide, by omega, by decide, by decide, fun _ => num_d b 16 _ (by omega) fun _ _ => num_d b 18 _ (by omega) fun _ => ⟨by omega, by omega, by omega, by omega, ?_, ?_⟩⟩⟩
      · rw [List.length_drop, List.length_take]; simp only [List.length_nil]; omega
      · have a8 := g_lt b 8; have a9 := g_lt b 9; have c1 := gw_lt b 12; have c2 := gw_lt b 14; have c3 := gw_lt b 16; have c4 := gw_lt b 18
        have hm : ∀ x y : Nat, x < 65536 → y < 65536 → IntKind.wrap .u32 (IntKind.wrap .i64 (IntKind.wrap .i64 (65536 * (x : Int)) + (y : Int))) = ((65536 * x + y : Nat) : Int) := by
          intro x y hx hy
          rw [show 65536 * (x : Int) = ((65536 * x : Nat) : Int) by omega, wi64n _ (by omega), ← Int.natCast_add, wi64n _ (by omega), wu32 (by omega)]
        have hbt : ∀ n c : Nat, n < 65536 → ((Int.tmod (IntKind.wrap .i64 ((n / c : Nat) : Int)) 2 : Int) == 1) = decide (n / c % 2 = 1) := by
          intro n c hn
          have : n / c ≤ n := Nat.div_le_self n c
          rw [wi64n _ (by omega), show Int.tmod ((n / c : Nat) : Int) 2 = ((n / c % 2 : Nat) : Int) from rfl, Bool.eq_iff_iff]
          simp; omega
        rw [hm _ _ c1 c2, hm _ _ c3 c4, ← h81, ← h91, wi64n _ (by omega), wi64n _ (by omega), List.nil_append, Int.toNat_natCast, Int.toNat_natCast]
        rw [show Int.tdiv ((gw b 6 : Nat) : Int) 16384 = ((gw b 6 / 16384 : Nat) : Int) from rfl, show Int.tdiv ((gw b 6 : Nat) : Int) 8192 = ((gw b 6 / 8192 : Nat) : Int) from rfl, hbt _ _ hgl6, hbt _ _ hgl6]
        exact hk
    exact ⟨fun _ => num_d b 4 _ (by omega) fun _ => hj2, fun _ => num_d b 4 _ (by omega) fun _ => hj2⟩
  refine IfB.intro (fun h => hj true (by simp) fun _ => ?_) (fun h5 => IfB.intro (fun h => hj true (by simp) fun _ => ?_) (fun h6 => IfB.intro (fun h => hj true (by simp) fun _ => ?_) (fun h7 => IfB.intro (fun h => hj true (by simp) fun _ => ?_) (fun h8 => ⟨by decide, AtN.of h60 fun _ => hj _ (fun h => ?_) (fun h => ?_)⟩))))
  · simp at h; omega
  · simp at h; omega
  · simp at h; omega
  · simp at h; omega
  · rw [← h61] at h; simp at h5 h6 h7 h8 h; omega
  · rw [← h61] at h; simp at h; omega

end Go.Proofs.YtolmljommmhpkaaDoor
