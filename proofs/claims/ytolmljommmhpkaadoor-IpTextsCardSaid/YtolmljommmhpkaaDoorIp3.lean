/-
  Packets: the chapter's example; the first two laws.
-/
import Derived.Test.YtolmljommmhpkaaDoorIp2
set_option linter.unusedSectionVars false
set_option linter.unusedSimpArgs false
set_option linter.unusedVariables false
namespace Go.Proofs.YtolmljommmhpkaaDoor
open Go.Sh

theorem itoa_3 (n : Nat) (h : n < 256) : (Lib.itoa n).length ≤ 3 := by
  unfold Lib.itoa
  rw [if_neg (by omega), Int.toNat_natCast]
  unfold Lib.decDigits
  split
  · simp
  · unfold Lib.decDigits
    split
    · simp
    · unfold Lib.decDigits
      split
      · simp
      · omega
/-- An address's text. -/
def txt (a : Nat) : List UInt8 := Lib.join [Lib.itoa ((a / 16777216 % 256 : Nat) : Int), Lib.itoa ((a / 65536 % 256 : Nat) : Int), Lib.itoa ((a / 256 % 256 : Nat) : Int), Lib.itoa ((a % 256 : Nat) : Int)] [46]
theorem txt_len (a : Nat) : (txt a).length ≤ 15 := by
  have h1 := itoa_3 (a / 16777216 % 256) (by omega); have h2 := itoa_3 (a / 65536 % 256) (by omega); have h3 := itoa_3 (a / 256 % 256) (by omega); have h4 := itoa_3 (a % 256) (by omega)
  simp only [txt, Lib.join, List.intercalate, List.intersperse, List.flatten_cons, List.flatten_nil, List.length_append, List.length_cons, List.length_nil]
  omega
theorem text_c (a : Nat) (K : List UInt8 → Prop) (h : a < 4294967296) (hk : K (txt a)) : ip_Text_q a K := by
  unfold ip_Text_q
  have hx : ∀ s : Nat, s ≤ 24 → IntKind.wrap .i64 (bitsAnd .u32 (Int.fdiv (a : Int) ((2 : Int) ^ (min s 32))) 255) = ((a / 2 ^ s % 256 : Nat) : Int) := by
    intro s hs
    have hd : a / 2 ^ s ≤ a := Nat.div_le_self _ _
    rw [Nat.min_eq_left (by omega), show ((2 : Int) ^ s) = ((2 ^ s : Nat) : Int) by rw [Int.natCast_pow]; rfl, Int.fdiv_eq_ediv_of_nonneg _ (Int.natCast_nonneg _), ← Int.natCast_ediv,
      show (255 : Int) = ((255 : Nat) : Int) from rfl, and_nat .u32 _ _ (lt_u32 (by omega)) (lt_u32 (by decide)), and_255, wu32 (by omega), wi64n _ (by omega)]
  let L : List (List UInt8) := [Lib.itoa ((a / 16777216 % 256 : Nat) : Int), Lib.itoa ((a / 65536 % 256 : Nat) : Int), Lib.itoa ((a / 256 % 256 : Nat) : Int), Lib.itoa ((a % 256 : Nat) : Int)]
  refine LoopJ.up 4 (fun i => (L.take i, 3 - (i : Int), ())) (fun _ => True) rfl trivial (fun i hi _ next hn => ?_) (fun _ next => ?_)
  · intro _
    dsimp only [ip_Text_l3]
    refine ifT (decide_eq_true (by omega)) ?_
    have e1 : IntKind.wrap .i64 (8 * (3 - (i : Int))) = ((8 * (3 - i) : Nat) : Int) := by rw [wr_i64 (by omega) (by omega)]; omega
    have e2 : IntKind.wrap .i64 (3 - (i : Int) - 1) = 3 - ((i + 1 : Nat) : Int) := by rw [wr_i64 (by omega) (by omega)]; omega
    rw [e1, e2, Int.toNat_natCast, show IntKind.bits .u32 = 32 from rfl, hx _ (by omega)]
    refine ⟨by omega, fun _ => ?_⟩
    unfold strconv_Itoa_q
    intro _
    refine ⟨by simp only [List.length_take, List.length_cons, List.length_nil]; omega, of_eq (hn trivial) ?_⟩
    have hi4 : i = 0 ∨ i = 1 ∨ i = 2 ∨ i = 3 := by omega
    rcases hi4 with rfl | rfl | rfl | rfl
    · rfl
    · rfl
    · rfl
    · show (L, _, ()) = (L.take 3 ++ [Lib.itoa ((a / 1 % 256 : Nat) : Int)], _, ())
      rw [Nat.div_one]; rfl
  · intro _
    dsimp only [ip_Text_l3]
    refine ifF (by decide) fun _ => ?_
    unfold strings_Join_q
    have := txt_len a
    exact ⟨by simp [L], by show (txt a).length ≤ _; omega, fun _ => hk⟩
theorem txt_ex : txt 167772161 = [49, 48, 46, 48, 46, 48, 46, 49] := by
  have d10 : Lib.itoa ((167772161 / 16777216 % 256 : Nat) : Int) = [49, 48] := by
    show Lib.itoa 10 = _
    rw [Lib.itoa, if_neg (by decide)]
    unfold Lib.decDigits
    rw [dif_neg (by decide)]
    unfold Lib.decDigits
    rw [dif_pos (by decide)]; rfl
  have d0 : Lib.itoa 0 = [48] := by
    rw [Lib.itoa, if_neg (by decide)]
    unfold Lib.decDigits
    rw [dif_pos (by decide)]; rfl
  have d1 : Lib.itoa 1 = [49] := by
    rw [Lib.itoa, if_neg (by decide)]
    unfold Lib.decDigits
    rw [dif_pos (by decide)]; rfl
  unfold txt
  show Lib.join [Lib.itoa ((167772161 / 16777216 % 256 : Nat) : Int), Lib.itoa 0, Lib.itoa 0, Lib.itoa 1] [46] = _
  rw [d10, d0, d1]
  rfl

theorem ex_bld : (bld 0 0 9 6 false false 1 2 [7]).2 = 0 ∧ (bld 0 0 9 6 false false 1 2 [7]).1.length = 21 ∧ (rd (bld 0 0 9 6 false false 1 2 [7]).1).2 = 0 ∧ (rd (bld 0 0 9 6 false false 1 2 [7]).1).1.2.2.1 = 9 ∧ (rd (bld 0 0 9 6 false false 1 2 [7]).1).1.2.2.2.2.2.2.2.2 = [7] := by
  refine ⟨by kernel_rfl, by kernel_rfl, by kernel_rfl, by kernel_rfl, by kernel_rfl⟩
theorem works_c (K : Bool → Prop) (hk : K true) : law07_works_q K := by
  unfold law07_works_q
  obtain ⟨h1, h2, h3, h4, h5⟩ := ex_bld
  simp only [show (ofI .u32 1 : UInt32) = 1 from rfl, show (ofI .u32 2 : UInt32) = 2 from rfl, show (ofI .u8 7 : UInt8) = 7 from rfl]
  refine fun _ => build_c 0 0 9 6 false false 1 2 [7] _ fun _ _ => read_c _ _ (by show (bld 0 0 9 6 false false 1 2 [7]).1.length < _; omega) fun _ _ => text_c 167772161 _ (by decide) fun _ => ?_
  rw [txt_ex]
  refine ifT rfl (ifT (by simpa using h1) (ifT (by simpa using h3) (ifT (by rw [h2]; rfl) (ifT (by simpa using h4) fun _ => ?_))))
  unfold base_SameBytes_q
  intro _
  refine of_eq hk ?_
  simpa using h5

theorem plain_c (p : Pkt) (K : Pkt → Prop) (hk : K p) : law07_plain_q p K := by
  unfold law07_plain_q
  obtain ⟨a1, a2, a3, a4, a5, a6, a7, a8, a9⟩ := p
  simp only [ofI_u32]
  exact hk
theorem same_c (p : Pkt) (K : Bool → Prop) (hk : K true) : law07_same_q p p K := by
  unfold law07_same_q
  obtain ⟨a1, a2, a3, a4, a5, a6, a7, a8, a9⟩ := p
  refine ifT (by simp) (ifT (by simp) (ifT (by simp) (ifT (by simp) (ifT (by simp) (ifT (by simp) (ifT (by simp) (ifT (by simp) fun _ => ?_)))))))
  unfold base_SameBytes_q
  intro _
  refine of_eq hk (by simp)

theorem ipBuilds_c (p : Pkt) : law07_IpBuilds_q p (fun r => r = true) := by
  obtain ⟨id, at_, life, kind, w, m, s, t, d⟩ := p
  unfold law07_IpBuilds_q
  simp only [ofI_u32]
  refine fun _ => few_c _ _ _ _ _ _ _ _ _ 2000 _ (by decide) fun _ _ => ?_
  simp only [ofI_u32]
  refine few_c _ _ _ _ _ _ _ _ _ 2000 _ (by decide) fun _ _ => ?_
  simp only [ofI_u32, fewD_fewD]
  refine build_c _ _ _ _ _ _ _ _ _ _ fun _ _ => plain_c _ _ fun _ => ?_
  simp only [ofI_u32]
  refine fun _ => ref_build_c _ _ _ _ _ _ _ _ _ _ fun _ _ => ?_
  unfold base_SameBytes_q
  exact fun _ => ifT (by simp) (ifT (by simp) fun _ => works_c _ fun _ => rfl)

theorem ipReads_c (b : List UInt8) : law07_IpReads_q b (fun r => r = true) := by
  unfold law07_IpReads_q
  refine ⟨by omega, by omega, fun _ => ?_⟩
  have hl : (b.take (min (b.length : Int) 2000).toNat).length ≤ 2000 := by rw [List.length_take]; omega
  generalize b.take (min (b.length : Int) 2000).toNat = c at hl
  unfold base_Bytes_q
  refine ⟨by simp only [List.length_nil]; omega, fun _ _ => ?_⟩
  rw [List.nil_append]
  refine read_c _ _ (by omega) fun _ _ => ref_read_c _ _ (by omega) fun _ => ?_
  generalize rd c = r
  obtain ⟨⟨a1, a2, a3, a4, a5, a6, a7, a8, a9⟩, e⟩ := r
  simp only [ofI_u32]
  refine fun _ => plain_c _ _ fun _ => ?_
  simp only [ofI_u32]
  exact fun _ => same_c _ _ fun _ => ifT rfl (ifT (by simp) fun _ => works_c _ fun _ => rfl)

end Go.Proofs.YtolmljommmhpkaaDoor
