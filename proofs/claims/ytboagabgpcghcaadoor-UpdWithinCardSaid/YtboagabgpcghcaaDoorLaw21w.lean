/-
  The law UpdWithin: a prefix has another one within just if each address that begins with the one begins with the other. Conditions: none beyond those of the given statement.
-/
import Derived.Test.YtboagabgpcghcaaDoorP21w
set_option linter.unusedVariables false
set_option linter.unusedSimpArgs false
namespace Go.Proofs.YtboagabgpcghcaaDoor
open Go.Sh
theorem within_host {p : UInt32 × Int} {a : Nat} (hr : right p.1.toNat p.2 = true) (ha : a < 4294967296) : within p (UInt32.ofNat a, 32) = decide (a - a % hostBits p.2.toNat = p.1.toNat) := by
  obtain ⟨h0, h32, _⟩ := right_iff.1 hr
  have e : (UInt32.ofNat a).toNat = a := by rw [UInt32.toNat_ofNat', Nat.mod_eq_of_lt (by omega)]
  have hq : right a 32 = true := right_iff.2 ⟨by omega, by omega, by show a % 1 = 0; omega⟩
  unfold within
  simp only [e]
  rw [hr, hq, decide_eq_true h32]
  simp
theorem ofI_wrap (a : Nat) (ha : a < 4294967296) : (ofI .u32 (IntKind.wrap .u32 (IntKind.wrap .u64 (a : Int))) : UInt32) = UInt32.ofNat a := by
  rw [wu64n a (by omega), wu32 ha]; rfl
theorem updWithin_q (p q : UInt32 × Int) (more : Int) (hm : 0 ≤ more ∧ more < 4294967296) : law21_UpdWithin_q p q more fun r => r = true := by
  unfold law21_UpdWithin_q
  simp only [ofI_u32]
  have bad : (right p.1.toNat p.2 = false ∨ right q.1.toNat q.2 = false) → law21_UpdWithin_j0 more p q true fun r => r = true := fun h => by
    unfold law21_UpdWithin_j0
    simp only [ofI_u32]
    refine ifT rfl fun _ => within_c (p.1, p.2) (q.1, q.2) _ fun _ => ?_
    have : within (p.1, p.2) (q.1, q.2) = false := by
      unfold within
      rcases h with h | h
      · simp only [h, Bool.false_and]
      · simp only [h, Bool.false_and, Bool.and_false]
    rw [this]; rfl
  refine fun _ => works_c _ fun _ => ifF rfl fun _ => right_c p.1 p.2 _ fun _ => IfB.intro (fun h => bad (.inl (by simpa using h))) (fun h _ => ?_)
  have hp : right p.1.toNat p.2 = true := by simpa using h
  refine right_c q.1 q.2 _ fun _ => ?_
  cases hq : right q.1.toNat q.2 with
  | false => exact bad (.inr hq)
  | true =>
  obtain ⟨p0, p32, pz⟩ := right_iff.1 hp
  obtain ⟨q0, q32, qz⟩ := right_iff.1 hq
  have hp1 := UInt32.toNat_lt p.1
  have hq1 := UInt32.toNat_lt q.1
  obtain ⟨pl, hpl⟩ := Int.eq_ofNat_of_zero_le p0
  obtain ⟨ql, hql⟩ := Int.eq_ofNat_of_zero_le q0
  have hpn : p.2.toNat = pl := by omega
  have hqn : q.2.toNat = ql := by omega
  rw [hpn] at pz
  rw [hqn] at qz
  unfold law21_UpdWithin_j0
  refine ifF rfl (LoopJ.up (32 - ql) (fun i => (((2 ^ i : Nat) : Int), ((ql + i : Nat) : Int), ())) (fun _ => True) (by rw [hql]; simp) trivial (fun i hi _ next hx => ?_) (fun _ next => ?_))
  · intro _
    dsimp only [law21_UpdWithin_l7]
    have hpw : 2 ^ (i + 1) ≤ 2 ^ 32 := Nat.pow_le_pow_right (by decide) (by omega)
    have e32 : (2 : Nat) ^ 32 = 4294967296 := rfl
    refine ifT (decide_eq_true (by omega)) (of_eq (hx trivial) ?_)
    rw [show (2 * ((2 ^ i : Nat) : Int)) = ((2 ^ (i + 1) : Nat) : Int) by rw [Nat.pow_succ]; omega, wu64n _ (by omega), show (((ql + i : Nat) : Int) + 1) = ((ql + (i + 1) : Nat) : Int) by omega, wi64n _ (by omega)]
  · intro _
    dsimp only [law21_UpdWithin_l7]
    refine ifF (decide_eq_false (by omega)) ?_
    have hA0 : 0 < 2 ^ (32 - ql) := Nat.pow_pos (by decide)
    have hA1 : 2 ^ (32 - ql) ≤ 2 ^ 32 := Nat.pow_le_pow_right (by decide) (by omega)
    have e32 : (2 : Nat) ^ 32 = 4294967296 := rfl
    have hsum : q.1.toNat + 2 ^ (32 - ql) ≤ 4294967296 := by
      have hz : q.1.toNat % 2 ^ (32 - ql) = 0 := qz
      have h3 : 2 ^ (32 - ql) * 2 ^ ql = 4294967296 := by rw [← Nat.pow_add, show 32 - ql + ql = 32 by omega]
      have h4 : 2 ^ (32 - ql) * (q.1.toNat / 2 ^ (32 - ql)) = q.1.toNat := by have := Nat.div_add_mod q.1.toNat (2 ^ (32 - ql)); omega
      have h5 : q.1.toNat / 2 ^ (32 - ql) < 2 ^ ql := by
        rw [Nat.div_lt_iff_lt_mul hA0, Nat.mul_comm, h3]; omega
      have h6 : 2 ^ (32 - ql) * (q.1.toNat / 2 ^ (32 - ql) + 1) ≤ 2 ^ (32 - ql) * 2 ^ ql := Nat.mul_le_mul_left _ h5
      rw [Nat.mul_add, h4, h3] at h6
      omega
    obtain ⟨m, rfl⟩ := Int.eq_ofNat_of_zero_le hm.1
    have eL : (ofI .u32 (IntKind.wrap .u32 (IntKind.wrap .u64 (q.1.toNat : Int))) : UInt32) = UInt32.ofNat q.1.toNat := ofI_wrap _ hq1
    have hmod := Nat.mod_lt m hA0
    have eS : (IntKind.wrap .u64 ((IntKind.wrap .u64 (q.1.toNat : Int)) + (Int.tmod (IntKind.wrap .u64 (m : Int)) ((2 ^ (32 - ql) : Nat) : Int)))) = IntKind.wrap .u64 ((q.1.toNat + m % 2 ^ (32 - ql) : Nat) : Int) := by
      rw [wu64n q.1.toNat (by omega), wu64n m (by omega), show Int.tmod (m : Int) ((2 ^ (32 - ql) : Nat) : Int) = ((m % 2 ^ (32 - ql) : Nat) : Int) from rfl, ← Int.natCast_add]
    have eE : (IntKind.wrap .u64 ((IntKind.wrap .u64 ((IntKind.wrap .u64 (q.1.toNat : Int)) + ((2 ^ (32 - ql) : Nat) : Int))) - 1)) = IntKind.wrap .u64 ((q.1.toNat + 2 ^ (32 - ql) - 1 : Nat) : Int) := by
      rw [wu64n q.1.toNat (by omega), ← Int.natCast_add, wu64n (q.1.toNat + 2 ^ (32 - ql)) (by omega)]
      congr 1
      omega
    rw [eE, eS, eL, ofI_wrap (q.1.toNat + m % 2 ^ (32 - ql)) (by omega), ofI_wrap (q.1.toNat + 2 ^ (32 - ql) - 1) (by omega)]
    simp only [ofI_u32]
    have hh : ∀ a : Nat, a < 4294967296 → within (p.1, p.2) (UInt32.ofNat a, 32) = decide (a - a % 2 ^ (32 - pl) = p.1.toNat) := fun a ha => by
      have := within_host (p := (p.1, p.2)) hp ha
      rw [this]
      show decide (a - a % hostBits p.2.toNat = p.1.toNat) = _
      rw [hpn]; rfl
    have hw : within (p.1, p.2) (q.1, q.2) = (decide (pl ≤ ql) && decide (q.1.toNat - q.1.toNat % 2 ^ (32 - pl) = p.1.toNat)) := by
      unfold within
      simp only [hp, hq, Bool.true_and]
      rw [hpn, hpl, hql]
      congr 1
      exact decide_eq_decide.2 (by omega)
    refine ⟨by omega, fun _ => within_c (p.1, p.2) (q.1, q.2) _ fun _ => ?_⟩
    rw [hw]
    refine IfB.intro (fun h1 => ?_) (fun h1 => ?_)
    · rw [Bool.and_eq_true] at h1
      have hle : pl ≤ ql := of_decide_eq_true h1.1
      have hmk := of_decide_eq_true h1.2
      have all : ∀ a, q.1.toNat ≤ a → a < q.1.toNat + 2 ^ (32 - ql) → a - a % 2 ^ (32 - pl) = p.1.toNat := fun a a1 a2 => within_all (by omega) hle qz hmk a1 a2
      refine fun _ => within_c (p.1, p.2) (_, 32) _ fun _ => ifT ?_ fun _ => within_c (p.1, p.2) (_, 32) _ fun _ => ifT ?_ fun _ => within_c (p.1, p.2) (_, 32) _ fun _ => ?_
      · rw [hh _ hq1]; exact decide_eq_true (all _ (Nat.le_refl _) (by omega))
      · rw [hh _ (by omega)]; exact decide_eq_true (all _ (by omega) (by omega))
      · rw [hh _ (by omega)]; exact decide_eq_true (all _ (by omega) (by omega))
    · refine fun _ => within_c (p.1, p.2) (_, 32) _ fun _ => IfB.intro (fun _ => trivial) (fun h2 _ => within_c (p.1, p.2) (_, 32) _ fun _ => ?_)
      rw [hh _ hq1] at h2
      have h2 : q.1.toNat - q.1.toNat % 2 ^ (32 - pl) = p.1.toNat := by simpa using h2
      rw [decide_eq_true h2, Bool.and_true] at h1
      have hlt : ¬ pl ≤ ql := of_decide_eq_false h1
      rw [hh _ (by omega), decide_eq_false (fun h3 => within_no (by omega) (by omega) qz h2 h3)]
      rfl
end Go.Proofs.YtboagabgpcghcaaDoor
