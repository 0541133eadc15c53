/-
  Packets: the pieces are the whole.
-/
import Derived.Test.YtolmljommmhpkaaDoorIp5
set_option linter.unusedSectionVars false
set_option linter.unusedSimpArgs false
set_option linter.unusedVariables false
namespace Go.Proofs.YtolmljommmhpkaaDoor
open Go.Sh

theorem cutS_no {id a life kind : Int} {w m : Bool} {s t : UInt32} {d : List UInt8} {most : Int} (h : (cutS id a life kind w m s t d most).2 ≠ 0) : (cutS id a life kind w m s t d most).1 = [] := by
  unfold cutS at h ⊢
  repeat' split
  · rfl
  · rfl
  · rename_i h1 h2 h3
    rw [if_neg h1, if_neg h2, if_pos h3] at h
    exact absurd rfl h
  · rfl
  · rfl
  · rename_i h1 h2 h3 h4 h5
    rw [if_neg h1, if_neg h2, if_neg h3, if_neg h4, if_neg h5] at h
    exact absurd rfl h
theorem cutS_ok {id a life kind : Int} {w m : Bool} {s t : UInt32} {d : List UInt8} {most : Int} (h : (cutS id a life kind w m s t d most).2 = 0) :
    ∃ e n : Nat, (cutS id a life kind w m s t d most).1 = pcs id a life kind w m s t d e n ++ [pce id a life kind w m s t d (e * n) d.length] ∧ e % 8 = 0 ∧ (∀ i, i < n → e * (i + 1) < d.length) ∧ (0 < n → (e : Int) + 20 ≤ most) ∧ (d.length : Int) + 20 ≤ most + ((e * n : Nat) : Int) ∧ e * n ≤ d.length ∧ n ≤ d.length ∧ d.length ≤ 65515 ∧ 0 ≤ a ∧ a ≤ 8191 := by
  unfold cutS at h ⊢
  by_cases h1 : okP id a life kind = false ∨ most < 28
  · rw [if_pos h1] at h; cases h
  rw [if_neg h1] at h ⊢
  have hok : okP id a life kind = true := by
    cases hh : okP id a life kind
    · exact absurd (Or.inl hh) h1
    · rfl
  rw [okP_iff] at hok
  by_cases h2 : 65515 < d.length
  · rw [if_pos h2] at h; cases h
  rw [if_neg h2] at h ⊢
  by_cases h3 : (d.length : Int) + 20 ≤ most
  · rw [if_pos h3]
    exact ⟨0, 0, rfl, rfl, fun i hi => by omega, fun h => by omega, by omega, by omega, by omega, by omega, by omega, by omega⟩
  rw [if_neg h3] at h ⊢
  by_cases h4 : w = true
  · rw [if_pos h4] at h; cases h
  rw [if_neg h4] at h ⊢
  by_cases h5 : 8191 < a + (((most - 20).toNat / 8 * 8 * many d.length (most - 20).toNat / 8 : Nat) : Int)
  · rw [if_pos h5] at h; cases h
  rw [if_neg h5]
  have h28 : ¬ most < 28 := fun h => h1 (Or.inr h)
  have hR8 : 8 ≤ (most - 20).toNat := by omega
  have hle := many_le hR8 (by omega : (most - 20).toNat < d.length)
  have hend := many_end (len := d.length) hR8
  have hsm : many d.length (most - 20).toNat ≤ (most - 20).toNat / 8 * 8 * many d.length (most - 20).toNat := Nat.le_mul_of_pos_left _ (by omega)
  refine ⟨(most - 20).toNat / 8 * 8, many d.length (most - 20).toNat, rfl, by omega, fun i hi => ?_, fun _ => by omega, by omega, by omega, by omega, by omega, by omega, by omega⟩
  have := many_lt hR8 hi
  rw [Nat.mul_add, Nat.mul_one]; omega

/-- Where a piece begins. -/
def pos (e n len i : Nat) : Nat := if i ≤ n then e * i else len
theorem pcs_at {id a life kind : Int} {w m : Bool} {s t : UInt32} {d : List UInt8} {e n i : Nat} (h : i ≤ n) :
    (pcs id a life kind w m s t d e n ++ [pce id a life kind w m s t d (e * n) d.length])[i]? = some (pce id a life kind w m s t d (pos e n d.length i) (pos e n d.length (i + 1))) := by
  unfold pos
  rw [if_pos h]
  by_cases h2 : i < n
  · rw [List.getElem?_append_left (by rw [pcs_len]; exact h2), if_pos (by omega)]
    simp [pcs, h2]
  · obtain rfl : i = n := by omega
    rw [List.getElem?_append_right (by rw [pcs_len]; exact Nat.le_refl _), pcs_len, Nat.sub_self, if_neg (by omega)]
    rfl
theorem take_on {d : List UInt8} {p q : Nat} (h : p ≤ q) : d.take p ++ (d.take q).drop p = d.take q := by
  have := List.take_append_drop p (d.take q)
  rw [List.take_take, Nat.min_eq_left h] at this
  exact this

theorem ipPieces_c (p : Pkt) (most : Int) : law07_IpPieces_q p most (fun r => r = true) := by
  obtain ⟨id, a, life, kind, w, m, s, t, d⟩ := p
  unfold law07_IpPieces_q
  refine fun _ => works_c _ fun _ => ifF rfl ?_
  simp only [ofI_u32]
  refine fun _ => few_c _ _ _ _ _ _ _ _ _ 3000 _ (by decide) fun _ _ => among_c most 1500 _ (by decide) (by decide) fun r hr _ => ?_
  simp only [ofI_u32]
  have e28 : IntKind.wrap .i64 (28 + (r : Int)) = 28 + (r : Int) := wr_i64 (by omega) (by omega)
  rw [e28]
  generalize fewD d 3000 = d
  refine fun _ => cut_c _ _ _ _ _ _ _ _ _ _ _ fun _ => IfB.intro (fun h => ?_) (fun h => ?_)
  · rw [cutS_no (by simpa using h)]; rfl
  obtain ⟨e, n, hl, he8, hlt, heR, hend, hle, hnl, hd, ha0, ha1⟩ := cutS_ok (by simpa using h : (cutS id a life kind w m s t d (28 + (r : Int))).2 = 0)
  rw [hl]
  have hll : (pcs id a life kind w m s t d e n ++ [pce id a life kind w m s t d (e * n) d.length]).length = n + 1 := by rw [List.length_append, pcs_len]; rfl
  have hat := fun {i : Nat} (h : i ≤ n) => pcs_at (id := id) (a := a) (life := life) (kind := kind) (w := w) (m := m) (s := s) (t := t) (d := d) (e := e) h
  generalize pcs id a life kind w m s t d e n ++ [pce id a life kind w m s t d (e * n) d.length] = l at *
  have hpos0 : ∀ i, i ≤ n → pos e n d.length i = e * i := fun i hi => if_pos hi
  have hpos1 : pos e n d.length (n + 1) = d.length := if_neg (by omega)
  refine LoopJ.up (n + 1) (fun i => (d.take (pos e n d.length i), (i : Int), ())) (fun _ => True) (by simp [pos]) trivial (fun i hi _ next hn => ?_) (fun _ next => ?_)
  · intro _
    dsimp only [law07_IpPieces_l10]
    rw [hll, e28]
    have hin : i ≤ n := by omega
    have hp0 : pos e n d.length i % 8 = 0 := by rw [hpos0 i hin, Nat.mul_mod, he8]; simp
    have hple : pos e n d.length (i + 1) ≤ d.length ∧ pos e n d.length i ≤ pos e n d.length (i + 1) ∧ (pos e n d.length (i + 1) - pos e n d.length i : Int) + 20 ≤ 28 + (r : Int) ∧ (pos e n d.length (i + 1) < d.length ↔ i < n) := by
      rw [hpos0 i hin]
      by_cases h2 : i < n
      · rw [hpos0 (i + 1) h2]
        have h3 := hlt i h2
        have h4 := heR (by omega)
        have h5 : e * (i + 1) = e * i + e := by rw [Nat.mul_add, Nat.mul_one]
        exact ⟨by omega, by omega, by omega, by omega⟩
      · obtain rfl : i = n := by omega
        rw [hpos1]
        exact ⟨by omega, by omega, by omega, by omega⟩
    refine ifT (decide_eq_true (by omega)) ⟨by omega, AtN.of (by rw [Int.toNat_natCast]; exact hat hin) fun _ => ?_⟩
    generalize pos e n d.length i = p0 at *
    generalize pos e n d.length (i + 1) = p1 at *
    obtain ⟨hq1, hq2, hq3, hq4⟩ := hple
    have hlen : ((d.take p1).drop p0).length = p1 - p0 := by rw [List.length_drop, List.length_take]; omega
    have htk : (d.take p0).length = p0 := by rw [List.length_take]; omega
    dsimp only [pce]
    have e2 : IntKind.wrap .i64 ((((d.take p1).drop p0).length : Int) + 20) = ((p1 - p0 : Nat) : Int) + 20 := by rw [hlen, wr_i64 (by omega) (by omega)]
    have e3 : IntKind.wrap .i64 (a + IntKind.wrap .i64 (Int.tdiv ((d.take p0).length : Int) 8)) = a + ((p0 / 8 : Nat) : Int) := by
      rw [htk, show Int.tdiv (p0 : Int) 8 = ((p0 / 8 : Nat) : Int) from rfl, wi64n _ (by omega), wr_i64 (by omega) (by omega)]
    have e4 : Int.tmod ((d.take p0).length : Int) 8 = 0 := by
      rw [htk, show Int.tmod (p0 : Int) 8 = ((p0 % 8 : Nat) : Int) from rfl, hp0]; rfl
    have e5 : IntKind.wrap .i64 (((n + 1 : Nat) : Int) - 1) = (n : Int) := by rw [wr_i64 (by omega) (by omega)]; omega
    have hj : ∀ x : Pkt, x.2.2.2.2.2.2.2.2 = (d.take p1).drop p0 → law07_IpPieces_j0 r (id, a, life, kind, w, m, s, t, d) l (d.take p0) i x next false (fun r => r = true) := by
      intro x hx
      unfold law07_IpPieces_j0
      rw [hx]
      refine ifF rfl ⟨by rw [htk, hlen]; omega, of_eq (hn trivial) ?_⟩
      rw [take_on hq2, wr_i64 (by omega) (by omega)]; simp
    have ht1 : ∀ x : Pkt, x.2.2.2.2.2.2.2.2 = (d.take p1).drop p0 → ((8 : Int) ≠ 0 ∧ IfB ((Int.tmod ((d.take p0).length : Int) 8 : Int) != 0) (law07_IpPieces_j0 r (id, a, life, kind, w, m, s, t, d) l (d.take p0) i x next true (fun r => r = true)) (IfB ((id : Int) != id) (law07_IpPieces_j0 r (id, a, life, kind, w, m, s, t, d) l (d.take p0) i x next true (fun r => r = true)) (IfB (((s.toNat : Int) : Int) != (s.toNat : Int)) (law07_IpPieces_j0 r (id, a, life, kind, w, m, s, t, d) l (d.take p0) i x next true (fun r => r = true)) (IfB (((t.toNat : Int) : Int) != (t.toNat : Int)) (law07_IpPieces_j0 r (id, a, life, kind, w, m, s, t, d) l (d.take p0) i x next true (fun r => r = true)) (IfB ((kind : Int) != kind) (law07_IpPieces_j0 r (id, a, life, kind, w, m, s, t, d) l (d.take p0) i x next true (fun r => r = true)) (law07_IpPieces_j0 r (id, a, life, kind, w, m, s, t, d) l (d.take p0) i x next ((life : Int) != life) (fun r => r = true))))))) := by
      intro x hx
      refine ⟨by decide, ifF (by rw [e4]; rfl) (ifF (by simp) (ifF (by simp) (ifF (by simp) (ifF (by simp) ?_))))⟩
      rw [show (life != life) = false by simp]
      exact hj x hx
    refine ifF (decide_eq_false (by rw [e2]; omega)) ⟨by decide, ifF (by rw [e3]; simp) (IfB.intro (fun hm => ?_) (fun hm => ?_))⟩
    · refine ifF (by rw [hm]; rfl) ?_
      exact ht1 _ rfl
    · refine ifF ?_ ?_
      · rw [hm, Bool.false_or]
        have : decide (p1 < d.length) = decide ((i : Int) < IntKind.wrap .i64 (((n + 1 : Nat) : Int) - 1)) := by
          rw [Bool.eq_iff_iff, decide_eq_true_iff, decide_eq_true_iff, hq4, e5]; omega
        rw [this]; simp
      · exact ht1 _ rfl
  · intro _
    dsimp only [law07_IpPieces_l10]
    rw [hll, hpos1, List.take_length]
    refine ifF (decide_eq_false (by omega)) fun _ => ?_
    unfold base_SameBytes_q
    exact fun _ => ifT (by simp) (decide_eq_true (by omega))

end Go.Proofs.YtolmljommmhpkaaDoor
