/-
  What slices.Chunk gives.
-/
import Derived.Test.YtinilfhnplfhoaaIts
import Derived.Test.YtinilfhnplfhoaaHm1
set_option linter.all false
set_option maxHeartbeats 1000000
namespace Go.Proofs.Ytinilfhnplfhoaa
open Go.Sh
def chunks (n : Nat) : Nat -> List UInt8 -> List (List UInt8)
  | 0, _ => []
  | _ + 1, [] => []
  | k + 1, x :: r => (x :: r).take n :: chunks n k ((x :: r).drop n)
theorem chunks_fuel {n : Nat} (hn : 0 < n) : ∀ (k k' : Nat) (s : List UInt8), s.length <= k -> s.length <= k' -> chunks n k s = chunks n k' s
  | 0, 0, s, _, _ => rfl
  | 0, k' + 1, [], _, _ => rfl
  | 0, _ + 1, _ :: _, h, _ => by simp at h
  | k + 1, 0, [], _, _ => rfl
  | _ + 1, 0, _ :: _, _, h => by simp at h
  | k + 1, k' + 1, [], _, _ => rfl
  | k + 1, k' + 1, x :: r, h, h' => by
    simp only [chunks]; have e : ((x :: r).drop n).length <= r.length := by simp only [List.length_drop, List.length_cons]; omega
    simp only [List.length_cons] at h h'; rw [chunks_fuel hn k k' _ (by omega) (by omega)]
def chunkXs (s : List UInt8) (n : Int) : List (List UInt8 × Unit) := (chunks n.toNat s.length s).map fun x => (x, ())
theorem chunkXs_nil (n : Int) : chunkXs [] n = [] := rfl
theorem chunkXs_cons {s : List UInt8} {n : Int} (hn : 1 <= n) (hs : s ≠ []) : chunkXs s n = (s.take n.toNat, ()) :: chunkXs (s.drop n.toNat) n := by
  cases s with
  | nil => exact absurd rfl hs
  | cons x r =>
    unfold chunkXs; have e : ((x :: r).drop n.toNat).length <= r.length := by simp only [List.length_drop, List.length_cons]; omega
    simp only [List.length_cons, chunks, List.map_cons]; rw [chunks_fuel (by omega) r.length _ _ e (Nat.le_refl _)]
def chunkPre (s : List UInt8) (n : Int) : Prop := 1 <= n ∧ n <= 4611686018427387904 ∧ s.length <= 4611686018427387904
def it_chunk : It := ⟨[.lst [.int .u8]], [.lst [.int .u8], .int .i64], fun c => chunkXs c.1 c.2.1, fun c => chunkPre c.1 c.2.1⟩
theorem cell_box {H : Heap} {b : Nat} {v : Value} {T : TypeId} (h : H b = some (.cells ⟨[v]⟩ T (0, 0))) : H.cell ⟨b, 0, none⟩ = some v := by simp [Heap.cell, h]
theorem two {A : Type} {l : List A} (h : l.length = 2) : ∃ a b, l = [a, b] := by
  match l, h with
  | [a, b], _ => exact ⟨a, b, rfl⟩
theorem chunk_run {Hs : Heap} {Z W : Nat -> Prop} {b1 b2 : Nat} {T1 T2 : TypeId} {s : List UInt8} {n : Int} {v1 : Value} {l : Nat} {C : Cons Try.prog l it_chunk.ps Hs [b1, b2]} (hpre : chunkPre s n) (hs : CellOk Z Hs (.lst [.int .u8]) s v1)
    (hb1 : Hs b1 = some (.cells ⟨[v1]⟩ T1 (0, 0))) (hb2 : Hs b2 = some (.cells ⟨[.int .i64 n]⟩ T2 (0, 0))) (hw1 : ¬ W b1) (hw2 : ¬ W b2) (hJ : C.J Z W (chunkXs s n) Hs) :
    FnW Try.prog f_slices_Chunkasl_byte_byte_1 ⟨[.func (.yield l) #[] #[], capBox b1, capBox b2]⟩ Hs fun _ H' => ∃ Z' W', C.J Z' W' [] H' ∨ C.X Z' W' H' := by
  obtain ⟨hn1, hn2, hsl⟩ := hpre; simp only [CellOk] at hs; obtain ⟨a, m, cp, rfl, hsm, hmc, hcm, hat⟩ := hs; have hsm' : s.length = m := hsm; unfold lenMax at hcm; refine slices_Chunkasl_byte_byte_1_sh l b1 b2 ?_; unfold slices_Chunkasl_byte_byte_1_p; refine ⟨fun k x H => ∃ (i : Nat) (Z' W' : Nat -> Prop), x.1 = (i : Int) ∧ k = s.length - i ∧ C.J Z' W' (chunkXs (s.drop i) n) H ∧ H b1 = Hs b1 ∧ H b2 = Hs b2 ∧ (∀ b, Z b -> Z' b ∧ H b = Hs b) ∧ ¬ W' b1 ∧ ¬ W' b2,
    s.length, ⟨0, Z, W, rfl, rfl, hJ, rfl, rfl, fun b hb => ⟨hb, rfl⟩, hw1, hw2⟩, ?_⟩
  rintro k x H ⟨i, Z', W', hx, rfl, hJi, h1, h2, hZ, hw1, hw2⟩ gE; have c1 := cell_box (h1.trans hb1); have c2 := cell_box (h2.trans hb2); obtain ⟨xi, xu⟩ := x; simp only at hx; subst hx; simp only; unfold slices_Chunkasl_byte_byte_1_l1; refine ⟨a, m, cp, c1, ?_⟩; refine IfB.intro (fun hlt => ?_) (fun hge => ?_)
  . have him : i < m := by have := of_decide_eq_true hlt; omega
    refine ⟨n, c2, a, m, cp, c1, by omega, by omega, a, m, cp, c1, ?_⟩
    have he : ∃ e : Nat, e = min n.toNat (m - i) := ⟨_, rfl⟩; obtain ⟨e, he⟩ := he; have hw : IntKind.wrap .i64 ((i : Int) + (min n ((m - (i : Int).toNat : Nat) : Int))) = ((i + e : Nat) : Int) := by rw [wr_i64] <;> simp only [Int.toNat_natCast] <;> omega
    rw [hw]; refine ⟨by omega, by omega, ?_⟩
    simp only [Int.toNat_natCast]; refine ⟨by omega, by omega, ?_⟩
    simp only [Int.toNat_natCast]; refine ⟨by omega, by omega, ?_⟩
    simp only [Int.toNat_natCast]; rw [if_neg (by omega)]
    obtain ⟨b, o, rfl, hzb, cs, T, fr, hcb, hcc⟩ := hat (by omega)
    have hne : s.drop i ≠ [] := fun h0 => by have := congrArg List.length h0; simp only [List.length_drop, List.length_nil] at this; omega
    rw [chunkXs_cons hn1 hne] at hJi; refine YieldW.mono (fun v H' hv => ?_) (C.round (Zx := Z) hJi ?_ (fun b hb => .inl (hZ b hb).1))
    . obtain ⟨k1, k2, Z'', W'', k3, k4, k5, k6, k7, hk⟩ := hv; have hl1 : H b1 ≠ none := by rw [h1, hb1]; simp
      have hl2 : H b2 ≠ none := by rw [h2, hb2]; simp
      rcases hk with ⟨rfl, hk⟩ | ⟨rfl, hk⟩
      . refine ⟨true, rfl, ifF rfl ⟨n, cell_box (((k1 b2 hl2 hw2).trans h2).trans hb2), s.length - (i + n.toNat), by omega, i + n.toNat, Z'', W'', ?_, rfl, ?_, (k1 b1 hl1 hw1).trans h1, (k1 b2 hl2 hw2).trans h2, fun b hb => ?_, fun h => ?_, fun h => ?_⟩⟩
        show IntKind.wrap .i64 ((i : Int) + n) = _; rw [wr_i64] <;> omega; rw [← List.drop_drop]; exact hk; obtain ⟨q1, q2⟩ := k3 b (.inl (hZ b hb).1); exact ⟨q1, q2.trans (hZ b hb).2⟩; rcases k4 b1 h with h | h; exact hw1 h; exact hl1 h; rcases k4 b2 h with h | h; exact hw2 h; exact hl2 h
      exact ⟨false, rfl, ifT rfl fun H2 hs2 => C.shut hs2 ⟨Z'', W'', .inr hk⟩⟩
    . show ArgIs Z H [.lst [.int .u8]] ((s.drop i).take n.toNat, ()) _; simp only [ArgIs, pksA, pkA, SimL, SimV, and_true]; simp only [CellOk]; refine ⟨_, _, _, rfl, ?_, Nat.le_refl _, by unfold lenMax; omega, fun _ => ⟨b, o + i, by simp [Addr.add], hzb, cs, T, fr, by rw [(hZ b hzb).2]; exact hcb, fun j x hj => ?_⟩⟩
      show ((s.drop i).take n.toNat).length = _; simp only [List.length_take, List.length_drop]; omega; have hj' : ((s.drop i).take n.toNat)[j]? = some x := hj; rw [List.getElem?_take] at hj'; split at hj'; rw [List.getElem?_drop] at hj'; refine CellsOk.congr (fun jj _ => ?_) (CellsOk.ext (fun b hb => ⟨hb, (hZ b hb).2⟩) _ _ _ (hcc (i + j) x hj')); congr 1; simp only [List.length_cons, List.length_nil]; omega; cases hj'
  . have hge' : m <= i := by have := of_decide_eq_false hge; omega
    intro H2 hs2; refine C.shut hs2 ⟨Z', W', .inl ?_⟩; have : s.drop i = [] := List.drop_eq_nil_of_le (by omega)
    rw [this] at hJi; exact hJi
theorem it_chunk_ok : ItOk Try.prog f_slices_Chunkasl_byte_byte_1 it_chunk := by
  intro Hs Z W bs us c l C hpre hnd hlen hval hus hwf hzl hbz hwl hlay hlo hJ; obtain ⟨s, n, cu⟩ := c; have hus' : SimL ⟨Z, fun _ => 0, fun _ => .nilFunc⟩ Hs 0 [AV.lst [.int .u8] s, .int .i64 n] us := hus; obtain ⟨v1, v2, rfl⟩ := two (hus'.len).symm; obtain ⟨b1, b2, rfl⟩ := two (l := bs) (by rw [hlen]; rfl)
  simp only [SimL, SimV] at hus'; obtain ⟨hs, ⟨rfl, hnr⟩, _⟩ := hus'; obtain ⟨T1, hb1⟩ := hval 0 b1 v1 rfl rfl; obtain ⟨T2, hb2⟩ := hval 1 b2 _ rfl rfl; exact chunk_run hpre hs hb1 hb2 (hbz b1 (by simp)).2 (hbz b2 (by simp)).2 hJ
end Go.Proofs.Ytinilfhnplfhoaa
