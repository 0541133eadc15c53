/-
  PoolPlays: whatever is done to both pools, they answer alike and hold the same.
-/
import Derived.Test.YtligjponbhnedaaLaw2c
set_option maxRecDepth 100000
namespace Go.Proofs.Ytligjponbhnedaa
open Go.Sh

/-- A slice of acts that is handed in. -/
def IsActs (H : Heap) (a : Option Addr) (n : Nat) : Prop := ∀ i, i < n → ∃ b o, a = some ⟨b, o, none⟩ ∧ ∃ (do_ by_ : Int) (raw : Bool) (hn ht : Int) (ba : Option Addr) (bn bc : Nat) (bs : List UInt8),
  H.cell ⟨b, o + i * 6, none⟩ = some (.int .i64 do_) ∧ H.cell ⟨b, o + i * 6 + 1, none⟩ = some (.int .i64 by_) ∧ H.cell ⟨b, o + i * 6 + 2, none⟩ = some (.bool raw) ∧ H.cell ⟨b, o + i * 6 + 3, none⟩ = some (.int .i64 hn) ∧
  H.cell ⟨b, o + i * 6 + 4, none⟩ = some (.int .i64 ht) ∧ H.cell ⟨b, o + i * 6 + 5, none⟩ = some (.slice ba bn bc) ∧ IsBytes H ba bn bs ∧ bn ≤ bc

theorem cell_keep {H H' : Heap} (k : Keep Nil H H') {p : Addr} {v : Value} (h : H.cell p = some v) : H'.cell p = some v := by
  have hs : H p.block ≠ none := fun e => by
    unfold Heap.cell at h
    rw [e] at h
    cases h
  unfold Heap.cell at h ⊢
  rw [k.same _ (fun x => x) hs]
  exact h

theorem IsActs.keep {H H' : Heap} {a : Option Addr} {n : Nat} (h : IsActs H a n) (k : Keep Nil H H') : IsActs H' a n := by
  intro i hi
  obtain ⟨b, o, e, do_, by_, raw, hn, ht, ba, bn, bc, bs, c0, c1, c2, c3, c4, c5, hb, hl⟩ := h i hi
  exact ⟨b, o, e, do_, by_, raw, hn, ht, ba, bn, bc, bs, cell_keep k c0, cell_keep k c1, cell_keep k c2, cell_keep k c3, cell_keep k c4, cell_keep k c5, Reads.keep hb k fun _ _ h => h, hl⟩

theorem make_both {H0 H : Heap} {n : Nat} (h1 : 1 ≤ n) (h2 : n ≤ 256) (k0 : Keep Nil H0 H) {K : Option Addr → Option Addr → Heap → Prop}
    (h : ∀ x xl y yl H', Both H0 H' x xl y yl (PoolM.make n) (PoolM.make n) → K (some ⟨x, 0, none⟩) (some ⟨y, 0, none⟩) H') :
    FnW Try.prog f_pool_Make ⟨[.int .i64 n]⟩ H fun v H1 => ∃ x12r0 : Option Addr, ∃ x12r1 : Int, v = (.tuple ⟨[.pointer x12r0, .int .i64 x12r1]⟩) ∧
      FnW Try.prog f_ref02_Make ⟨[.int .i64 n]⟩ H1 fun v H2 => ∃ x17r0 : Option Addr, ∃ x17r1 : Int, v = (.tuple ⟨[.pointer x17r0, .int .i64 x17r1]⟩) ∧ x12r1 = x17r1 ∧ K x12r0 x17r0 H2 := by
  refine (pool_Make_spec h1 h2).mono ?_
  rintro v H1 ⟨k1, x, xl, c, d, f, hx0, hxl0, rfl, hx⟩
  refine ⟨_, _, rfl, (ref_Make_spec h1 h2).mono ?_⟩
  rintro v H2 ⟨k2, y, yl, fa, fc, e, rfl, hy⟩
  refine ⟨_, _, rfl, rfl, h x xl y yl H2 ⟨(k0.trans k1).trans k2, k0.free hx0, k0.free hxl0, ⟨c, d, f, hx.keep k2 (nil_no _) (nil_no _)⟩, fa, fc, e, hy.mono (k0.trans k1)⟩⟩

theorem law02_PoolPlays_spec {H : Heap} (n0 : Int) {a : Option Addr} {n cap : Nat} (ha : IsActs H a n) :
    FnW Try.prog f_law02_PoolPlays ⟨[.int .i64 n0, .slice a n cap]⟩ H fun v H' => v = .bool true ∧ Keep Nil H H' := by
  refine law02_PoolPlays_sh n0 a n cap ?_
  unfold law02_PoolPlays_p
  have ne : ∀ z : Int, (z != z) = false := fun z => by simp
  by_cases hr : n0 < 1 ∨ 256 < n0
  · refine (pool_Make_no hr).mono ?_
    rintro v _ ⟨rfl, rfl⟩
    refine ⟨_, _, rfl, (ref_Make_no hr).mono ?_⟩
    rintro v _ ⟨rfl, rfl⟩
    refine ⟨_, _, rfl, ?_⟩
    rw [ne, IfB_false]
    unfold law02_PoolPlays_j0
    rw [show (!((none : Option Addr).isNone == (none : Option Addr).isNone)) = false from rfl, IfB_false, show (none : Option Addr).isNone = true from rfl, IfB_true]
    refine law02_works_spec.mono ?_
    rintro v H' ⟨rfl, k⟩
    exact ⟨_, rfl, rfl, k⟩
  · have hn : n0 = (n0.toNat : Int) := by omega
    have h1 : 1 ≤ n0.toNat := by omega
    have h2 : n0.toNat ≤ 256 := by omega
    rw [hn]
    generalize n0.toNat = m at *
    clear hr hn n0
    refine (make_both h1 h2 (Keep.refl Nil H) (K := fun p q H' => law02_PoolPlays_j0 a n cap p q (!(p.isNone == q.isNone)) H' fun v H' => v = .bool true ∧ Keep Nil H H') fun x xl y yl H2 hb => ?_).mono ?_
    · unfold law02_PoolPlays_j0
      rw [show (!((some (⟨x, 0, none⟩ : Addr)).isNone == (some (⟨y, 0, none⟩ : Addr)).isNone)) = false from rfl, IfB_false, show (some (⟨y, 0, none⟩ : Addr)).isNone = false from rfl, IfB_false]
      refine LoopI.intro (fun k s H3 => ∃ (i : Nat) (M : PoolM), s = ((i : Int), ()) ∧ i ≤ 60 ∧ k = 60 - i ∧ Both H H3 x xl y yl M M ∧ M.count ≤ i) 60 ⟨0, _, rfl, Nat.zero_le _, by omega, hb, Int.le_refl _⟩ ?_
      rintro k s H3 ⟨i, M, rfl, hi, rfl, h3, hc⟩ g
      unfold law02_PoolPlays_l8
      simp only
      have j1 : ∀ b : Bool, (b = true → i < n ∧ i < 60) → law02_PoolPlays_j1 a n cap (some ⟨x, 0, none⟩) (some ⟨y, 0, none⟩) i (fun x' H' => ∃ k', k' < 60 - i ∧ ∃ (i : Nat) (M : PoolM), x' = ((i : Int), ()) ∧ i ≤ 60 ∧ k' = 60 - i ∧ Both H H' x xl y yl M M ∧ M.count ≤ i) b H3 fun v H' => v = .bool true ∧ Keep Nil H H' := by
        intro b hb
        unfold law02_PoolPlays_j1
        cases b with
        | false =>
          rw [IfB_false]
          refine law02_works_spec.mono ?_
          rintro v H' ⟨rfl, k⟩
          exact ⟨_, rfl, rfl, h3.keep.trans k⟩
        | true =>
          obtain ⟨hin, hi60⟩ := hb rfl
          rw [IfB_true]
          obtain ⟨q, o, rfl, do_, by_, raw, hn, ht, ba, bn, bc, bs, c0, c1, c2, c3, c4, c5, hbs, hl⟩ := (ha.keep h3.keep) i hin
          refine NilP.intro _ rfl (InB.intro i rfl hin ?_)
          rw [elemAt_none]
          refine ⟨_, c0, _, c1, _, c2, _, c3, _, c4, _, _, _, c5, ?_⟩
          refine (law02_do_spec h3 (by omega) do_ by_ raw hn ht hbs hl).mono ?_
          rintro v H7 ⟨rfl, M', h7, hc'⟩
          refine ⟨_, rfl, ?_⟩
          rw [Bool.not_true, IfB_false]
          refine (law02_same_spec h7).mono ?_
          rintro v H9 ⟨rfl, k9⟩
          refine ⟨_, rfl, ?_⟩
          unfold law02_PoolPlays_j2
          rw [Bool.not_true, IfB_false]
          exact ⟨60 - (i + 1), by omega, i + 1, M', by rw [wrap_id (by omega) (by omega)]; simp, by omega, rfl, h7.keepN k9, by simp only [Int.natCast_add]; omega⟩
      by_cases hlt : i < n
      · rw [decide_eq_true (by omega), IfB_true]
        exact j1 _ fun hd => ⟨hlt, by have := of_decide_eq_true hd; omega⟩
      · rw [decide_eq_false (by omega), IfB_false]
        exact j1 _ fun hd => by cases hd
    · rintro v H1 ⟨p, e, rfl, hf⟩
      refine ⟨_, _, rfl, hf.mono ?_⟩
      rintro v H2 ⟨q, e', rfl, rfl, hK⟩
      refine ⟨_, _, rfl, ?_⟩
      rw [ne, IfB_false]
      exact hK

end Go.Proofs.Ytligjponbhnedaa
