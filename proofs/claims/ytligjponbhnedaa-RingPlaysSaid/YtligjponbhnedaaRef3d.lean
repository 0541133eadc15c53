/-
  The verifier's ring: Slots, Fill, Take; two lists of numbers compared.
-/
import Derived.Test.YtligjponbhnedaaRef3c
set_option maxRecDepth 100000
namespace Go.Proofs.Ytligjponbhnedaa
open Go.Sh

theorem base_SameInts_spec {H : Heap} {a b : Option Addr} {n c d : Nat} {xs ys : List Int} (hx : Reads H a (n * 1) (i64s xs)) (hy : Reads H b (n * 1) (i64s ys)) (he : xs = ys) (ha : ∀ q, a = some q → q.spot = none) (hb : ∀ q, b = some q → q.spot = none) (hn : n < 100000) :
    FnW Try.prog f_base_SameInts ⟨[.slice a n c, .slice b n d]⟩ H fun v H' => v = .bool true ∧ H = H' := by
  subst he
  refine base_SameInts_sh a n c b n d ?_
  unfold base_SameInts_p
  have ne : ∀ z : Int, (z != z) = false := fun z => by simp
  rw [ne, IfB_false]
  have hl := hx.len
  rw [i64s_length, Nat.mul_one] at hl
  rw [Nat.mul_one] at hx hy
  refine LoopI.intro (fun k s H1 => ∃ i : Nat, s = ((i : Int), ()) ∧ i ≤ n ∧ k = n - i ∧ H = H1) n ⟨0, rfl, Nat.zero_le _, by omega, rfl⟩ ?_
  rintro k s H1 ⟨i, rfl, hi, rfl, rfl⟩ g
  unfold base_SameInts_l4
  simp only
  by_cases hlt : i < n
  · rw [decide_eq_true (by omega), IfB_true]
    cases a with
    | none => have := hx.2; simp only at this; omega
    | some a =>
      cases b with
      | none => have := hy.2; simp only at this; omega
      | some b =>
        obtain ⟨ab, ao, sa⟩ := a
        obtain ⟨bb, bo, sb⟩ := b
        have e1 : sa = none := ha _ rfl
        have e2 : sb = none := hb _ rfl
        subst e1 e2
        refine NilP.intro _ rfl (InB.intro i rfl hlt ?_)
        rw [elemAt_none, Nat.mul_one]
        refine ⟨_, (hx.cell hlt).trans (i64s_get (by omega)), NilP.intro _ rfl (InB.intro i rfl hlt ?_)⟩
        rw [elemAt_none, Nat.mul_one]
        refine ⟨_, (hy.cell hlt).trans (i64s_get (by omega)), ?_⟩
        rw [ne, IfB_false]
        exact ⟨n - (i + 1), by omega, i + 1, by rw [wrap_id (by omega) (by omega)]; simp, by omega, by first | rfl | trivial, by first | rfl | trivial⟩
  · rw [decide_eq_false (by omega), IfB_false]
    exact ⟨by first | rfl | trivial, by first | rfl | trivial⟩

theorem ref3_Fill_gen {H0 H : Heap} {b x : Nat} {M : RingM} {pa da : Option Addr} {pc dc : Nat} (k0 : Keep Nil H0 H) (h : QAt H0 H b M pa pc da dc) (hc : M.reaped < 2 ^ 60) (a : Option Addr) (n cap : Nat) {R : Value → Heap → Prop}
    (hno : M.device.2.1 ≠ 0 → ∀ H', Keep (fun z => z = b) H H' → (∃ pa' pc' da' dc', QAt H0 H' b M.device.2.2 pa' pc' da' dc') → R (.int .i64 30) H')
    (hok : M.device.2.1 = 0 → ∀ H', Keep (fun z => z = b) H H' → (∃ pa' pc' da' dc', QAt H0 H' b M.device.2.2 pa' pc' da' dc') →
      FnW Try.prog f_ref02_Pool_Write ⟨[.pointer (some ⟨x, 0, none⟩), .agg ⟨[.int .i64 M.device.1.1, .int .i64 M.device.1.2]⟩, .slice a n cap]⟩ H' fun v H'' => ∃ e : Int, v = .int .i64 e ∧ R (.int .i64 e) H'') :
    FnW Try.prog f_ref03_Ring_Fill ⟨[.pointer (some ⟨b, 0, none⟩), .pointer (some ⟨x, 0, none⟩), .slice a n cap]⟩ H R := by
  refine ref03_Ring_Fill_sh b x a n cap ?_
  unfold ref03_Ring_Fill_p
  refine (ref3_work_spec k0 h hc).mono ?_
  rintro v H1 ⟨rfl, k1, pa', pc', da', dc', h1⟩
  refine ⟨_, _, _, rfl, ?_⟩
  refine new_pair fun m H4 _ k4 _ hm => ?_
  have k14 : Keep (fun z => z = b) H H4 := k1.trans (k4.mono fun _ h => h.elim)
  have h4 : ∃ pa' pc' da' dc', QAt H0 H4 b M.device.2.2 pa' pc' da' dc' := ⟨pa', pc', da', dc', h1.keepN k4⟩
  by_cases e : M.device.2.1 = 0
  · rw [decide_eq_true e, Bool.not_true, IfB_false]
    exact ⟨_, by rw [hm.cell]; rfl, _, by rw [hm.cell]; rfl, hok e H4 k14 h4⟩
  · rw [decide_eq_false e, Bool.not_false, IfB_true]
    exact hno e H4 k14 h4

theorem ref3_Take_gen {H0 H : Heap} {b x : Nat} {M : RingM} {pa da : Option Addr} {pc dc : Nat} (k0 : Keep Nil H0 H) (h : QAt H0 H b M pa pc da dc) (hc : M.reaped < 2 ^ 60) {R : Value → Heap → Prop}
    (hno : M.device.2.1 ≠ 0 → ∀ H', Keep (fun z => z = b) H H' → (∃ pa' pc' da' dc', QAt H0 H' b M.device.2.2 pa' pc' da' dc') → R (.tuple ⟨[.slice none 0 0, .int .i64 30]⟩) H')
    (hok : M.device.2.1 = 0 → ∀ H', Keep (fun z => z = b) H H' → (∃ pa' pc' da' dc', QAt H0 H' b M.device.2.2 pa' pc' da' dc') →
      FnW Try.prog f_ref02_Pool_Read ⟨[.pointer (some ⟨x, 0, none⟩), .agg ⟨[.int .i64 M.device.1.1, .int .i64 M.device.1.2]⟩]⟩ H' fun v H'' => ∃ (a : Option Addr) (n cap : Nat), ∃ e : Int, v = .tuple ⟨[.slice a n cap, .int .i64 e]⟩ ∧ R (.tuple ⟨[.slice a n cap, .int .i64 e]⟩) H'') :
    FnW Try.prog f_ref03_Ring_Take ⟨[.pointer (some ⟨b, 0, none⟩), .pointer (some ⟨x, 0, none⟩)]⟩ H R := by
  refine ref03_Ring_Take_sh b x ?_
  unfold ref03_Ring_Take_p
  refine (ref3_work_spec k0 h hc).mono ?_
  rintro v H1 ⟨rfl, k1, pa', pc', da', dc', h1⟩
  refine ⟨_, _, _, rfl, ?_⟩
  refine new_pair fun m H4 _ k4 _ hm => ?_
  have k14 : Keep (fun z => z = b) H H4 := k1.trans (k4.mono fun _ h => h.elim)
  have h4 : ∃ pa' pc' da' dc', QAt H0 H4 b M.device.2.2 pa' pc' da' dc' := ⟨pa', pc', da', dc', h1.keepN k4⟩
  by_cases e : M.device.2.1 = 0
  · rw [decide_eq_true e, Bool.not_true, IfB_false]
    exact ⟨_, by rw [hm.cell]; rfl, _, by rw [hm.cell]; rfl, hok e H4 k14 h4⟩
  · rw [decide_eq_false e, Bool.not_false, IfB_true]
    exact hno e H4 k14 h4

/-- The states by positions. -/
def Posn (M : RingM) (z : Array Value) (f : Nat → Int) : Prop := z.size = M.N ∧ ∀ j, j < M.N → z[(M.reaped + j) % M.N]? = some (.int .i64 (f j))

theorem posn_set {M : RingM} {z : Array Value} {f : Nat → Int} (h : Posn M z f) {k : Nat} (hk : k < M.N) (v : Int) : Posn M (z.setIfInBounds ((M.reaped + k) % M.N) (.int .i64 v)) (fun j => if j = k then v else f j) := by
  refine ⟨by simpa using h.1, fun j hj => ?_⟩
  show (z.setIfInBounds ((M.reaped + k) % M.N) (.int .i64 v))[(M.reaped + j) % M.N]? = some (Value.int .i64 (if j = k then v else f j))
  by_cases e : j = k
  · subst e
    rw [if_pos rfl, set_eq rfl (by rw [h.1]; exact Nat.mod_lt _ (by omega))]
  · rw [if_neg e, set_ne (fun e' => e (mod_inj hj hk e'.symm))]
    exact h.2 j hj

theorem ref3_Slots_spec {H0 H : Heap} {b : Nat} {M : RingM} {pa da : Option Addr} {pc dc : Nat} (h : QAt H0 H b M pa pc da dc) (hc : M.reaped < 2 ^ 60) :
    FnW Try.prog f_ref03_Ring_Slots ⟨[.pointer (some ⟨b, 0, none⟩)]⟩ H fun v H' => Keep Nil H H' ∧ ∃ o z, v = .slice (some ⟨o, 0, none⟩) M.N M.N ∧ Blk H' o T_int z ∧ Posn M z M.st := by
  refine ref03_Ring_Slots_sh b ?_
  unfold ref03_Ring_Slots_p
  have hpos := h.pos
  have hle := h.le
  have hfit := h.fits
  refine ⟨M.N, by rw [h.blk.cell]; rfl, ?_⟩
  obtain ⟨it, hi, hsz, hby⟩ := row_int.info
  refine MakeW.intro und_sl_int hi row_int.zero (by rw [hsz]; rfl) (Nat.le_refl _) (by omega) (by rw [hby]; omega) fun o ho => ?_
  have k1 : Keep Nil H (H.upd o (.cells ⟨repL M.N [.int .i64 0]⟩ T_int)) := (Keep.refl _ _).new ho
  have hO : Blk (H.upd o (.cells ⟨repL M.N [.int .i64 0]⟩ T_int)) o T_int ⟨repL M.N [.int .i64 0]⟩ := Blk.upd_eq
  have hz0 : Posn M ⟨repL M.N [.int .i64 0]⟩ (fun j => if j < 0 then 2 else 0) := by
    rw [repL_zero]
    refine ⟨by simp, fun j _ => ?_⟩
    simp only [List.getElem?_toArray]
    rw [List.getElem?_replicate, if_pos (Nat.mod_lt _ hpos), if_neg (by omega)]
  have hob : b ≠ o := h.blk.ne ho
  generalize H.upd o (.cells ⟨repL M.N [.int .i64 0]⟩ T_int) = H1 at *
  have hB1 := k1.blk h.blk (nil_no _)
  refine ⟨_, _, _, rfl, _, by rw [hB1.cell]; rfl, ?_⟩
  have tm : ∀ j : Nat, Int.tmod ((M.reaped + j : Nat) : Int) (M.N : Int) = (((M.reaped + j) % M.N : Nat) : Int) := fun j => by
    rw [Int.tmod_eq_emod_of_nonneg (by omega)]; simp
  refine LoopI.intro (fun k s H2 => ∃ (j : Nat) (z : Array Value), s = (((M.reaped + j : Nat) : Int), ()) ∧ j ≤ M.done.length ∧ k = M.done.length - j ∧ Keep Nil H H2 ∧ Blk H2 o T_int z ∧ Posn M z (fun i => if i < j then 2 else 0)) M.done.length
    ⟨0, _, rfl, Nat.zero_le _, by omega, k1, hO, hz0⟩ ?_
  rintro k s H2 ⟨j, z, rfl, hj, rfl, k2, hO2, hz2⟩ g
  unfold ref03_Ring_Slots_l3
  simp only
  have hB2 := k2.blk h.blk (nil_no _)
  refine ⟨_, by rw [hB2.cell]; rfl, ?_⟩
  by_cases hlt : j < M.done.length
  · rw [decide_eq_true (by omega), IfB_true]
    refine ⟨_, by rw [hB2.cell]; rfl, by omega, NilP.intro _ rfl (InB.intro ((M.reaped + j) % M.N) (tm j) (Nat.mod_lt _ hpos) ?_)⟩
    rw [elemAt_none]
    have hml := Nat.mod_lt (M.reaped + j) hpos
    refine StCell.blk hO2 (by rw [hz2.1]; first | omega | (simp only; omega)) rfl ?_
    refine ⟨M.done.length - (j + 1), by omega, j + 1, z.setIfInBounds (0 + (M.reaped + j) % M.N * 1) (.int .i64 2), ?_, by omega, rfl, k2.upd (.inr ho), Blk.upd_eq, ?_⟩
    · rw [wrap_id (by omega) (by omega)]
      congr 1 <;> omega
    · rw [Nat.zero_add, Nat.mul_one]
      have := posn_set hz2 (k := j) (by omega) 2
      refine ⟨this.1, fun i hi => ?_⟩
      rw [this.2 i hi]
      congr 2
      show (if i = j then (2 : Int) else if i < j then 2 else 0) = if i < j + 1 then 2 else 0
      by_cases e : i = j
      · rw [if_pos e, if_pos (by omega)]
      · rw [if_neg e]
        by_cases e2 : i < j
        · rw [if_pos e2, if_pos (by omega)]
        · rw [if_neg e2, if_neg (by omega)]
  · rw [decide_eq_false (by omega), IfB_false]
    obtain rfl : j = M.done.length := by omega
    refine ⟨_, by rw [hB2.cell]; rfl, ?_⟩
    refine LoopI.intro (fun k s H3 => ∃ (j : Nat) (z : Array Value), s = (((M.reaped + (M.done.length + j) : Nat) : Int), ()) ∧ j ≤ M.posted.length ∧ k = M.posted.length - j ∧ Keep Nil H H3 ∧ Blk H3 o T_int z ∧ Posn M z (fun i => if i < M.done.length then 2 else if i < M.done.length + j then 1 else 0)) M.posted.length
      ⟨0, z, rfl, Nat.zero_le _, by omega, k2, hO2, ⟨hz2.1, fun i hi => by
        rw [hz2.2 i hi]
        congr 2
        show (if i < M.done.length then (2 : Int) else 0) = if i < M.done.length then 2 else if i < M.done.length + 0 then 1 else 0
        by_cases e : i < M.done.length
        · rw [if_pos e, if_pos e]
        · rw [if_neg e, if_neg e, if_neg (by omega)]⟩⟩ ?_
    rintro k s H3 ⟨j, z, rfl, hj, rfl, k3, hO3, hz3⟩ g
    unfold ref03_Ring_Slots_l7
    simp only
    have hB3 := k3.blk h.blk (nil_no _)
    refine ⟨_, by rw [hB3.cell]; rfl, ?_⟩
    by_cases hlt : j < M.posted.length
    · rw [decide_eq_true (by omega), IfB_true]
      refine ⟨_, by rw [hB3.cell]; rfl, by omega, NilP.intro _ rfl (InB.intro ((M.reaped + (M.done.length + j)) % M.N) (tm _) (Nat.mod_lt _ hpos) ?_)⟩
      rw [elemAt_none]
      have hml := Nat.mod_lt (M.reaped + (M.done.length + j)) hpos
      refine StCell.blk hO3 (by rw [hz3.1]; first | omega | (simp only; omega)) rfl ?_
      refine ⟨M.posted.length - (j + 1), by omega, j + 1, z.setIfInBounds (0 + (M.reaped + (M.done.length + j)) % M.N * 1) (.int .i64 1), ?_, by omega, rfl, k3.upd (.inr ho), Blk.upd_eq, ?_⟩
      · rw [wrap_id (by omega) (by omega)]
        congr 1 <;> omega
      · rw [Nat.zero_add, Nat.mul_one]
        have := posn_set hz3 (k := M.done.length + j) (by omega) 1
        refine ⟨this.1, fun i hi => ?_⟩
        rw [this.2 i hi]
        congr 2
        show (if i = M.done.length + j then (1 : Int) else if i < M.done.length then 2 else if i < M.done.length + j then 1 else 0) = if i < M.done.length then 2 else if i < M.done.length + (j + 1) then 1 else 0
        by_cases e : i = M.done.length + j
        · rw [if_pos e, if_neg (by omega), if_pos (by omega)]
        · rw [if_neg e]
          by_cases e2 : i < M.done.length
          · rw [if_pos e2, if_pos e2]
          · rw [if_neg e2, if_neg e2]
            by_cases e3 : i < M.done.length + j
            · rw [if_pos e3, if_pos (by omega)]
            · rw [if_neg e3, if_neg (by omega)]
    · rw [decide_eq_false (by omega), IfB_false]
      obtain rfl : j = M.posted.length := by omega
      exact ⟨k3, o, z, rfl, hO3, hz3⟩

end Go.Proofs.Ytligjponbhnedaa
