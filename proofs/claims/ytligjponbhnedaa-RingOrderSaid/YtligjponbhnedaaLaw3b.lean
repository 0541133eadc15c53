/-
  RingOrder: what is posted comes out in its order, each once; the counts hold.
-/
import Derived.Test.YtligjponbhnedaaLaw3a
import Derived.Test.YtligjponbhnedaaLaw2d
set_option maxRecDepth 100000
namespace Go.Proofs.Ytligjponbhnedaa
open Go.Sh

/-- A slice of numbers that is handed in. -/
def IsNums (H : Heap) (a : Option Addr) (n : Nat) : Prop := ∀ i, i < n → ∃ b o, a = some ⟨b, o, none⟩ ∧ ∃ z : Int, H.cell ⟨b, o + i, none⟩ = some (.int .i64 z)
theorem IsNums.keep {H H' : Heap} {a : Option Addr} {n : Nat} (h : IsNums H a n) (k : Keep Nil H H') : IsNums H' a n := by
  intro i hi
  obtain ⟨b, o, e, z, c⟩ := h i hi
  exact ⟨b, o, e, z, cell_keep k c⟩

/-- What holds between two turns. -/
def RO (H0 H : Heap) (x xl b n i po dn re : Nat) : Prop :=
  ∃ M : RingM, PR H0 H x xl b (PoolM.make 1) M ∧ M.N = n ∧ M.reaped = re ∧ M.done.length + re = dn ∧ M.posted.length + dn = po ∧ po ≤ i ∧ ∀ (j : Nat) (p : Int × Int), M.win[j]? = some p → p = (((re + j : Nat) : Int), 7)

theorem one_write (n : Int) (bs : List UInt8) : ∃ e : Int, (PoolM.make 1).write n 7 bs = (e, PoolM.make 1) ∧ (e = 2 ∨ e = 5) := by
  have hne : (PoolM.make 1).findE n 7 ≠ 0 := fun h => by
    obtain ⟨h1, h2, h3, h4⟩ := PoolM.findE_zero h
    have : n.toNat = 0 := by
      have h5 : (PoolM.make 1).bufs.length = 1 := rfl
      omega
    rw [this] at h4
    exact absurd h4 (by decide)
  refine ⟨(PoolM.make 1).findE n 7, ?_, PoolM.findE_ne hne⟩
  unfold PoolM.write
  rw [if_neg hne]

theorem ringOrder_tail {H0 H : Heap} {x xl b n i po dn re : Nat} {x19 : Int} {a : Option Addr} {tn tc : Nat} {q : Option Addr} {next8 : (Int × Int × Int × Int × Unit) → Heap → Prop} {R : Value → Heap → Prop} (hn : 1 ≤ n) (hn2 : n ≤ 12) (hw : IntKind.wrap .i64 (1 + x19) = n) (hi : i < 1000)
    (h : RO H0 H x xl b n (i + 1) po dn re) (hnext : ∀ H', RO H0 H' x xl b n (i + 1) po dn re → next8 ((po : Int), (dn : Int), (re : Int), ((i + 1 : Nat) : Int), ()) H') :
    law03_RingOrder_j1 x19 a tn tc (some ⟨b, 0, none⟩) q i next8 po dn re H R := by
  unfold law03_RingOrder_j1
  obtain ⟨M, hM, h1, h2, h3, h4, h5, h6⟩ := h
  obtain ⟨c, hr⟩ := hM.atR
  have hfit := hr.fits
  have ne : ∀ z : Int, (z != z) = false := fun z => by simp
  refine (ring_Slots_spec hr).mono ?_
  rintro v H1 ⟨k1, sa, scap, rfl, _⟩
  have hM1 := hM.keepN k1
  have hr1 := hr.keep k1 (nil_no _)
  refine ⟨_, _, _, rfl, ?_⟩
  rw [hw, h1, ne, IfB_false]
  refine (ring_Count_spec hr1 0 (by omega)).mono ?_
  rintro v _ ⟨rfl, rfl⟩
  refine ⟨_, rfl, ?_⟩
  refine (ring_Count_spec hr1 1 (by omega)).mono ?_
  rintro v _ ⟨rfl, rfl⟩
  refine ⟨_, rfl, ?_⟩
  refine (ring_Count_spec hr1 2 (by omega)).mono ?_
  rintro v _ ⟨rfl, rfl⟩
  refine ⟨_, rfl, ?_⟩
  simp only [if_true, if_false, Nat.one_ne_zero, show ¬ (2 : Nat) = 0 by omega, show ¬ (2 : Nat) = 1 by omega]
  have e1 : IntKind.wrap .i64 (IntKind.wrap .i64 (((M.N - (M.done.length + M.posted.length) : Nat) : Int) + (M.posted.length : Int)) + (M.done.length : Int)) = (n : Int) := by
    rw [wrap_id (n := ((M.N - (M.done.length + M.posted.length) : Nat) : Int) + (M.posted.length : Int)) (by omega) (by omega), wrap_id (by omega) (by omega)]
    omega
  rw [e1, ne, IfB_false]
  refine (ring_Count_spec hr1 1 (by omega)).mono ?_
  rintro v _ ⟨rfl, rfl⟩
  refine ⟨_, rfl, ?_⟩
  simp only [if_true, if_false, Nat.one_ne_zero]
  have e2 : IntKind.wrap .i64 ((po : Int) - (dn : Int)) = (M.posted.length : Int) := by
    rw [wrap_id (by omega) (by omega)]; omega
  have e3 : IntKind.wrap .i64 ((dn : Int) - (re : Int)) = (M.done.length : Int) := by
    rw [wrap_id (by omega) (by omega)]; omega
  rw [e2, ne, IfB_false]
  refine (ring_Count_spec hr1 2 (by omega)).mono ?_
  rintro v _ ⟨rfl, rfl⟩
  refine ⟨_, rfl, ?_⟩
  simp only [if_false, show ¬ (2 : Nat) = 0 by omega, show ¬ (2 : Nat) = 1 by omega]
  rw [e3, ne]
  unfold law03_RingOrder_j2
  rw [IfB_false]
  have e4 : IntKind.wrap .i64 ((i : Int) + 1) = ((i + 1 : Nat) : Int) := by
    rw [wrap_id (by omega) (by omega)]; simp
  rw [e4]
  exact hnext _ ⟨M, hM1, h1, h2, h3, h4, h5, h6⟩

theorem law03_RingOrder_spec {H : Heap} (n0 : Int) {a : Option Addr} {tn tc : Nat} (ha : IsNums H a tn) :
    FnW Try.prog f_law03_RingOrder ⟨[.int .i64 n0, .slice a tn tc]⟩ H fun v H' => v = .bool true ∧ Keep Nil H H' := by
  refine law03_RingOrder_sh n0 a tn tc ?_
  unfold law03_RingOrder_p
  refine law03_works_spec.mono ?_
  rintro v H1 ⟨rfl, k1⟩
  refine ⟨_, rfl, ?_⟩
  rw [Bool.not_true, IfB_false]
  refine (base_Among_spec n0 (n := 12) (by omega) (by omega)).mono ?_
  rintro v _ ⟨rfl, rfl⟩
  refine ⟨_, rfl, ?_⟩
  have hlt8 := amongV_lt n0 (n := 12) (by omega)
  obtain ⟨n, hm⟩ : ∃ m : Nat, m = amongV n0 12 + 1 := ⟨_, rfl⟩
  have hw : IntKind.wrap .i64 (1 + ((amongV n0 12 : Nat) : Int)) = (n : Int) := by rw [wrap_id (by omega) (by omega)]; omega
  generalize ((amongV n0 12 : Nat) : Int) = x19 at *
  rw [hw]
  have hn1 : 1 ≤ n := by omega
  have hn2 : n ≤ 12 := by omega
  clear hm hlt8
  refine (ring_Make_spec hn1 (by omega)).mono ?_
  rintro v H2 ⟨k2, b, c, hb0, rfl, hr⟩
  refine ⟨_, _, rfl, ?_⟩
  refine (pool_Make_spec (n := 1) (by omega) (by omega)).mono ?_
  rintro v H3 ⟨k3, x, xl, c', d, f, hx0, hxl0, rfl, hx⟩
  refine ⟨_, _, rfl, ?_⟩
  have h0 : PR H H3 x xl b (PoolM.make 1) (RingM.make n) := ⟨(k1.trans k2).trans k3, (k1.trans k2).free hx0, (k1.trans k2).free hxl0, k1.free hb0, ⟨c', d, f, hx⟩, c, hr.keep k3 (nil_no _)⟩
  refine LoopI.intro (fun k s H4 => ∃ i po dn re : Nat, s = ((po : Int), (dn : Int), (re : Int), (i : Int), ()) ∧ i ≤ 120 ∧ k = 120 - i ∧ RO H H4 x xl b n i po dn re) 120
    ⟨0, 0, 0, 0, rfl, Nat.zero_le _, by omega, RingM.make n, h0, rfl, rfl, rfl, rfl, Nat.le_refl _, fun j p hj => by simp [RingM.win, RingM.make] at hj⟩ ?_
  rintro k s H6 ⟨i, po, dn, re, rfl, hi, rfl, hro⟩ g
  unfold law03_RingOrder_l8
  simp only
  have j0 : ∀ w : Bool, (w = true → i < tn ∧ i < 120) → law03_RingOrder_j0 x19 a tn tc (some ⟨b, 0, none⟩) (some ⟨x, 0, none⟩) po dn re i (fun x' H' => ∃ k', k' < 120 - i ∧ ∃ i po dn re : Nat, x' = ((po : Int), (dn : Int), (re : Int), (i : Int), ()) ∧ i ≤ 120 ∧ k' = 120 - i ∧ RO H H' x xl b n i po dn re) w H6 fun v H' => v = .bool true ∧ Keep Nil H H' := by
    intro w hwt
    unfold law03_RingOrder_j0
    cases w with
    | false =>
      obtain ⟨M, hM, _⟩ := hro
      rw [IfB_false]; exact ⟨rfl, hM.keep⟩
    | true =>
      obtain ⟨hin, hi120⟩ := hwt rfl
      rw [IfB_true]
      obtain ⟨M, hM, h1, h2, h3, h4, h5, h6⟩ := hro
      obtain ⟨q, o, rfl, z, hz⟩ := (ha.keep hM.keep) i hin
      refine NilP.intro _ rfl (InB.intro i rfl hin ?_)
      rw [elemAt_none]
      refine ⟨z, by rw [Nat.mul_one]; exact hz, ?_⟩
      refine (base_Among_spec z (n := 3) (by omega) (by omega)).mono ?_
      rintro v _ ⟨rfl, rfl⟩
      refine ⟨_, rfl, ?_⟩
      obtain ⟨c, hr⟩ := hM.atR
      have hfit := hr.fits
      have nx : ∀ {po' dn' re' : Nat}, ∀ H', RO H H' x xl b n (i + 1) po' dn' re' → (fun x' H' => ∃ k', k' < 120 - i ∧ ∃ i po dn re : Nat, x' = ((po : Int), (dn : Int), (re : Int), (i : Int), ()) ∧ i ≤ 120 ∧ k' = 120 - i ∧ RO H H' x xl b n i po dn re) ((po' : Int), (dn' : Int), (re' : Int), ((i + 1 : Nat) : Int), ()) H' :=
        fun H' h' => ⟨120 - (i + 1), by omega, i + 1, _, _, _, rfl, by omega, rfl, h'⟩
      generalize ((amongV z 3 : Nat) : Int) = wz
      have hwl : M.win.length = M.done.length + M.posted.length := by simp [RingM.win]
      by_cases w0 : wz = 0
      · subst w0
        rw [show ((0 : Int) == 0) = true from rfl, IfB_true]
        refine (pr_Post hM po 7).mono ?_
        rintro v H8 ⟨rfl, _, h8⟩
        refine ⟨_, rfl, ?_⟩
        rw [hw]
        have e1 : IntKind.wrap .i64 ((po : Int) - (re : Int)) = ((po : Int) - (re : Int)) := wrap_id (by omega) (by omega)
        rw [e1]
        by_cases hfull : M.done.length + M.posted.length = M.N
        · have hp : M.post ((po : Int), 7) = (4, M) := by unfold RingM.post; rw [if_pos hfull]
          rw [hp] at h8 ⊢
          rw [decide_eq_false (by omega), show (!(((4 : Int) == 0) == false)) = false from rfl, IfB_false, show ((4 : Int) == 0) = false from rfl, IfB_false]
          exact ringOrder_tail hn1 hn2 hw (by omega) ⟨M, h8, h1, h2, h3, h4, by omega, h6⟩ fun H' h' => nx H' h'
        · have hp : M.post ((po : Int), 7) = (0, { M with posted := M.posted ++ [((po : Int), 7)] }) := by unfold RingM.post; rw [if_neg hfull]
          rw [hp] at h8 ⊢
          rw [decide_eq_true (by omega), show (!(((0 : Int) == 0) == true)) = false from rfl, IfB_false, show ((0 : Int) == 0) = true from rfl, IfB_true]
          have e2 : IntKind.wrap .i64 ((po : Int) + 1) = ((po + 1 : Nat) : Int) := by rw [wrap_id (by omega) (by omega)]; simp
          rw [e2]
          refine ringOrder_tail hn1 hn2 hw (by omega) ⟨_, h8, h1, h2, h3, by simp only [List.length_append, List.length_cons, List.length_nil]; omega, by omega, fun j p hj => ?_⟩ fun H' h' => nx H' h'
          have hwin : RingM.win { N := M.N, done := M.done, posted := M.posted ++ [((po : Int), 7)], reaped := M.reaped } = M.win ++ [((po : Int), 7)] := by simp [RingM.win]
          rw [hwin] at hj
          by_cases hj2 : j < M.win.length
          · rw [List.getElem?_append_left hj2] at hj
            exact h6 j p hj
          · rw [List.getElem?_append_right (by omega)] at hj
            have hj3 : j - M.win.length = 0 := by
              apply Classical.byContradiction
              intro hne
              rw [List.getElem?_eq_none (by simp only [List.length_cons, List.length_nil]; omega)] at hj
              cases hj
            rw [hj3] at hj
            simp only [List.getElem?_cons_zero, Option.some.injEq] at hj
            rw [← hj]
            congr 2
            omega
      · have e0 : (wz == 0) = false := by simpa using w0
        rw [e0, IfB_false]
        by_cases w1 : wz = 1
        · subst w1
          rw [show ((1 : Int) == 1) = true from rfl, IfB_true]
          refine (pr_Fill hM (a := none) (bs := []) Reads.nil (fun _ h => by cases h)).mono ?_
          rintro v H17 ⟨rfl, _, h17⟩
          refine ⟨_, rfl, ?_⟩
          cases hpo : M.posted with
          | nil =>
            have hd : M.device = ((0, 0), 30, M) := by unfold RingM.device; rw [hpo]
            have hf : fillV (PoolM.make 1) M [] = (30, PoolM.make 1) := by unfold fillV; rw [hd, if_neg (show ¬ (30 : Int) = 0 by omega)]
            rw [hf] at h17 ⊢
            rw [hd] at h17
            have hpl : M.posted.length = 0 := by rw [hpo]; rfl
            rw [decide_eq_false (by omega), show (!(((30 : Int) != 30) == false)) = false from rfl, IfB_false]
            have e2 : min (IntKind.wrap .i64 ((dn : Int) + 1)) (po : Int) = ((dn : Nat) : Int) := by rw [wrap_id (by omega) (by omega)]; omega
            rw [e2]
            exact ringOrder_tail hn1 hn2 hw (by omega) ⟨M, h17, h1, h2, h3, h4, by omega, h6⟩ fun H' h' => nx H' h'
          | cons w r =>
            have hd : M.device = (w, 0, { M with posted := r, done := M.done ++ [w] }) := by unfold RingM.device; rw [hpo]
            have hpl : M.posted.length = r.length + 1 := by rw [hpo]; rfl
            have hw7 : w = (((re + M.done.length : Nat) : Int), 7) := h6 M.done.length w (by simp [RingM.win, hpo])
            obtain ⟨e, he1, he2⟩ := one_write w.1 []
            have hf : fillV (PoolM.make 1) M [] = (e, PoolM.make 1) := by
              unfold fillV
              rw [hd]
              simp only
              rw [if_pos True.intro]
              have : w.2 = 7 := by rw [hw7]
              rw [this]; exact he1
            rw [hf] at h17 ⊢
            rw [hd] at h17
            have e30 : (e != 30) = true := by rcases he2 with rfl | rfl <;> rfl
            rw [decide_eq_true (by omega)]
            simp only
            rw [e30, show (!(true == true)) = false from rfl, IfB_false]
            have e2 : min (IntKind.wrap .i64 ((dn : Int) + 1)) (po : Int) = ((dn + 1 : Nat) : Int) := by rw [wrap_id (by omega) (by omega)]; omega
            rw [e2]
            refine ringOrder_tail hn1 hn2 hw (by omega) ⟨_, h17, h1, h2, by simp only [List.length_append, List.length_cons, List.length_nil]; omega, by simp only; omega, by omega, fun j p hj => ?_⟩ fun H' h' => nx H' h'
            have hwin : RingM.win { N := M.N, done := M.done ++ [w], posted := r, reaped := M.reaped } = M.win := by simp [RingM.win, hpo]
            rw [hwin] at hj
            exact h6 j p hj
        · have e1 : (wz == 1) = false := by simpa using w1
          rw [e1, IfB_false]
          refine (pr_Reap hM).mono ?_
          rintro v H18 ⟨rfl, _, h18⟩
          refine ⟨_, _, _, rfl, ?_⟩
          refine new_pair fun m H21 _ k21 _ hP => ?_
          have h21 := h18.keepN k21
          have fin : ∀ w : Bool, w = false → ∀ re' : Nat, min (IntKind.wrap .i64 ((re : Int) + 1)) (dn : Int) = (re' : Int) → RO H H21 x xl b n (i + 1) po dn re' → law03_RingOrder_j3 x19 (some ⟨q, o, none⟩) tn tc (some ⟨b, 0, none⟩) (some ⟨x, 0, none⟩) po dn re i (fun x' H' => ∃ k', k' < 120 - i ∧ ∃ i po dn re : Nat, x' = ((po : Int), (dn : Int), (re : Int), (i : Int), ()) ∧ i ≤ 120 ∧ k' = 120 - i ∧ RO H H' x xl b n i po dn re) w H21 fun v H' => v = .bool true ∧ Keep Nil H H' := by
            intro w hw0 re' hre hRO
            subst hw0
            unfold law03_RingOrder_j3
            rw [IfB_false, hre]
            exact ringOrder_tail hn1 hn2 hw (by omega) hRO fun H' h' => nx H' h'
          cases hdo : M.done with
          | nil =>
            have hd : M.reap = ((0, 0), 30, M) := by unfold RingM.reap; rw [hdo]
            rw [hd] at h21 ⊢
            have hdl : M.done.length = 0 := by rw [hdo]; rfl
            rw [decide_eq_false (by omega), show (!(((30 : Int) == 0) == false)) = false from rfl, IfB_false, show ((30 : Int) == 0) = false from rfl, IfB_false]
            exact fin _ rfl re (by rw [wrap_id (by omega) (by omega)]; omega) ⟨M, h21, h1, h2, h3, h4, by omega, h6⟩
          | cons w r =>
            have hd : M.reap = (w, 0, { M with done := r, reaped := M.reaped + 1 }) := by unfold RingM.reap; rw [hdo]
            have hdl : M.done.length = r.length + 1 := by rw [hdo]; rfl
            have hw7 : w = (((re + 0 : Nat) : Int), 7) := h6 0 w (by simp [RingM.win, hdo])
            rw [hd] at h21 hP ⊢
            rw [decide_eq_true (by omega), show (!(((0 : Int) == 0) == true)) = false from rfl, IfB_false, show ((0 : Int) == 0) = true from rfl, IfB_true]
            refine ⟨w.1, by rw [hP.cell]; rfl, w.2, by rw [hP.cell]; rfl, guard_Handle, ?_⟩
            refine fin _ (by rw [hw7]; simp) (re + 1) (by rw [wrap_id (by omega) (by omega)]; omega) ⟨_, h21, h1, by simp only; omega, by simp only; omega, h4, by omega, fun j p hj => ?_⟩
            have hwin : M.win = w :: RingM.win { N := M.N, done := r, posted := M.posted, reaped := M.reaped + 1 } := by simp [RingM.win, hdo]
            have := h6 (j + 1) p (by rw [hwin, List.getElem?_cons_succ]; exact hj)
            rw [this]
            congr 2
            omega
  by_cases hlt : i < tn
  · rw [decide_eq_true (by omega), IfB_true]
    exact j0 _ fun hd => ⟨hlt, by have := of_decide_eq_true hd; omega⟩
  · rw [decide_eq_false (by omega), IfB_false]
    exact j0 _ fun hd => by cases hd

end Go.Proofs.Ytligjponbhnedaa
