/-
  RingPlays: whatever is done to both sides, they answer alike and hold the same.
-/
import Derived.Test.YtligjponbhnedaaLaw3e
set_option maxRecDepth 100000
namespace Go.Proofs.Ytligjponbhnedaa
open Go.Sh

/-- A slice of acts of law 03 that is handed in. -/
def IsActs3 (H : Heap) (a : Option Addr) (n : Nat) : Prop := ∀ i, i < n → ∃ b o, a = some ⟨b, o, none⟩ ∧ ∃ (do_ hn ht : Int) (ba : Option Addr) (bn bc : Nat) (bs : List UInt8),
  H.cell ⟨b, o + i * 4, none⟩ = some (.int .i64 do_) ∧ H.cell ⟨b, o + i * 4 + 1, none⟩ = some (.int .i64 hn) ∧ H.cell ⟨b, o + i * 4 + 2, none⟩ = some (.int .i64 ht) ∧
  H.cell ⟨b, o + i * 4 + 3, none⟩ = some (.slice ba bn bc) ∧ IsBytes H ba bn bs ∧ bn ≤ bc

theorem act3_set {H : Heap} {c0 c1 c2 : Int} {c3a : Option Addr} {c3n c3c : Nat} {K : Nat → Heap → Prop}
    (h : ∀ a H', H a = none → Keep Nil H H' → Blk H' a T_law03_Act ⟨[.int .i64 c0, .int .i64 c1, .int .i64 c2, .slice c3a c3n c3c]⟩ → K a H') :
    NewW H (.cells ⟨[.int .i64 0, .int .i64 0, .int .i64 0, .slice none 0 0]⟩ T_law03_Act) fun a H8 =>
      StCell H8 ⟨a, 0, none⟩ (.int .i64 c0) fun H9 => StCell H9 ⟨a, 1, none⟩ (.int .i64 c1) fun H10 => StCell H10 ⟨a, 2, none⟩ (.int .i64 c2) fun H11 =>
      StCell H11 ⟨a, 3, none⟩ (.slice c3a c3n c3c) fun H14 => K a H14 := by
  refine NewW.intro fun a ha => ?_
  refine StCell.blk Blk.upd_eq (by simp) rfl (StCell.blk Blk.upd_eq (by simp) rfl (StCell.blk Blk.upd_eq (by simp) rfl (StCell.blk Blk.upd_eq (by simp) rfl ?_)))
  exact h a _ ha (((((Keep.refl Nil H).upd (.inr ha)).upd (.inr ha)).upd (.inr ha)).upd (.inr ha) |>.upd (.inr ha)) Blk.upd_eq

theorem law03_RingPlays_loop {H H6 : Heap} {x xl y yl b e : Nat} {P0 : PoolM} {M0 : RingM} {a : Option Addr} {n cap : Nat} (ha : IsActs3 H a n) (h6 : Quad H H6 x xl y yl b e P0 P0 M0 M0) (hp : P0.count ≤ 0) (hm : M0.reaped ≤ 0) :
    LoopI (Int × Unit) (0, ()) H6 fun s H8 next => ∀ _g : Env, law03_RingPlays_l11 a n cap (some ⟨b, 0, none⟩) (some ⟨e, 0, none⟩) (some ⟨x, 0, none⟩) (some ⟨y, 0, none⟩) s.1 H8 next fun v H' => v = .bool true ∧ Keep Nil H H' := by
  refine LoopI.intro (fun k s H3 => ∃ (i : Nat) (P : PoolM) (M : RingM), s = ((i : Int), ()) ∧ i ≤ 80 ∧ k = 80 - i ∧ Quad H H3 x xl y yl b e P P M M ∧ P.count ≤ (i : Nat) ∧ M.reaped ≤ i) 80 ⟨0, _, _, rfl, Nat.zero_le _, by omega, h6, hp, hm⟩ ?_
  rintro k s H3 ⟨i, P, M, rfl, hi, rfl, h3, hc, hr⟩ g
  unfold law03_RingPlays_l11
  simp only
  have j1 : ∀ w : Bool, (w = true → i < n ∧ i < 80) → law03_RingPlays_j1 a n cap (some ⟨b, 0, none⟩) (some ⟨e, 0, none⟩) (some ⟨x, 0, none⟩) (some ⟨y, 0, none⟩) i (fun x' H' => ∃ k', k' < 80 - i ∧ ∃ (i : Nat) (P : PoolM) (M : RingM), x' = ((i : Int), ()) ∧ i ≤ 80 ∧ k' = 80 - i ∧ Quad H H' x xl y yl b e P P M M ∧ P.count ≤ (i : Nat) ∧ M.reaped ≤ i) w H3 fun v H' => v = .bool true ∧ Keep Nil H H' := by
    intro w hw
    unfold law03_RingPlays_j1
    cases w with
    | false =>
      rw [IfB_false]
      refine law03_works_spec.mono ?_
      rintro v H' ⟨rfl, k⟩
      exact ⟨_, rfl, rfl, h3.both.keep.trans k⟩
    | true =>
      obtain ⟨hin, hi80⟩ := hw rfl
      rw [IfB_true]
      obtain ⟨q, o, rfl, do_, hn, ht, ba, bn, bc, bs, c0, c1, c2, c3, hbs, hl⟩ := ha i hin
      have ck := h3.both.keep
      refine NilP.intro _ rfl (InB.intro i rfl hin ?_)
      rw [elemAt_none]
      refine ⟨_, cell_keep ck c0, _, cell_keep ck c1, _, cell_keep ck c2, _, _, _, cell_keep ck c3, ?_⟩
      refine act3_set fun w H14 _ k14 hA => ?_
      have h14 := h3.keepN k14
      have hb14 : IsBytes H14 ba bn bs := Reads.keep hbs h14.both.keep fun _ _ h => h
      have hbl := hbs.len
      refine ⟨_, _, _, by rw [hA.cell]; rfl, _, _, _, by rw [hA.cell]; rfl, ?_⟩
      have em : min (bn : Int) 60 = ((min bn 60 : Nat) : Int) := by omega
      rw [em]
      refine InC.intro (min bn 60) rfl (by omega) ⟨_, _, _, by rw [hA.cell]; rfl, ?_⟩
      have nx : ∀ P' M' H', Quad H H' x xl y yl b e P' P' M' M' → P'.count ≤ (i + 1 : Nat) → M'.reaped ≤ i + 1 → (fun x' H' => ∃ k', k' < 80 - i ∧ ∃ (i : Nat) (P : PoolM) (M : RingM), x' = ((i : Int), ()) ∧ i ≤ 80 ∧ k' = 80 - i ∧ Quad H H' x xl y yl b e P P M M ∧ P.count ≤ (i : Nat) ∧ M.reaped ≤ i) (((i + 1 : Nat) : Int), ()) H' :=
        fun P' M' H' h' q1 q2 => ⟨80 - (i + 1), by omega, i + 1, P', M', rfl, by omega, rfl, h', q1, q2⟩
      by_cases hbig : (bn : Int) > 1514
      · rw [decide_eq_true hbig, IfB_true]
        obtain ⟨it, hit, hsz, hby⟩ := row_uint8.info
        refine MakeW.intro (l := 1515) (c := 1515) und_sl_uint8 hit row_uint8.zero (by rw [hsz]; rfl) (Nat.le_refl _) (by omega) (by rw [hby]; omega) fun m hm => ?_
        have km : Keep Nil H14 (H14.upd m (.cells ⟨repL 1515 [.int .u8 0]⟩ T_uint8)) := (Keep.refl _ _).new hm
        have hB : Blk (H14.upd m (.cells ⟨repL 1515 [.int .u8 0]⟩ T_uint8)) m T_uint8 ⟨u8s (List.replicate 1515 0)⟩ := by
          rw [show u8s (List.replicate 1515 0) = repL 1515 [.int .u8 0] by rw [repL_zero]; simp [u8s]]
          exact Blk.upd_eq
        generalize H14.upd m (.cells ⟨repL 1515 [.int .u8 0]⟩ T_uint8) = H15 at *
        refine ⟨_, _, _, rfl, ?_⟩
        refine law03_act (h14.keepN km) hc hr (by omega) (km.blk hA (nil_no _)) (bs := List.replicate 1515 0) ?_ ?_ (by simp) nx
        · refine Reads.blk hB (by simp) fun j hj => ?_
          rw [Nat.zero_add]; simp
        · intro q hq _
          cases hq
          exact .inr ⟨_, hB⟩
      · rw [decide_eq_false hbig, IfB_false]
        refine law03_act h14 hc hr (by omega) hA (bs := bs.take (min bn 60)) ?_ ?_ (by rw [List.length_take]; omega) nx
        · have := Reads.take hb14 (m := min bn 60) (by omega)
          unfold IsBytes
          rw [show u8s (bs.take (min bn 60)) = (u8s bs).take (min bn 60) by simp [u8s, List.map_take]]
          exact this
        · intro q hq hpos
          refine .inl ?_
          subst hq
          obtain ⟨_, c, T, fr, h2, _⟩ := hbs.2 (show 0 < bn by omega)
          rw [h2]; simp
  by_cases hlt : i < n
  · rw [decide_eq_true (by omega), IfB_true]
    exact j1 _ fun hd => ⟨hlt, by have := of_decide_eq_true hd; omega⟩
  · rw [decide_eq_false (by omega), IfB_false]
    exact j1 _ fun hd => by cases hd

theorem law03_RingPlays_spec {H : Heap} (n0 size : Int) {a : Option Addr} {n cap : Nat} (ha : IsActs3 H a n) :
    FnW Try.prog f_law03_RingPlays ⟨[.int .i64 n0, .int .i64 size, .slice a n cap]⟩ H fun v H' => v = .bool true ∧ Keep Nil H H' := by
  refine law03_RingPlays_sh n0 size a n cap ?_
  unfold law03_RingPlays_p
  have ne : ∀ z : Int, (z != z) = false := fun z => by simp
  refine (base_Among_spec size (n := 10) (by omega) (by omega)).mono ?_
  rintro v _ ⟨rfl, rfl⟩
  refine ⟨_, rfl, ?_⟩
  have hlt8 := amongV_lt size (n := 10) (by omega)
  obtain ⟨m, hm⟩ : ∃ m : Nat, m = amongV size 10 + 1 := ⟨_, rfl⟩
  have hw : IntKind.wrap .i64 (1 + ((amongV size 10 : Nat) : Int)) = (m : Int) := by rw [wrap_id (by omega) (by omega)]; omega
  rw [hw]
  have hm1 : 1 ≤ m := by omega
  have hm2 : m ≤ 256 := by omega
  clear hm hlt8 hw
  by_cases hr : n0 < 1 ∨ 64 < n0
  · refine (ring_Make_no hr).mono ?_
    rintro v _ ⟨rfl, rfl⟩
    refine ⟨_, _, rfl, (ref3_Make_no hr).mono ?_⟩
    rintro v _ ⟨rfl, rfl⟩
    refine ⟨_, _, rfl, ?_⟩
    refine (pool_Make_spec hm1 hm2).mono ?_
    rintro v H4 ⟨k4, x, xl, c, d, f, _, _, rfl, _⟩
    refine ⟨_, _, rfl, (ref_Make_spec hm1 hm2).mono ?_⟩
    rintro v H5 ⟨k5, y, yl, fa, fc, ee, rfl, _⟩
    refine ⟨_, _, rfl, ?_⟩
    rw [ne, IfB_false, show (!((none : Option Addr).isNone == (none : Option Addr).isNone)) = false from rfl, IfB_false, show (some (⟨x, 0, none⟩ : Addr)).isNone = false from rfl]
    unfold law03_RingPlays_j0
    rw [IfB_false, show (none : Option Addr).isNone = true from rfl, IfB_true]
    refine law03_works_spec.mono ?_
    rintro v H' ⟨rfl, k⟩
    exact ⟨_, rfl, rfl, (k4.trans k5).trans k⟩
  · have hn : n0 = (n0.toNat : Int) := by omega
    have h1 : 1 ≤ n0.toNat := by omega
    have h2 : n0.toNat ≤ 64 := by omega
    rw [hn]
    generalize n0.toNat = t at *
    clear hr hn n0
    refine (ring_Make_spec h1 h2).mono ?_
    rintro v H2 ⟨k2, b, cr, hb0, rfl, hR⟩
    refine ⟨_, _, rfl, (ref3_Make_spec h1 h2).mono ?_⟩
    rintro v H3 ⟨k3, e, rfl, hQ⟩
    refine ⟨_, _, rfl, ?_⟩
    refine (pool_Make_spec hm1 hm2).mono ?_
    rintro v H4 ⟨k4, x, xl, c, d, f, hx0, hxl0, rfl, hX⟩
    refine ⟨_, _, rfl, (ref_Make_spec hm1 hm2).mono ?_⟩
    rintro v H5 ⟨k5, y, yl, fa, fc, ee, rfl, hY⟩
    refine ⟨_, _, rfl, ?_⟩
    rw [ne, IfB_false, show (!((some (⟨b, 0, none⟩ : Addr)).isNone == (some (⟨e, 0, none⟩ : Addr)).isNone)) = false from rfl, IfB_false, show (some (⟨x, 0, none⟩ : Addr)).isNone = false from rfl]
    unfold law03_RingPlays_j0
    rw [IfB_false, show (some (⟨e, 0, none⟩ : Addr)).isNone = false from rfl, IfB_false]
    have k23 := k2.trans k3
    have k24 := k23.trans k4
    have hQ' : QAt H H5 e (RingM.make t) none 0 none 0 := by
      have h5 := (hQ.keepN k4).keepN k5
      exact { h5 with newP := k2.free h5.newP, posted := Own.nil, done := Own.nil }
    exact law03_RingPlays_loop ha ⟨⟨k24.trans k5, k23.free hx0, k23.free hxl0, ⟨c, d, f, hX.keep k5 (nil_no _) (nil_no _)⟩, fa, fc, ee, hY.mono k24⟩, hb0, ⟨cr, ((hR.keep k3 (nil_no _)).keep k4 (nil_no _)).keep k5 (nil_no _)⟩, none, 0, none, 0, hQ'⟩ (Int.le_refl _) (Nat.le_refl _)

end Go.Proofs.Ytligjponbhnedaa
