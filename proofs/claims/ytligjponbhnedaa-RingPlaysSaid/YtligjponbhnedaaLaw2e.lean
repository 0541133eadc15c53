/-
  PoolOnce: a buffer that was given back is given back once; none is lost.
-/
import Derived.Test.YtligjponbhnedaaLaw2d
set_option maxRecDepth 100000
namespace Go.Proofs.Ytligjponbhnedaa
open Go.Sh

/-- A list without doubles is no longer than one that has all of it. -/
theorem nodup_le : ∀ (l l' : List Int), l.Nodup → (∀ x ∈ l, x ∈ l') → l.length ≤ l'.length
  | [], _, _, _ => Nat.zero_le _
  | x :: xs, l', hn, h => by
    have hx := List.nodup_cons.1 hn
    have hm := h x (by simp)
    have ih := nodup_le xs (l'.erase x) hx.2 fun z hz => by
      have hne : z ≠ x := fun e => hx.1 (e ▸ hz)
      exact (List.mem_erase_of_ne hne).2 (h z (by simp [hz]))
    rw [List.length_erase_of_mem hm] at ih
    have : 0 < l'.length := List.length_pos_of_mem hm
    simp only [List.length_cons]; omega

theorem filter_split (f : Nat → Bool) : ∀ n : Nat, ((List.range n).filter f).length + ((List.range n).filter fun k => !f k).length = n
  | 0 => rfl
  | n + 1 => by
    have ih := filter_split f n
    rw [List.range_succ, List.filter_append, List.filter_append, List.length_append, List.length_append]
    cases h : f n <;> simp [h] <;> omega

theorem map_nodup : ∀ (l : List Nat), l.Nodup → (l.map fun k : Nat => (k : Int)).Nodup
  | [], _ => by simp
  | x :: xs, h => by
    have hx := List.nodup_cons.1 h
    rw [List.map_cons, List.nodup_cons]
    refine ⟨fun hm => ?_, map_nodup xs hx.2⟩
    obtain ⟨y, hy, e⟩ := List.mem_map.1 hm
    have : y = x := by omega
    exact hx.1 (this ▸ hy)

namespace PoolM
theorem Inv.tk_nonneg {M : PoolM} (h : M.Inv) {k : Nat} (hk : k < M.bufs.length) : 0 ≤ M.tk k := (h.tickets _ _ (tk_get hk)).1

/-- What is free and what is lent: together all. -/
theorem Inv.all {M : PoolM} (h : M.Inv) : M.free.length + M.lent.length = M.bufs.length := by
  have h1 := filter_split (fun k => decide (M.tk k > 0)) M.bufs.length
  have h2 : M.lent.length = ((List.range M.bufs.length).filter fun k : Nat => decide (M.tk k > 0)).length := by unfold lent lentTo; rw [List.length_map]
  have h3 : M.free.length ≤ (((List.range M.bufs.length).filter fun k => !decide (M.tk k > 0)).map fun k : Nat => (k : Int)).length := by
    refine nodup_le _ _ h.nodup fun z hz => ?_
    obtain ⟨a1, a2, a3⟩ := h.freeIn z hz
    refine List.mem_map.2 ⟨z.toNat, ?_, by omega⟩
    rw [List.mem_filter]
    refine ⟨by rw [List.mem_range]; omega, ?_⟩
    rw [a3]; rfl
  have h4 : (((List.range M.bufs.length).filter fun k => !decide (M.tk k > 0)).map fun k : Nat => (k : Int)).length ≤ M.free.length := by
    refine nodup_le _ _ (map_nodup _ (List.nodup_range.sublist List.filter_sublist)) fun z hz => ?_
    obtain ⟨k, hk, rfl⟩ := List.mem_map.1 hz
    rw [List.mem_filter, List.mem_range] at hk
    have := h.tk_nonneg hk.1
    have h5 : ¬ M.tk k > 0 := by
      have := hk.2
      simpa using this
    exact h.inFree k hk.1 (by omega)
  rw [List.length_map] at h3 h4
  omega

/-- A handle whose lending is over. -/
def Gone (M : PoolM) (p : Int × Int) : Prop := 0 ≤ p.1 ∧ p.1.toNat < M.bufs.length ∧ 1 ≤ p.2 ∧ p.2 ≤ M.count ∧ M.tk p.1.toNat ≠ p.2
theorem Gone.findE {M : PoolM} {p : Int × Int} (h : M.Gone p) : M.findE p.1 p.2 = 5 := by
  obtain ⟨h1, h2, h3, h4, h5⟩ := h
  unfold PoolM.findE
  rw [if_neg (by omega), if_pos (.inr h5)]
theorem Gone.give {M : PoolM} {p : Int × Int} (h : M.Gone p) : M.give p.1 p.2 = (5, M) := by
  unfold PoolM.give
  rw [h.findE, if_neg (by decide)]
theorem Gone.read {M : PoolM} {p : Int × Int} (h : M.Gone p) : (M.read p.1 p.2).2 = 5 := by
  unfold PoolM.read
  rw [h.findE, if_neg (by decide)]

theorem give_fail {M : PoolM} {n t : Int} (h : (M.give n t).1 ≠ 0) : (M.give n t).2 = M := by
  unfold PoolM.give at h ⊢
  by_cases h0 : M.findE n t = 0
  · rw [if_pos h0] at h; exact absurd rfl h
  · rw [if_neg h0]
theorem give_ok {M : PoolM} (hi : M.Inv) {n t : Int} (h : (M.give n t).1 = 0) : (M.give n t).2.bufs.length = M.bufs.length ∧ (M.give n t).2.Gone (n, t) ∧ ∀ p, M.Gone p → (M.give n t).2.Gone p := by
  unfold PoolM.give at h ⊢
  by_cases h0 : M.findE n t = 0
  · rw [if_pos h0] at h ⊢
    obtain ⟨a1, a2, a3, a4⟩ := findE_zero h0
    have ht := hi.tickets _ _ (tk_get a2)
    simp only at ht
    refine ⟨by simp, ⟨a1, by simpa using a2, a3, by simp only; omega, ?_⟩, ?_⟩
    · rw [tk_set a2, if_pos rfl]; simp only; omega
    · rintro ⟨n', t'⟩ ⟨b1, b2, b3, b4, b5⟩
      refine ⟨b1, by simpa using b2, b3, b4, ?_⟩
      rw [tk_set a2]
      split
      · simp only at b3 ⊢; omega
      · exact b5
  · rw [if_neg h0] at h
    exact absurd h h0
theorem lend_gone {M : PoolM} (hi : M.Inv) (bs : List UInt8) : (M.lend bs).2.2.bufs.length = M.bufs.length ∧ ∀ p, M.Gone p → (M.lend bs).2.2.Gone p := by
  unfold PoolM.lend
  split
  · exact ⟨rfl, fun _ h => h⟩
  · split
    · exact ⟨rfl, fun _ h => h⟩
    · rename_i k fr hf
      have hk := hi.freeIn k (by rw [hf]; simp)
      have hkl : k.toNat < M.bufs.length := by omega
      refine ⟨by simp, ?_⟩
      rintro ⟨n', t'⟩ ⟨b1, b2, b3, b4, b5⟩
      refine ⟨b1, by simpa using b2, b3, by simp only at b4 ⊢; omega, ?_⟩
      rw [tk_set hkl]
      split
      · simp only at b4 ⊢; omega
      · exact b5
end PoolM

/-- What holds between two acts. -/
structure Once (H0 H : Heap) (x xl y yl m i : Nat) (M : PoolM) (oa : Option Addr) (oc : Nat) (L : List (Int × Int)) : Prop where
  both : Both H0 H x xl y yl M M
  len : M.bufs.length = m
  cnt : M.count ≤ i
  few : L.length ≤ i
  own : Own H0 H oa L.length oc 2 T_pool_Handle (prs L)
  gone : ∀ p ∈ L, M.Gone p

theorem Once.keepN {H0 H H' : Heap} {x xl y yl m i : Nat} {M : PoolM} {oa : Option Addr} {oc : Nat} {L : List (Int × Int)} (h : Once H0 H x xl y yl m i M oa oc L) (k : Keep Nil H H') : Once H0 H' x xl y yl m i M oa oc L :=
  { h with both := h.both.keepN k, own := h.own.keep k fun _ _ h => h }

theorem handle_noP : ¬ PT T_pool_Handle := by decide
theorem own_pset {H0 H H' : Heap} {a : Option Addr} {n cap : Nat} {xs : List Value} (h : Own H0 H a n cap 2 T_pool_Handle xs) (k : Keep (pset H) H H') : Own H0 H' a n cap 2 T_pool_Handle xs :=
  h.keep k fun b hb => by
    obtain ⟨c, hc⟩ := h.live hb
    exact Blk.noP hc handle_noP

theorem law02_PoolOnce_tail {H0 H : Heap} {x xl y yl m i : Nat} {M : PoolM} {oa : Option Addr} {oc : Nat} {L : List (Int × Int)} {x19 : Int} {a : Option Addr} {n cap : Nat} {R : Value → Heap → Prop} {next8 : ((Option Addr × Nat × Nat) × Int × Unit) → Heap → Prop}
    (hw : IntKind.wrap .i64 (1 + x19) = m) (hi : i < 1000) (h : Once H0 H x xl y yl m (i + 1) M oa oc L)
    (hnext : ∀ H', Once H0 H' x xl y yl m (i + 1) M oa oc L → next8 ((oa, L.length, oc), ((i + 1 : Nat) : Int), ()) H') :
    law02_PoolOnce_j2 x19 a n cap (some ⟨x, 0, none⟩) (some ⟨y, 0, none⟩) i next8 oa L.length oc H R := by
  unfold law02_PoolOnce_j2 law02_PoolOnce_j3
  have hfew := h.few
  refine LoopI.intro (fun k s H3 => ∃ j : Nat, s = ((j : Int), ()) ∧ j ≤ L.length ∧ k = L.length - j ∧ Once H0 H3 x xl y yl m (i + 1) M oa oc L) L.length ⟨0, rfl, Nat.zero_le _, by omega, h⟩ ?_
  rintro k s H3 ⟨j, rfl, hj, rfl, h3⟩ g
  unfold law02_PoolOnce_l19
  simp only
  by_cases hlt : j < L.length
  · rw [decide_eq_true (by omega), IfB_true]
    obtain ⟨q, e1, c0, c1⟩ := own_prs h3.own rfl hlt
    have hg := h3.gone _ (List.getElem_mem hlt)
    subst e1
    refine NilP.intro _ rfl (InB.intro j rfl hlt ?_)
    rw [elemAt_none]
    refine ⟨_, c0, _, c1, ?_⟩
    refine (both_xRead h3.both _ _).mono ?_
    rintro v H4 ⟨k4, p, pm, pc, rfl, _⟩
    refine ⟨_, _, _, _, rfl, ?_⟩
    rw [hg.read, show ((5 : Int) != 5) = false from rfl, IfB_false]
    have h4 := h3.keepN k4
    refine NilP.intro _ rfl (InB.intro j rfl hlt ?_)
    rw [elemAt_none]
    refine ⟨_, cell_keep k4 c0, _, cell_keep k4 c1, ?_⟩
    refine (both_xGive h4.both _ _).mono ?_
    rintro v H5 ⟨rfl, k5, h5⟩
    refine ⟨_, rfl, ?_⟩
    rw [hg.give] at h5 ⊢
    unfold law02_PoolOnce_j4
    rw [show ((5 : Int) != 5) = false from rfl, IfB_false]
    exact ⟨L.length - (j + 1), by omega, j + 1, by rw [wrap_id (by omega) (by omega)]; simp, by omega, rfl, { h4 with both := h5, own := own_pset h4.own k5 }⟩
  · rw [decide_eq_false (by omega), IfB_false]
    obtain ⟨c, d, f, hx⟩ := h3.both.atX
    refine (pool_Free_spec hx).mono ?_
    rintro v _ ⟨rfl, rfl⟩
    refine ⟨_, rfl, (pool_Lent_spec hx).mono ?_⟩
    rintro v H4 ⟨k4, l, lc, rfl, _⟩
    refine ⟨_, _, _, rfl, ?_⟩
    have hall := hx.inv.all
    have hle := hx.inv.le
    have hlen := h3.len
    rw [hw, wrap_id (by omega) (by omega)]
    have e1 : (((M.free.length : Int) + (M.lent.length : Int)) != (m : Int)) = false := by
      have : ((M.free.length : Int) + (M.lent.length : Int)) = (m : Int) := by omega
      rw [this]; simp
    rw [e1, IfB_false]
    refine (pool_Size_spec (hx.keep k4 (nil_no _) (nil_no _))).mono ?_
    rintro v _ ⟨rfl, rfl⟩
    refine ⟨_, rfl, ?_⟩
    unfold law02_PoolOnce_j5
    rw [hlen, show (((m : Nat) : Int) != (m : Int)) = false by simp, IfB_false]
    have e2 : IntKind.wrap .i64 ((i : Int) + 1) = ((i + 1 : Nat) : Int) := by rw [wrap_id (by omega) (by omega)]; simp
    rw [e2]
    exact hnext _ (h3.keepN k4)

/-- An act, copied into a variable of its own. -/
theorem act_set {H : Heap} {c0 c1 c3 c4 : Int} {c2 : Bool} {c5a : Option Addr} {c5n c5c : Nat} {K : Nat → Heap → Prop}
    (h : ∀ a H', H a = none → Keep Nil H H' → Blk H' a T_law02_Act ⟨[.int .i64 c0, .int .i64 c1, .bool c2, .int .i64 c3, .int .i64 c4, .slice c5a c5n c5c]⟩ → K a H') :
    NewW H (.cells ⟨[.int .i64 0, .int .i64 0, .bool false, .int .i64 0, .int .i64 0, .slice none 0 0]⟩ T_law02_Act) fun a H8 =>
      StCell H8 ⟨a, 0, none⟩ (.int .i64 c0) fun H9 => StCell H9 ⟨a, 1, none⟩ (.int .i64 c1) fun H10 => StCell H10 ⟨a, 2, none⟩ (.bool c2) fun H11 =>
      StCell H11 ⟨a, 3, none⟩ (.int .i64 c3) fun H12 => StCell H12 ⟨a, 4, none⟩ (.int .i64 c4) fun H13 => StCell H13 ⟨a, 5, none⟩ (.slice c5a c5n c5c) fun H14 => K a H14 := by
  refine NewW.intro fun a ha => ?_
  refine StCell.blk Blk.upd_eq (by simp) rfl (StCell.blk Blk.upd_eq (by simp) rfl (StCell.blk Blk.upd_eq (by simp) rfl (StCell.blk Blk.upd_eq (by simp) rfl (StCell.blk Blk.upd_eq (by simp) rfl (StCell.blk Blk.upd_eq (by simp) rfl ?_)))))
  exact h a _ ha (((((((Keep.refl Nil H).upd (.inr ha)).upd (.inr ha)).upd (.inr ha)).upd (.inr ha)).upd (.inr ha)).upd (.inr ha) |>.upd (.inr ha)) Blk.upd_eq

theorem law02_PoolOnce_spec {H : Heap} (n0 : Int) {a : Option Addr} {n cap : Nat} (ha : IsActs H a n) :
    FnW Try.prog f_law02_PoolOnce ⟨[.int .i64 n0, .slice a n cap]⟩ H fun v H' => v = .bool true ∧ Keep Nil H H' := by
  refine law02_PoolOnce_sh n0 a n cap ?_
  unfold law02_PoolOnce_p
  refine law02_works_spec.mono ?_
  rintro v H1 ⟨rfl, k1⟩
  refine ⟨_, rfl, ?_⟩
  rw [Bool.not_true, IfB_false]
  refine (base_Among_spec n0 (n := 8) (by omega) (by omega)).mono ?_
  rintro v _ ⟨rfl, rfl⟩
  refine ⟨_, rfl, ?_⟩
  have hlt8 := amongV_lt n0 (n := 8) (by omega)
  obtain ⟨m, hm⟩ : ∃ m : Nat, m = amongV n0 8 + 1 := ⟨_, rfl⟩
  have hw : IntKind.wrap .i64 (1 + ((amongV n0 8 : Nat) : Int)) = (m : Int) := by rw [wrap_id (by omega) (by omega)]; omega
  generalize ((amongV n0 8 : Nat) : Int) = x19 at *
  rw [hw]
  have hm1 : 1 ≤ m := by omega
  have hm2 : m ≤ 8 := by omega
  clear hm hlt8
  refine (make_both hm1 (by omega) k1 (K := fun p q H' => NewW H' (Obj.cells ⟨[]⟩ T_pool_Handle) fun x31b H5 =>
    LoopI ((Option Addr × Nat × Nat) × Int × Unit) (((some ⟨x31b, 0, none⟩), 0, 0), (0, ())) H5 fun x H6 next => ∀ _g : Env, law02_PoolOnce_l8 x19 a n cap p q x.1.1 x.1.2.1 x.1.2.2 x.2.1 H6 next fun v H' => v = .bool true ∧ Keep Nil H H') fun x xl y yl H4 h4 => ?_).mono ?_
  · refine NewW.intro fun o ho => ?_
    have ko : Keep Nil H4 (H4.upd o (.cells ⟨[]⟩ T_pool_Handle)) := (Keep.refl _ _).new ho
    have hob : Blk (H4.upd o (.cells ⟨[]⟩ T_pool_Handle)) o T_pool_Handle ⟨[]⟩ := Blk.upd_eq
    generalize H4.upd o (.cells ⟨[]⟩ T_pool_Handle) = H5 at *
    refine LoopI.intro (fun k s H3 => ∃ (i : Nat) (M : PoolM) (oa : Option Addr) (oc : Nat) (L : List (Int × Int)), s = ((oa, L.length, oc), ((i : Int), ())) ∧ i ≤ 40 ∧ k = 40 - i ∧ Once H H3 x xl y yl m i M oa oc L) 40
      ⟨0, _, _, _, [], rfl, Nat.zero_le _, by omega, ⟨h4.keepN ko, by simp [PoolM.make], Int.le_refl _, Nat.le_refl _, Own.start (h4.keep.free ho) hob, by simp⟩⟩ ?_
    rintro k s H6 ⟨i, M, oa, oc, L, rfl, hi, rfl, h6⟩ g
    unfold law02_PoolOnce_l8
    simp only
    have j0 : ∀ b : Bool, (b = true → i < n ∧ i < 40) → law02_PoolOnce_j0 x19 a n cap (some ⟨x, 0, none⟩) (some ⟨y, 0, none⟩) oa L.length oc i (fun x' H' => ∃ k', k' < 40 - i ∧ ∃ (i : Nat) (M : PoolM) (oa : Option Addr) (oc : Nat) (L : List (Int × Int)), x' = ((oa, L.length, oc), ((i : Int), ())) ∧ i ≤ 40 ∧ k' = 40 - i ∧ Once H H' x xl y yl m i M oa oc L) b H6 fun v H' => v = .bool true ∧ Keep Nil H H' := by
      intro b hb
      unfold law02_PoolOnce_j0
      cases b with
      | false => rw [IfB_false]; exact ⟨rfl, h6.both.keep⟩
      | true =>
        obtain ⟨hin, hi40⟩ := hb rfl
        rw [IfB_true]
        obtain ⟨q, o, rfl, do_, by_, raw, hn, ht, ba, bn, bc, bs, c0, c1, c2, c3, c4, c5, hbs, hl⟩ := (ha.keep h6.both.keep) i hin
        refine NilP.intro _ rfl (InB.intro i rfl hin ?_)
        rw [elemAt_none]
        refine ⟨_, c0, _, c1, _, c2, _, c3, _, c4, _, _, _, c5, ?_⟩
        refine act_set fun w H14 hw0 k14 hA => ?_
        refine ⟨_, by rw [hA.cell]; rfl, _, by rw [hA.cell]; rfl, _, by rw [hA.cell]; rfl, _, by rw [hA.cell]; rfl, _, by rw [hA.cell]; rfl, _, _, _, by rw [hA.cell]; rfl, ?_⟩
        have h14 := h6.keepN k14
        refine (law02_handle_spec h14.both do_ by_ raw hn ht ba bn bc).mono ?_
        rintro v H15 ⟨rfl, k15⟩
        generalize handleV M raw by_ hn ht = hd
        obtain ⟨gn, gt⟩ := hd
        refine ⟨_, _, rfl, ?_⟩
        simp only
        refine new_pair fun h12 H18 _ k18 _ hP => ?_
        have hA18 := (k15.trans k18).blk hA (nil_no _)
        have h18 := h14.keepN (k15.trans k18)
        refine ⟨do_, by rw [hA18.cell]; rfl, ?_⟩
        refine (base_Among_spec do_ (n := 5) (by omega) (by omega)).mono ?_
        rintro v _ ⟨rfl, rfl⟩
        refine ⟨_, rfl, ?_⟩
        have hcnt := h18.cnt
        have up : Once H H18 x xl y yl m (i + 1) M oa oc L := { h18 with cnt := by simp only [Int.natCast_add]; omega, few := by have := h18.few; omega }
        have nx : ∀ {M' oa' oc'} {L' : List (Int × Int)}, ∀ H', Once H H' x xl y yl m (i + 1) M' oa' oc' L' → (fun x' H' => ∃ k', k' < 40 - i ∧ ∃ (i : Nat) (M : PoolM) (oa : Option Addr) (oc : Nat) (L : List (Int × Int)), x' = ((oa, L.length, oc), ((i : Int), ())) ∧ i ≤ 40 ∧ k' = 40 - i ∧ Once H H' x xl y yl m i M oa oc L) ((oa', L'.length, oc'), ((i + 1 : Nat) : Int), ()) H' :=
          fun H' h' => ⟨40 - (i + 1), by omega, i + 1, _, _, _, _, rfl, by omega, rfl, h'⟩
        have act_noP : ¬ PT T_law02_Act := by decide
        -- no handle was given back
        have no : ∀ H21, Once H H21 x xl y yl m (i + 1) M oa oc L → M.count ≤ i → Blk H21 w T_law02_Act ⟨[.int .i64 do_, .int .i64 by_, .bool raw, .int .i64 hn, .int .i64 ht, .slice ba bn bc]⟩ →
            law02_PoolOnce_j1 x19 (some ⟨q, o, none⟩) n cap (some ⟨x, 0, none⟩) (some ⟨y, 0, none⟩) oa L.length oc i w h12 (fun x' H' => ∃ k', k' < 40 - i ∧ ∃ (i : Nat) (M : PoolM) (oa : Option Addr) (oc : Nat) (L : List (Int × Int)), x' = ((oa, L.length, oc), ((i : Int), ())) ∧ i ≤ 40 ∧ k' = 40 - i ∧ Once H H' x xl y yl m i M oa oc L) false H21 fun v H' => v = .bool true ∧ Keep Nil H H' := by
          intro H21 h21 hc hA21
          unfold law02_PoolOnce_j1
          rw [IfB_false]
          refine ⟨do_, by rw [hA21.cell]; rfl, ?_⟩
          refine (base_Among_spec do_ (n := 5) (by omega) (by omega)).mono ?_
          rintro v _ ⟨rfl, rfl⟩
          refine ⟨_, rfl, ?_⟩
          by_cases w2 : ((amongV do_ 5 : Nat) : Int) < 2
          · rw [decide_eq_true w2, IfB_true]
            refine (both_xLend h21.both (bs := []) Reads.nil U8.nil (by omega)).mono ?_
            rintro v H36 ⟨rfl, k36, h36⟩
            refine ⟨_, _, _, rfl, ?_⟩
            refine (both_yLend h36 (bs := []) Reads.nil (fun _ h => by cases h) (by omega)).mono ?_
            rintro v H37 ⟨rfl, k37, h37⟩
            refine ⟨_, _, _, rfl, ?_⟩
            obtain ⟨_, _, _, hx⟩ := h21.both.atX
            obtain ⟨l1, l2⟩ := PoolM.lend_gone hx.inv []
            have hcl := count_lend M []
            refine law02_PoolOnce_tail hw (by omega) (M := (M.lend []).2.2) ⟨h37, by rw [l1]; exact h21.len, by simp only [Int.natCast_add]; omega, h21.few, own_pset (own_pset h21.own k36) k37, fun p hp => l2 p (h21.gone p hp)⟩ fun H' h' => nx H' h'
          · rw [decide_eq_false w2, IfB_false]
            exact law02_PoolOnce_tail hw (by omega) h21 fun H' h' => nx H' h'
        by_cases w4 : ((amongV do_ 5 : Nat) : Int) = 4
        · rw [w4, show ((4 : Int) == 4) = true from rfl, IfB_true]
          refine ⟨_, by rw [hP.cell]; rfl, _, by rw [hP.cell]; rfl, ?_⟩
          refine (both_xGive h18.both gn gt).mono ?_
          rintro v H20 ⟨rfl, k20, h20⟩
          refine ⟨_, rfl, ?_⟩
          have hA20 := k20.blk hA18 (Blk.noP hA18 act_noP)
          have hP20 := k20.blk hP (Blk.noP hP handle_noP)
          by_cases e0 : (M.give gn gt).1 = 0
          · rw [e0, show ((0 : Int) == 0) = true from rfl]
            obtain ⟨_, _, _, hx⟩ := h18.both.atX
            obtain ⟨l1, l2, l3⟩ := PoolM.give_ok hx.inv e0
            unfold law02_PoolOnce_j1
            rw [IfB_true]
            refine ⟨gn, by rw [hP20.cell]; rfl, gt, by rw [hP20.cell]; rfl, ?_⟩
            refine (both_yGive h20 gn gt).mono ?_
            rintro v H22 ⟨rfl, k22, h22⟩
            have hP22 := k22.blk hP20 (Blk.noP hP20 handle_noP)
            refine ⟨_, rfl, gn, by rw [hP22.cell]; rfl, gt, by rw [hP22.cell]; rfl, ?_⟩
            have hown := own_pset (own_pset h18.own k20) k22
            have hfew := h18.few
            refine own_push und_sl_Handle row_Handle (by omega) (by omega) hown h22.keep rfl (by simp [plainC]) (by omega) fun _ a' cap' H24 ho' k24 k24' => ?_
            refine ⟨_, _, _, rfl, ?_⟩
            have hbk : Both H H24 x xl y yl (M.give gn gt).2 (M.give gn gt).2 := by
              obtain ⟨c, d, f, hx'⟩ := h22.atX
              obtain ⟨fa, fc, e, hy'⟩ := h22.atY
              have nf : ∀ z T c, T ≠ T_pool_Handle → Blk H22 z T c → ¬ oa = some ⟨z, 0, none⟩ := fun z T c hT hz e => by
                obtain ⟨c', hc⟩ := hown.live e
                exact hT (Blk.type hz hc)
              refine ⟨k24', h22.newX, h22.newL, ⟨c, d, f, hx'.keep k24 (nf _ _ _ (by decide) hx'.blkP) (nf _ _ _ (by decide) hx'.blkB)⟩, fa, fc, e, hy'.keep k24 fun z T c hT hz => nf z T c ?_ hz⟩
              rcases hT with rfl | rfl | rfl | rfl <;> decide
            have hll : L.length + 1 = (L ++ [(gn, gt)]).length := by simp
            rw [hll]
            refine law02_PoolOnce_tail hw (by omega) (M := (M.give gn gt).2) (L := L ++ [(gn, gt)]) ⟨hbk, by rw [l1]; exact h18.len, by rw [count_give]; simp only [Int.natCast_add]; omega, by simp only [List.length_append, List.length_cons, List.length_nil]; omega, by rw [← hll, prs_append]; simpa [prs] using ho', fun p hp => ?_⟩ fun H' h' => nx H' h'
            rcases List.mem_append.1 hp with hp | hp
            · exact l3 p (h18.gone p hp)
            · simp only [List.mem_cons, List.not_mem_nil, or_false] at hp
              rw [hp]; exact l2
          · have e1 : ((M.give gn gt).1 == 0) = false := by simpa using e0
            rw [e1]
            rw [PoolM.give_fail e0] at h20
            exact no H20 { up with both := h20, own := own_pset up.own k20 } (by omega) hA20
        · have e4 : (((amongV do_ 5 : Nat) : Int) == 4) = false := by simpa using w4
          rw [e4, IfB_false]
          exact no H18 up (by omega) hA18
    by_cases hlt : i < n
    · rw [decide_eq_true (by omega), IfB_true]
      exact j0 _ fun hd => ⟨hlt, by have := of_decide_eq_true hd; omega⟩
    · rw [decide_eq_false (by omega), IfB_false]
      exact j0 _ fun hd => by cases hd
  · rintro v H2 ⟨p, e, rfl, hf⟩
    refine ⟨_, _, rfl, hf.mono ?_⟩
    rintro v H3 ⟨q, e', rfl, _, hK⟩
    exact ⟨_, _, rfl, hK⟩

end Go.Proofs.Ytligjponbhnedaa
