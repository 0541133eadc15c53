/-
  RingPlays: one act upon both sides.
-/
import Derived.Test.YtligjponbhnedaaLaw3d
set_option maxRecDepth 100000
namespace Go.Proofs.Ytligjponbhnedaa
open Go.Sh

theorem post_reaped (M : RingM) (p : Int × Int) : (M.post p).2.reaped = M.reaped := by
  unfold RingM.post
  split <;> rfl
theorem reap_reaped (M : RingM) : M.reap.2.2.reaped ≤ M.reaped + 1 := by
  unfold RingM.reap
  split
  · simp only; omega
  · simp only; omega

theorem quad_xPost {H0 H : Heap} {x xl y yl b e : Nat} {P Q : PoolM} {M N : RingM} (h : Quad H0 H x xl y yl b e P Q M N) (n t : Int) :
    FnW Try.prog f_ring_Ring_Post ⟨[.pointer (some ⟨b, 0, none⟩), .agg ⟨[.int .i64 n, .int .i64 t]⟩]⟩ H fun v H' => v = .int .i64 (M.post (n, t)).1 ∧ Keep (qset H) H H' ∧ Quad H0 H' x xl y yl b e P Q (M.post (n, t)).2 N := by
  obtain ⟨c, hr⟩ := h.atR
  refine (ring_Post_spec hr n t).mono ?_
  rintro v H' ⟨rfl, k, hr'⟩
  exact ⟨rfl, h.stepR k hr'⟩
theorem quad_yPost {H0 H : Heap} {x xl y yl b e : Nat} {P Q : PoolM} {M N : RingM} (h : Quad H0 H x xl y yl b e P Q M N) (hc : N.reaped < 2 ^ 60) (n t : Int) :
    FnW Try.prog f_ref03_Ring_Post ⟨[.pointer (some ⟨e, 0, none⟩), .agg ⟨[.int .i64 n, .int .i64 t]⟩]⟩ H fun v H' => v = .int .i64 (N.post (n, t)).1 ∧ Keep (qset H) H H' ∧ Quad H0 H' x xl y yl b e P Q M (N.post (n, t)).2 := by
  obtain ⟨pa, pc, da, dc, hq⟩ := h.atQ
  refine (ref3_Post_spec h.both.keep hq hc n t).mono ?_
  rintro v H' ⟨rfl, k, hq'⟩
  exact ⟨rfl, h.stepQ k hq'⟩

theorem law03_act {H0 H : Heap} {x xl y yl b e : Nat} {P : PoolM} {M : RingM} {aa : Option Addr} {an ac i w : Nat} {R : Value → Heap → Prop} {next : (Int × Unit) → Heap → Prop} (h : Quad H0 H x xl y yl b e P P M M) (hP : P.count ≤ i) (hM : M.reaped ≤ i) (hi : i < 1000)
    {do_ hn ht : Int} {sa : Option Addr} {sn sc : Nat} (hA : Blk H w T_law03_Act ⟨[.int .i64 do_, .int .i64 hn, .int .i64 ht, .slice sa sn sc]⟩) {ba : Option Addr} {bn bc : Nat} {bs : List UInt8} (hb : IsBytes H ba bn bs) (hs : Safe H0 H ba bn) (hl : bs.length ≤ 1515)
    (hnx : ∀ P' M' H', Quad H0 H' x xl y yl b e P' P' M' M' → P'.count ≤ (i + 1 : Nat) → M'.reaped ≤ i + 1 → next (((i + 1 : Nat) : Int), ()) H') :
    law03_RingPlays_j2 aa an ac (some ⟨b, 0, none⟩) (some ⟨e, 0, none⟩) (some ⟨x, 0, none⟩) (some ⟨y, 0, none⟩) i w next ba bn bc H R := by
  unfold law03_RingPlays_j2
  have hbl := hb.len
  have hr60 : M.reaped < 2 ^ 60 := by omega
  refine ⟨do_, by rw [hA.cell]; rfl, ?_⟩
  refine (base_Among_spec do_ (n := 8) (by omega) (by omega)).mono ?_
  rintro v _ ⟨rfl, rfl⟩
  refine ⟨_, rfl, ?_⟩
  generalize ((amongV do_ 8 : Nat) : Int) = z
  have beq : ∀ z : Int, (z == z) = true := fun z => by simp
  have tl : ∀ P' M' H', Quad H0 H' x xl y yl b e P' P' M' M' → P'.count ≤ (i + 1 : Nat) → M'.reaped ≤ i + 1 → law03_RingPlays_j4 aa an ac (some ⟨b, 0, none⟩) (some ⟨e, 0, none⟩) (some ⟨x, 0, none⟩) (some ⟨y, 0, none⟩) i next true H' R := fun P' M' H' h' h1 h2 =>
    law03_RingPlays_tail h' (by omega) hi fun H'' h'' => hnx P' M' H'' h'' h1 h2
  have nH : ¬ QT T_pool_Handle := by decide
  have nR : ¬ QT T_ref02_Handle := by decide
  have nA : ¬ QT T_law03_Act := by decide
  have nU : ¬ QT T_uint8 := by decide
  have kin : ∀ {S : Nat → Prop} {G G' : Heap} {q : Nat} {T : TypeId} {c : Array Value}, Keep S G G' → Blk G q T c → ¬ S q → KeptIn [q] G G' := fun k hq hS => keptIn_of k (by
    simp only [List.mem_cons, List.not_mem_nil, or_false]
    rintro z rfl
    exact ⟨hS, hq.some⟩)
  have kin2 : ∀ {G G' : Heap} {q : Nat} {T : TypeId} {c : Array Value}, Blk G q T c → Blk G' q T c → KeptIn [q] G G' := fun h1 h2 z hz => by
    simp only [List.mem_cons, List.not_mem_nil, or_false] at hz
    subst hz
    exact ⟨⟨_, h1⟩, h2.trans h1.symm⟩
  have live1 : ∀ {G : Heap} {q : Nat} {T : TypeId} {c : Array Value}, Blk G q T c → ∀ b ∈ [q], ∃ o, G b = some o := fun hq => live_of (by
    simp only [List.mem_cons, List.not_mem_nil, or_false]
    rintro z rfl
    exact hq.some)
  -- both lend, both post
  have lend : law03_RingPlays_j3 aa an ac (some ⟨b, 0, none⟩) (some ⟨e, 0, none⟩) (some ⟨x, 0, none⟩) (some ⟨y, 0, none⟩) i w ba bn bc z next true H R := by
    unfold law03_RingPlays_j3
    rw [IfB_true]
    refine (base_Bytes_spec hb (by omega)).mono ?_
    rintro v H1 ⟨p, pc, rfl, hf, k1⟩
    have h1 := h.keepN k1
    have hk1 : Keep (qset H) H H1 := k1.mono fun _ h => h.elim
    obtain ⟨hb1, hs1⟩ := safe_keep hb hs h.both.keep h1.both.keep hk1
    refine ⟨_, _, _, rfl, ?_⟩
    refine (both_xLend h1.both hf.bytes hf.u8 (by omega)).mono ?_
    rintro v H2 ⟨rfl, k2, hB2⟩
    obtain ⟨k2', h2⟩ := h1.stepB k2 hB2
    obtain ⟨hb2, hs2⟩ := safe_keep hb1 hs1 h1.both.keep h2.both.keep k2'
    refine ⟨_, _, _, rfl, ?_⟩
    refine new_pair fun h19 H3 _ k3 _ hX => ?_
    have h3 := h2.keepN k3
    obtain ⟨hb3, hs3⟩ := safe_keep hb2 hs2 h2.both.keep h3.both.keep (k3.mono fun _ h => h.elim)
    obtain ⟨fa, fc, ee, hy⟩ := h3.both.atY
    refine (both_yLend h3.both hb3 (fun q hq hn e => ?_) (by omega)).mono ?_
    · rcases hs3 q hq hn with h0 | ⟨c, hc⟩
      · rw [e] at h0; exact h0 hy.newP
      · rw [e] at hc; exact absurd (Blk.type hc hy.blkP) (by decide)
    rintro v H4 ⟨rfl, k4, hB4⟩
    obtain ⟨k4', h4⟩ := h3.stepB k4 hB4
    have hX4 := k4'.blk hX (Blk.noQ hX nH)
    refine ⟨_, _, _, rfl, ?_⟩
    refine new_pair fun k21 H5 _ k5 _ hY => ?_
    have h5 := h4.keepN k5
    have hX5 := k5.blk hX4 (nil_no _)
    have hcl := count_lend P bs
    by_cases e0 : (P.lend bs).2.1 = 0
    · rw [show ((P.lend bs).2.1 == 0) = true by simpa using e0, IfB_true]
      refine ⟨[k21], live1 hY, ?_⟩
      rw [beq, IfB_true]
      refine ⟨_, by rw [hX5.cell]; rfl, _, by rw [hX5.cell]; rfl, by simp, _, by rw [hY.cell]; rfl, _, by rw [hY.cell]; rfl, ?_⟩
      refine (quad_xPost h5 _ _).mono ?_
      rintro v H6 ⟨rfl, k6, h6⟩
      have hY6 := k6.blk hY (Blk.noQ hY nR)
      refine ⟨_, rfl, kin2 hY hY6, ?_⟩
      refine (quad_yPost h6 hr60 _ _).mono ?_
      rintro v H7 ⟨rfl, k7, h7⟩
      have hY7 := k7.blk hY6 (Blk.noQ hY6 nR)
      refine ⟨_, rfl, kin2 hY hY7, ?_⟩
      rw [beq]
      exact tl _ _ _ h7 (by simp only [Int.natCast_add]; omega) (by rw [post_reaped]; omega)
    · rw [show ((P.lend bs).2.1 == 0) = false by simpa using e0, IfB_false, beq]
      exact tl _ _ _ h5 (by simp only [Int.natCast_add]; omega) (by omega)
  have fill : law03_RingPlays_j6 aa an ac (some ⟨b, 0, none⟩) (some ⟨e, 0, none⟩) (some ⟨x, 0, none⟩) (some ⟨y, 0, none⟩) i ba bn bc z next true H R := by
    unfold law03_RingPlays_j6
    rw [IfB_true]
    refine (base_Bytes_spec hb (by omega)).mono ?_
    rintro v H1 ⟨p, pc, rfl, hf, k1⟩
    have h1 := h.keepN k1
    obtain ⟨hb1, hs1⟩ := safe_keep hb hs h.both.keep h1.both.keep (k1.mono fun _ h => h.elim)
    refine ⟨_, _, _, rfl, ?_⟩
    refine quad_Fill h1 hr60 hf.bytes hf.u8 hb1 hs1 fun v P' M' H' h' c1 c2 => ?_
    rw [beq]
    exact tl _ _ _ h' (by rw [c1]; simp only [Int.natCast_add]; omega) (by omega)
  by_cases z0 : z = 0
  · subst z0
    rw [show ((0 : Int) == 0) = true from rfl, IfB_true]
    exact lend
  rw [show (z == 0) = false by simpa using z0, IfB_false]
  by_cases z1 : z = 1
  · subst z1
    exact lend
  rw [show (z == 1) = false by simpa using z1]
  unfold law03_RingPlays_j3
  rw [IfB_false]
  by_cases z2 : z = 2
  · subst z2
    rw [show ((2 : Int) == 2) = true from rfl, IfB_true]
    refine ⟨[w], live1 hA, hn, by rw [hA.cell]; rfl, ht, by rw [hA.cell]; rfl, by simp, hn, by rw [hA.cell]; rfl, by simp, ht, by rw [hA.cell]; rfl, ?_⟩
    refine (quad_xPost h hn ht).mono ?_
    rintro v H6 ⟨rfl, k6, h6⟩
    have hA6 := k6.blk hA (Blk.noQ hA nA)
    refine ⟨_, rfl, kin2 hA hA6, ?_⟩
    refine (quad_yPost h6 hr60 hn ht).mono ?_
    rintro v H7 ⟨rfl, k7, h7⟩
    have hA7 := k7.blk hA6 (Blk.noQ hA6 nA)
    refine ⟨_, rfl, kin2 hA hA7, ?_⟩
    rw [beq]
    exact tl _ _ _ h7 (by simp only [Int.natCast_add]; omega) (by rw [post_reaped]; omega)
  rw [show (z == 2) = false by simpa using z2, IfB_false]
  by_cases z3 : z = 3
  · subst z3
    exact fill
  rw [show (z == 3) = false by simpa using z3, IfB_false]
  by_cases z4 : z = 4
  · subst z4
    exact fill
  rw [show (z == 4) = false by simpa using z4]
  unfold law03_RingPlays_j6
  rw [IfB_false]
  by_cases z5 : z = 5
  · subst z5
    rw [show ((5 : Int) == 5) = true from rfl, IfB_true]
    refine quad_Take h hr60 fun a n c a' n' c' v bs' M' H' h' c1 hb1 hb2 => ?_
    refine (base_SameBytes_spec hb1 hb2).mono ?_
    rintro v' _ ⟨rfl, rfl⟩
    refine ⟨_, rfl, ?_⟩
    rw [show (bs' == bs') = true by simp, IfB_true, beq]
    exact tl _ _ _ h' (by simp only [Int.natCast_add]; omega) (by omega)
  rw [show (z == 5) = false by simpa using z5, IfB_false]
  obtain ⟨cr, hr⟩ := h.atR
  refine (ring_Reap_spec hr).mono ?_
  rintro v H1 ⟨rfl, k1, hr1⟩
  obtain ⟨_, h1⟩ := h.stepR k1 hr1
  refine ⟨_, _, _, rfl, ?_⟩
  refine new_pair fun h27 H2 _ k2 _ hX => ?_
  have h2 := h1.keepN k2
  obtain ⟨pa, pc, da, dc, hq⟩ := h2.atQ
  refine (ref3_Reap_spec h2.both.keep hq hr60).mono ?_
  rintro v H3 ⟨rfl, k3, hq3⟩
  obtain ⟨k3', h3⟩ := h2.stepQ k3 hq3
  have hX3 := k3'.blk hX (Blk.noQ hX nH)
  refine ⟨_, _, _, rfl, ?_⟩
  refine new_pair fun k29 H4 _ k4 _ hY => ?_
  have h4 := h3.keepN k4
  have hX4 := k4.blk hX3 (nil_no _)
  have hrr := reap_reaped M
  refine ⟨[k29], live1 hY, _, by rw [hX4.cell]; rfl, _, by rw [hY.cell]; rfl, ?_⟩
  rw [beq, IfB_true]
  refine ⟨_, by rw [hX4.cell]; rfl, _, by rw [hY.cell]; rfl, ?_⟩
  rw [beq, beq, IfB_true, IfB_true]
  refine ⟨_, by rw [hX4.cell]; rfl, _, by rw [hX4.cell]; rfl, by simp, _, by rw [hY.cell]; rfl, _, by rw [hY.cell]; rfl, ?_⟩
  refine (both_xGive h4.both _ _).mono ?_
  rintro v H5 ⟨rfl, k5, hB5⟩
  obtain ⟨k5', h5⟩ := h4.stepB k5 hB5
  have hY5 := k5'.blk hY (Blk.noQ hY nR)
  refine ⟨_, rfl, kin2 hY hY5, ?_⟩
  refine (both_yGive h5.both _ _).mono ?_
  rintro v H6 ⟨rfl, k6, hB6⟩
  obtain ⟨k6', h6⟩ := h5.stepB k6 hB6
  have hY6 := k6'.blk hY5 (Blk.noQ hY5 nR)
  refine ⟨_, rfl, kin2 hY hY6, ?_⟩
  rw [beq]
  exact tl _ _ _ h6 (by rw [count_give]; simp only [Int.natCast_add]; omega) (by omega)

end Go.Proofs.Ytligjponbhnedaa
