/-
  Law 03: Take on both sides; what is asked behind each act.
-/
import Derived.Test.YtligjponbhnedaaLaw3c
set_option maxRecDepth 100000
namespace Go.Proofs.Ytligjponbhnedaa
open Go.Sh

theorem both_xRead8 {H0 H : Heap} {x xl y yl : Nat} {M N : PoolM} (h : Both H0 H x xl y yl M N) (n t : Int) :
    FnW Try.prog f_pool_Pool_Read ⟨[.pointer (some ⟨x, 0, none⟩), .agg ⟨[.int .i64 n, .int .i64 t]⟩]⟩ H fun v H' => Keep Nil H H' ∧ ∃ a m cap, v = .tuple ⟨[.slice a m cap, .int .i64 (M.read n t).2]⟩ ∧ IsBytes H' a m (M.read n t).1 ∧ U8 H' a := by
  obtain ⟨c, d, f, hx⟩ := h.atX
  refine (pool_Read_spec hx n t).mono ?_
  rintro v H' ⟨k, a, m, cap, rfl, h1, h2⟩
  refine ⟨k, a, m, cap, ?_, ?_⟩
  · unfold PoolM.read
    by_cases h0 : M.findE n t = 0
    · rw [if_pos h0, h0]
    · rw [if_neg h0]
  · unfold PoolM.read
    by_cases h0 : M.findE n t = 0
    · rw [if_pos h0]; exact ⟨(h1 h0).bytes, (h1 h0).u8⟩
    · rw [if_neg h0]
      obtain ⟨rfl, rfl, rfl⟩ := h2 h0
      exact ⟨Reads.nil, U8.nil⟩

theorem quad_Take {H0 H : Heap} {x xl y yl b e : Nat} {P : PoolM} {M : RingM} (h : Quad H0 H x xl y yl b e P P M M) (hc : M.reaped < 2 ^ 60) {K : Option Addr → Nat → Nat → Int → Option Addr → Nat → Nat → Int → Heap → Prop}
    (hk : ∀ a n c a' n' c' v bs M' H', Quad H0 H' x xl y yl b e P P M' M' → M'.reaped = M.reaped → IsBytes H' a n bs → IsBytes H' a' n' bs → K a n c v a' n' c' v H') :
    FnW Try.prog f_ring_Ring_Take ⟨[.pointer (some ⟨b, 0, none⟩), .pointer (some ⟨x, 0, none⟩)]⟩ H fun v H1 => ∃ (a : Option Addr) (n c : Nat), ∃ v1 : Int, v = .tuple ⟨[.slice a n c, .int .i64 v1]⟩ ∧
      FnW Try.prog f_ref03_Ring_Take ⟨[.pointer (some ⟨e, 0, none⟩), .pointer (some ⟨y, 0, none⟩)]⟩ H1 fun v H2 => ∃ (a' : Option Addr) (n' c' : Nat), ∃ v2 : Int, v = .tuple ⟨[.slice a' n' c', .int .i64 v2]⟩ ∧ K a n c v1 a' n' c' v2 H2 := by
  obtain ⟨c, hr⟩ := h.atR
  refine ring_Take_gen hr (fun e0 H1 k1 hr1 => ?_) (fun e0 H1 k1 hr1 => ?_)
  · obtain ⟨k1', h1⟩ := h.stepR k1 hr1
    obtain ⟨pa, pc, da, dc, hq⟩ := h1.atQ
    refine ⟨_, _, _, _, rfl, ref3_Take_gen h1.both.keep hq hc (fun e1 H2 k2 hq2 => ?_) (fun e1 _ _ _ => absurd e1 e0)⟩
    obtain ⟨_, h2⟩ := h1.stepQ k2 hq2
    refine ⟨_, _, _, _, rfl, ?_⟩
    rw [device_30 e0]
    exact hk _ _ _ _ _ _ _ [] _ _ h2 (device_reaped M) Reads.nil Reads.nil
  · obtain ⟨k1', h1⟩ := h.stepR k1 hr1
    refine (both_xRead8 h1.both _ _).mono ?_
    rintro v H2 ⟨k2, a, m, cap, rfl, hb2, hu2⟩
    have h2 := h1.keepN k2
    obtain ⟨pa, pc, da, dc, hq⟩ := h2.atQ
    refine ⟨_, _, _, _, rfl, _, _, _, _, rfl, ref3_Take_gen h2.both.keep hq hc (fun e1 _ _ _ => absurd e0 e1) (fun e1 H3 k3 hq3 => ?_)⟩
    obtain ⟨k3', h3⟩ := h2.stepQ k3 hq3
    have hb3 : IsBytes H3 a m _ := Reads.keep hb2 k3' fun z hz => by
      obtain ⟨c, hc⟩ := hu2 z hz
      exact Blk.noQ hc (by decide)
    refine (both_yRead h3.both _ _).mono ?_
    rintro v H4 ⟨k4, a', m', cap', rfl, hb4⟩
    exact ⟨_, _, _, _, rfl, _, _, _, _, rfl, hk _ _ _ _ _ _ _ _ _ _ (h3.keepN k4) (device_reaped M) (Reads.keep hb3 k4 fun _ _ h => h) hb4⟩

/-- What the law asks behind each act. -/
theorem law03_RingPlays_tail {H0 H : Heap} {x xl y yl b e : Nat} {P : PoolM} {M : RingM} {a : Option Addr} {n c i : Nat} {R : Value → Heap → Prop} {next : (Int × Unit) → Heap → Prop} (h : Quad H0 H x xl y yl b e P P M M) (hc : M.reaped < 2 ^ 60) (hi : i < 1000)
    (hn : ∀ H', Quad H0 H' x xl y yl b e P P M M → next (((i + 1 : Nat) : Int), ()) H') :
    law03_RingPlays_j4 a n c (some ⟨b, 0, none⟩) (some ⟨e, 0, none⟩) (some ⟨x, 0, none⟩) (some ⟨y, 0, none⟩) i next true H R := by
  unfold law03_RingPlays_j4
  obtain ⟨cr, hr⟩ := h.atR
  obtain ⟨pa, pc, da, dc, hq⟩ := h.atQ
  have hE := hq.blk
  have hpos := hr.pos
  have hle := hr.le
  have hfit := hr.fits
  have kr : ∀ {G : Heap}, Keep Nil H G → KeptIn [e] H G := fun k => keptIn_of k (by simp only [List.mem_cons, List.not_mem_nil, or_false]; rintro z rfl; exact ⟨nil_no _, hE.some⟩)
  have ne : ∀ z : Int, (z != z) = false := fun z => by simp
  refine ⟨[e], live_of (by simp only [List.mem_cons, List.not_mem_nil, or_false]; rintro z rfl; exact hE.some), ?_⟩
  rw [Bool.not_true, IfB_false]
  refine (ring_Slots_spec hr).mono ?_
  rintro v H1 ⟨k1, sa, sc, rfl, ho⟩
  refine ⟨_, _, _, rfl, kr k1, ?_⟩
  refine (ref3_Slots_spec (hq.keepN k1) hc).mono ?_
  rintro v H2 ⟨k2, o, z, rfl, hz, hp⟩
  have k12 := k1.trans k2
  refine ⟨_, _, _, rfl, kr k12, ?_⟩
  have ho2 := ho.keep k2 fun _ _ h => h
  have hlz : (stList cr M.N).length = M.N := by simp [stList]
  have hrz : Reads H2 (some ⟨o, 0, none⟩) (M.N * 1) (i64s (stList cr M.N)) := by
    refine Reads.blk hz (by rw [i64s_length, hlz, Nat.mul_one]) fun j hj => ?_
    rw [Nat.mul_one] at hj
    obtain ⟨q, hq1, hq2, _, hq4⟩ := hr.stAt j hj
    rw [i64s_get (by rw [hlz]; exact hj), Nat.zero_add]
    have : (stList cr M.N)[j]'(by rw [hlz]; exact hj) = M.st q := by simp [stList, hq4]
    rw [this]
    have := hp.2 q hq1
    rw [← hq2] at this
    exact this
  refine (base_SameInts_spec ho2.reads hrz rfl (fun q hq => ?_) (fun q hq => by cases hq; rfl) (by omega)).mono ?_
  · rcases ho2.2.2 with ⟨h1, _⟩ | ⟨m, _, h1, _⟩
    · rw [h1] at hq; cases hq
    · rw [h1] at hq; cases hq; rfl
  rintro v _ ⟨rfl, rfl⟩
  refine ⟨_, rfl, kr k12, ?_⟩
  rw [Bool.not_true, IfB_false]
  have hr2 := hr.keep k12 (nil_no _)
  refine NilP.intro _ rfl ⟨by simp, _, _, _, by rw [hE.cell]; rfl, ?_⟩
  refine (ring_Count_spec hr2 1 (by omega)).mono ?_
  rintro v _ ⟨rfl, rfl⟩
  refine ⟨_, rfl, kr k12, ?_⟩
  simp only [if_true, if_false, Nat.one_ne_zero]
  rw [ne, IfB_false]
  refine NilP.intro _ rfl ⟨by simp, _, _, _, by rw [hE.cell]; rfl, ?_⟩
  refine (ring_Count_spec hr2 2 (by omega)).mono ?_
  rintro v _ ⟨rfl, rfl⟩
  refine ⟨_, rfl, kr k12, ?_⟩
  simp only [if_false, show ¬ (2 : Nat) = 0 by omega, show ¬ (2 : Nat) = 1 by omega]
  rw [ne, IfB_false]
  refine NilP.intro _ rfl ⟨by simp, _, by rw [hE.cell]; rfl, NilP.intro _ rfl ⟨by simp, _, _, _, by rw [hE.cell]; rfl, NilP.intro _ rfl ⟨by simp, _, _, _, by rw [hE.cell]; rfl, ?_⟩⟩⟩
  refine (ring_Count_spec hr2 0 (by omega)).mono ?_
  rintro v _ ⟨rfl, rfl⟩
  refine ⟨_, rfl, kr k12, ?_⟩
  simp only [if_true]
  have e1 : IntKind.wrap .i64 (IntKind.wrap .i64 ((M.N : Int) - (M.posted.length : Int)) - (M.done.length : Int)) = ((M.N - (M.done.length + M.posted.length) : Nat) : Int) := by
    rw [wrap_id (n := (M.N : Int) - (M.posted.length : Int)) (by omega) (by omega), wrap_id (by omega) (by omega)]
    omega
  rw [e1, ne]
  unfold law03_RingPlays_j5
  rw [IfB_false]
  have e4 : IntKind.wrap .i64 ((i : Int) + 1) = ((i + 1 : Nat) : Int) := by
    rw [wrap_id (by omega) (by omega)]; simp
  rw [e4]
  exact hn _ (h.keepN k12)

end Go.Proofs.Ytligjponbhnedaa
