/-
  Law 03: both pools and both rings side by side.
-/
import Derived.Test.YtligjponbhnedaaRef3d
import Derived.Test.YtligjponbhnedaaLaw2e
import Derived.Test.YtligjponbhnedaaLaw3a
set_option maxRecDepth 100000
namespace Go.Proofs.Ytligjponbhnedaa
open Go.Sh

def QT (T : TypeId) : Prop := PT T ∨ T = T_ring_Ring ∨ T = T_ref03_Ring
instance (T : TypeId) : Decidable (QT T) := by unfold QT; infer_instance
def qset (H : Heap) : Nat → Prop := fun z => ∃ T c, QT T ∧ Blk H z T c
theorem Blk.noQ {H : Heap} {z : Nat} {T : TypeId} {c : Array Value} (h : Blk H z T c) (hT : ¬ QT T) : ¬ qset H z := fun ⟨_, _, h1, h2⟩ => hT (Eq.mpr (congrArg QT (Blk.type h h2)) h1)

structure Quad (H0 H : Heap) (x xl y yl b e : Nat) (P Q : PoolM) (M N : RingM) : Prop where
  both : Both H0 H x xl y yl P Q
  newB : H0 b = none
  atR : ∃ c, RingAt H b M c
  atQ : ∃ pa pc da dc, QAt H0 H e N pa pc da dc

theorem Quad.keepN {H0 H H' : Heap} {x xl y yl b e : Nat} {P Q : PoolM} {M N : RingM} (h : Quad H0 H x xl y yl b e P Q M N) (k : Keep Nil H H') : Quad H0 H' x xl y yl b e P Q M N := by
  obtain ⟨c, hr⟩ := h.atR
  obtain ⟨pa, pc, da, dc, hq⟩ := h.atQ
  exact ⟨h.both.keepN k, h.newB, ⟨c, hr.keep k (nil_no _)⟩, pa, pc, da, dc, hq.keepN k⟩

theorem Quad.stepB {H0 H H' : Heap} {x xl y yl b e : Nat} {P Q P' Q' : PoolM} {M N : RingM} (h : Quad H0 H x xl y yl b e P Q M N) (k : Keep (pset H) H H') (h' : Both H0 H' x xl y yl P' Q') :
    Keep (qset H) H H' ∧ Quad H0 H' x xl y yl b e P' Q' M N := by
  obtain ⟨c, hr⟩ := h.atR
  obtain ⟨pa, pc, da, dc, hq⟩ := h.atQ
  refine ⟨k.mono fun z ⟨T, c, hT, hb⟩ => ⟨T, c, .inl hT, hb⟩, h', h.newB, ⟨c, hr.keep k (Blk.noP hr.blk (by decide))⟩, pa, pc, da, dc, hq.keep k fun z T c hT hz => Blk.noP hz ?_⟩
  rcases hT with rfl | rfl <;> decide

theorem Both.keepT {H0 H H' : Heap} {x xl y yl z : Nat} {P Q : PoolM} {T : TypeId} {c : Array Value} (h : Both H0 H x xl y yl P Q) (hz : Blk H z T c) (hT : ¬ PT T) (hT8 : T ≠ T_uint8) (h0 : H0 z = none) (k : Keep (fun w => w = z) H H') : Both H0 H' x xl y yl P Q := by
  obtain ⟨c1, d, f, hx⟩ := h.atX
  obtain ⟨fa, fc, e, hy⟩ := h.atY
  have no : ∀ w T' c', PT T' ∨ T' = T_uint8 → Blk H w T' c' → ¬ w = z := fun w T' c' hT' hw e => by
    subst e
    have := Blk.type hw hz
    subst this
    exact hT'.elim hT hT8
  refine ⟨h.keep.then k fun w hw => .inr (by rw [hw]; exact h0), h.newX, h.newL, ⟨c1, d, f, hx.keep k (no _ _ _ (.inl (by decide)) hx.blkP) (no _ _ _ (.inl (by decide)) hx.blkB)⟩, fa, fc, e, hy.keep k fun w T' c' hT' hw => no w T' c' ?_ hw⟩
  rcases hT' with rfl | rfl | rfl | rfl
  · exact .inl (by decide)
  · exact .inl (by decide)
  · exact .inl (by decide)
  · exact .inr rfl

theorem Quad.stepR {H0 H H' : Heap} {x xl y yl b e : Nat} {P Q : PoolM} {M N M' : RingM} (h : Quad H0 H x xl y yl b e P Q M N) (k : Keep (fun z => z = b) H H') (hr' : ∃ c', RingAt H' b M' c') :
    Keep (qset H) H H' ∧ Quad H0 H' x xl y yl b e P Q M' N := by
  obtain ⟨c, hr⟩ := h.atR
  obtain ⟨pa, pc, da, dc, hq⟩ := h.atQ
  refine ⟨k.mono fun z hz => ⟨_, c, .inr (.inl rfl), by rw [hz]; exact hr.blk⟩, h.both.keepT hr.blk (by decide) (by decide) h.newB k, h.newB, hr', pa, pc, da, dc, hq.keep k fun z T c' hT hz e => ?_⟩
  subst e
  have := Blk.type hz hr.blk
  subst this
  revert hT; decide

theorem Quad.stepQ {H0 H H' : Heap} {x xl y yl b e : Nat} {P Q : PoolM} {M N N' : RingM} (h : Quad H0 H x xl y yl b e P Q M N) (k : Keep (fun z => z = e) H H') (hq' : ∃ pa pc da dc, QAt H0 H' e N' pa pc da dc) :
    Keep (qset H) H H' ∧ Quad H0 H' x xl y yl b e P Q M N' := by
  obtain ⟨c, hr⟩ := h.atR
  obtain ⟨pa, pc, da, dc, hq⟩ := h.atQ
  refine ⟨k.mono fun z hz => by rw [hz]; exact ⟨_, _, .inr (.inr rfl), hq.blk⟩, h.both.keepT hq.blk (by decide) (by decide) hq.newP k, h.newB, ⟨c, hr.keep k fun e => ?_⟩, hq'⟩
  subst e
  exact absurd (Blk.type hr.blk hq.blk) (by decide)

/-- Bytes that no step of the four turns: they were there at first, or lie in a block of bytes. -/
def Safe (H0 H : Heap) (a : Option Addr) (n : Nat) : Prop := ∀ q, a = some q → 0 < n → H0 q.block ≠ none ∨ ∃ c, Blk H q.block T_uint8 c
theorem safe_keep {H0 H H' : Heap} {a : Option Addr} {n : Nat} {bs : List UInt8} (hb : IsBytes H a n bs) (hs : Safe H0 H a n) (k0 : Keep Nil H0 H) (k0' : Keep Nil H0 H') (k : Keep (qset H) H H') : IsBytes H' a n bs ∧ Safe H0 H' a n := by
  have same : ∀ q, a = some q → 0 < n → H' q.block = H q.block := fun q hq hn => by
    rcases hs q hq hn with h0 | ⟨c, hc⟩
    · rw [k0'.same _ (nil_no _) h0, k0.same _ (nil_no _) h0]
    · exact k.same _ (Blk.noQ hc (by decide)) hc.some
  refine ⟨?_, fun q hq hn => ?_⟩
  · cases a with
    | none => exact hb
    | some q =>
      refine ⟨hb.1, fun hn => ?_⟩
      obtain ⟨h1, c, T, fr, h2, h3⟩ := hb.2 hn
      exact ⟨h1, c, T, fr, by rw [same q rfl hn]; exact h2, h3⟩
  · rcases hs q hq hn with h0 | ⟨c, hc⟩
    · exact .inl h0
    · exact .inr ⟨c, hc.same (same q hq hn)⟩
theorem device_reaped (M : RingM) : M.device.2.2.reaped = M.reaped := by
  unfold RingM.device
  split <;> rfl
theorem device_30 {M : RingM} (h : M.device.2.1 ≠ 0) : M.device.2.1 = 30 := by
  unfold RingM.device at h ⊢
  split at h
  · rfl
  · exact absurd rfl h

/-- Both rings filled: alike. -/
theorem quad_Fill {H0 H : Heap} {x xl y yl b e : Nat} {P : PoolM} {M : RingM} (h : Quad H0 H x xl y yl b e P P M M) (hc : M.reaped < 2 ^ 60) {a a' : Option Addr} {n cap cap' : Nat} {bs : List UInt8} (hb : IsBytes H a n bs) (hu : U8 H a) (hb' : IsBytes H a' n bs) (hs' : Safe H0 H a' n) {K : Int → Int → Heap → Prop}
    (hk : ∀ v P' M' H', Quad H0 H' x xl y yl b e P' P' M' M' → P'.count = P.count → M'.reaped = M.reaped → K v v H') :
    FnW Try.prog f_ring_Ring_Fill ⟨[.pointer (some ⟨b, 0, none⟩), .pointer (some ⟨x, 0, none⟩), .slice a n cap]⟩ H fun v H1 => ∃ v1 : Int, v = .int .i64 v1 ∧
      FnW Try.prog f_ref03_Ring_Fill ⟨[.pointer (some ⟨e, 0, none⟩), .pointer (some ⟨y, 0, none⟩), .slice a' n cap']⟩ H1 fun v H2 => ∃ v2 : Int, v = .int .i64 v2 ∧ K v1 v2 H2 := by
  obtain ⟨c, hr⟩ := h.atR
  refine ring_Fill_gen hr a n cap (fun e0 H1 k1 hr1 => ?_) (fun e0 H1 k1 hr1 => ?_)
  · obtain ⟨k1', h1⟩ := h.stepR k1 hr1
    obtain ⟨pa, pc, da, dc, hq⟩ := h1.atQ
    refine ⟨_, rfl, ref3_Fill_gen h1.both.keep hq hc a' n cap' (fun e1 H2 k2 hq2 => ?_) (fun e1 _ _ _ => absurd e1 e0)⟩
    obtain ⟨_, h2⟩ := h1.stepQ k2 hq2
    refine ⟨_, rfl, ?_⟩
    rw [device_30 e0]
    exact hk _ _ _ _ h2 rfl (device_reaped M)
  · obtain ⟨k1', h1⟩ := h.stepR k1 hr1
    have nu : ∀ {G : Heap} {z c}, Blk G z T_uint8 c → ¬ qset G z := fun hz => Blk.noQ hz (by decide)
    have hb1 : IsBytes H1 a n bs := Reads.keep hb k1' fun z hz => by
      obtain ⟨c, hc⟩ := hu z hz
      exact nu hc
    have hu1 := hu.keep k1' fun z c hz => nu hz
    obtain ⟨hb1', hs1'⟩ := safe_keep hb' hs' h.both.keep h1.both.keep k1'
    refine (both_xWrite h1.both _ _ hb1 hu1).mono ?_
    rintro v H2 ⟨rfl, k2, hB2⟩
    obtain ⟨k2', h2⟩ := h1.stepB k2 hB2
    obtain ⟨hb2', hs2'⟩ := safe_keep hb1' hs1' h1.both.keep h2.both.keep k2'
    obtain ⟨pa, pc, da, dc, hq⟩ := h2.atQ
    refine ⟨_, rfl, _, rfl, ref3_Fill_gen h2.both.keep hq hc a' n cap' (fun e1 _ _ _ => absurd e0 e1) (fun e1 H3 k3 hq3 => ?_)⟩
    obtain ⟨k3', h3⟩ := h2.stepQ k3 hq3
    obtain ⟨hb3', hs3'⟩ := safe_keep hb2' hs2' h2.both.keep h3.both.keep k3'
    refine (both_yWrite h3.both _ _ hb3').mono ?_
    rintro v H4 ⟨rfl, k4, hB4⟩
    obtain ⟨k4', h4⟩ := h3.stepB k4 hB4
    exact ⟨_, rfl, _, rfl, hk _ _ _ _ h4 (count_write P _ _ bs) (device_reaped M)⟩

end Go.Proofs.Ytligjponbhnedaa
