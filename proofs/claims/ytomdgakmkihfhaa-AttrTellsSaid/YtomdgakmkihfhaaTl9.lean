/-
  The law's end: three numbers are raised.
-/
import Derived.Test.YtomdgakmkihfhaaTl8
set_option linter.all false
set_option maxRecDepth 100000
namespace Go.Proofs.Ytomdgakmkihfhaa
open Go.Sh

section
variable {H Hx : Heap} {a2 c5 : Nat} {a : Attrs} {Za Zc : Nat → Prop} {pa : Option Addr} {pn pc : Nat} {ca : Option Addr} {cn cc : Nat} {oa : Option Addr} {on oc : Nat} {pa' : Option Addr} {pn' pc' : Nat} {ca' : Option Addr} {cn' cc' : Nat} {oa' : Option Addr} {on' oc' : Nat} {l1 h1 l2 h2 l3 h3 : Nat}

theorem j4_run {R : Value → Heap → Prop} {b : Bool} (e : End H Hx a2 c5 a Za Zc pa pn pc ca cn cc oa on oc pa' pn' pc' ca' cn' cc' oa' on' oc' 1 2 1 2 0 0) (hy : Lyd H) (hb : b = true ↔ ∃ s t x r, a.others = s :: t ∧ s.2 = x :: r) (hR : ∀ H', Keep Nil H H' → R (.bool true) H') : law20_AttrTells_j4 a2 c5 b Hx R := by
  unfold law20_AttrTells_j4
  refine IfB.intro (fun h => ?_) fun h => ?_
  · obtain ⟨s, t, x, r, hs, hx⟩ := hb.1 h
    obtain ⟨b', o', sa, sn, sc, rfl, p1, p2, p3⟩ := e.c3 s t hs
    obtain ⟨sb, so, rfl, hz, hu⟩ := p3 x r hx
    obtain ⟨n, hn2⟩ := hu.cell
    have hn3 := e.n3
    have hl : 0 < a.others.length := by rw [hs]; simp
    have hl2 : 0 < s.2.length := by rw [hx]; simp
    refine ⟨_, _, _, e.atC 12, NilP.intro _ rfl (InB.intro 0 rfl (by omega) ⟨_, _, _, p1, NilP.intro _ rfl (InB.intro 0 rfl (by omega) ⟨n, hn2, NilP.intro _ rfl (InB.intro 0 rfl (by omega) ?_)⟩)⟩)⟩
    simp only [elemAt_none, Nat.zero_mul, Nat.add_zero]
    refine wr_num (e.zc sb hz).2.2.2.2 hn2 fun Hy hw => ?_
    obtain ⟨w1, w2, w3, w4, w5, w6⟩ := e.wr hz hw
    refine j5_run ⟨w1, w2, w3, w4, w5, w6, e.n1, e.n2, e.n3, fun y q hq => ?_, fun s' q hq => ?_, fun s' q hq => ?_⟩ hy hR
    · obtain ⟨b1, o1, g1, g2, g3⟩ := e.c1 y q hq
      exact ⟨b1, o1, g1, g2, g3.other hw hn2 (by decide)⟩
    · obtain ⟨b1, o1, ta, tn, tc, g1, g2, g3, g4⟩ := e.c2 s' q hq
      refine ⟨b1, o1, ta, tn, tc, g1, cell_int hw hn2 g2 (fun _ _ h => by cases h), g3, fun y q hq => ?_⟩
      obtain ⟨tb, to, f1, f2, f3⟩ := g4 y q hq
      exact ⟨tb, to, f1, f2, f3.other hw hn2 (by decide)⟩
    · rw [hs] at hq; cases hq
      refine ⟨b', o', _, _, _, rfl, cell_int hw hn2 p1 (fun _ _ h => by cases h), p2, fun y q hq => ?_⟩
      rw [hx] at hq; cases hq
      exact ⟨sb, so, rfl, hz, hu.self8 hw hn2⟩
  · refine j5_run ⟨e.kp, e.A, e.C, e.P, e.za, e.zc, e.n1, e.n2, e.n3, e.c1, e.c2, fun s t hs => ?_⟩ hy hR
    obtain ⟨b1, o1, ta, tn, tc, g1, g2, g3, g4⟩ := e.c3 s t hs
    refine ⟨b1, o1, ta, tn, tc, g1, g2, g3, fun y q hq => ?_⟩
    rw [hb.2 ⟨s, t, y, q, hs, hq⟩] at h
    cases h
theorem j3_run {R : Value → Heap → Prop} (e : End H Hx a2 c5 a Za Zc pa pn pc ca cn cc oa on oc pa' pn' pc' ca' cn' cc' oa' on' oc' 1 2 1 2 0 0) (hy : Lyd H) (hR : ∀ H', Keep Nil H H' → R (.bool true) H') : law20_AttrTells_j3 a2 c5 Hx R := by
  unfold law20_AttrTells_j3
  have hn3 := e.n3
  refine ⟨_, _, _, e.atC 12, IfB.intro (fun h => ?_) fun h => j4_run e hy ⟨(fun h => by cases h), fun ⟨s, t, x, r, hs, hx⟩ => ?_⟩ hR⟩
  · have h := of_decide_eq_true h
    obtain ⟨s, t, hs⟩ := ne_nil (l := a.others) (by omega)
    obtain ⟨b', o', sa, sn, sc, rfl, p1, p2, p3⟩ := e.c3 s t hs
    refine ⟨_, _, _, e.atC 12, NilP.intro _ rfl (InB.intro 0 rfl (by omega) ⟨_, _, _, p1, j4_run e hy ⟨fun h => ?_, fun ⟨s', t', x, r, hs', hx⟩ => ?_⟩ hR⟩)⟩
    · have h := of_decide_eq_true h
      obtain ⟨x, r, hx⟩ := ne_nil (l := s.2) (by omega)
      exact ⟨s, t, x, r, hs, hx⟩
    · rw [hs] at hs'; cases hs'
      refine decide_eq_true ?_
      rw [p2, hx]; simp
  · have h := of_decide_eq_false h
    rw [hn3, hs] at h
    simp at h
theorem j2_run {R : Value → Heap → Prop} {b : Bool} (e : End H Hx a2 c5 a Za Zc pa pn pc ca cn cc oa on oc pa' pn' pc' ca' cn' cc' oa' on' oc' 1 1 0 1 0 0) (hy : Lyd H) (hb : b = true ↔ ∃ s t x r, a.path = s :: t ∧ s.2 = x :: r) (hR : ∀ H', Keep Nil H H' → R (.bool true) H') : law20_AttrTells_j2 a2 c5 b Hx R := by
  unfold law20_AttrTells_j2
  refine IfB.intro (fun h => ?_) fun h => ?_
  · obtain ⟨s, t, x, r, hs, hx⟩ := hb.1 h
    obtain ⟨b', o', sa, sn, sc, rfl, p1, p2, p3⟩ := e.c2 s t hs
    obtain ⟨sb, so, rfl, hz, hu⟩ := p3 x r hx
    obtain ⟨n, hn2⟩ := hu.cell
    have hn3 := e.n2
    have hl : 0 < a.path.length := by rw [hs]; simp
    have hl2 : 0 < s.2.length := by rw [hx]; simp
    refine ⟨_, _, _, e.atC 1, NilP.intro _ rfl (InB.intro 0 rfl (by omega) ⟨_, _, _, p1, NilP.intro _ rfl (InB.intro 0 rfl (by omega) ⟨n, hn2, NilP.intro _ rfl (InB.intro 0 rfl (by omega) ?_)⟩)⟩)⟩
    simp only [elemAt_none, Nat.zero_mul, Nat.add_zero]
    refine wr_num (e.zc sb hz).2.2.2.2 hn2 fun Hy hw => ?_
    obtain ⟨w1, w2, w3, w4, w5, w6⟩ := e.wr hz hw
    refine j3_run ⟨w1, w2, w3, w4, w5, w6, e.n1, e.n2, e.n3, fun y q hq => ?_, fun s' q hq => ?_, fun s' q hq => ?_⟩ hy hR
    · obtain ⟨b1, o1, g1, g2, g3⟩ := e.c1 y q hq
      exact ⟨b1, o1, g1, g2, g3.any32 hw hn2⟩
    · rw [hs] at hq; cases hq
      refine ⟨b', o', _, _, _, rfl, cell_int hw hn2 p1 (fun _ _ h => by cases h), p2, fun y q hq => ?_⟩
      rw [hx] at hq; cases hq
      exact ⟨sb, so, rfl, hz, hu.self32 hw hn2⟩
    · obtain ⟨b1, o1, ta, tn, tc, g1, g2, g3, g4⟩ := e.c3 s' q hq
      refine ⟨b1, o1, ta, tn, tc, g1, cell_int hw hn2 g2 (fun _ _ h => by cases h), g3, fun y q hq => ?_⟩
      obtain ⟨tb, to, f1, f2, f3⟩ := g4 y q hq
      exact ⟨tb, to, f1, f2, f3.other hw hn2 (by decide)⟩
  · refine j3_run ⟨e.kp, e.A, e.C, e.P, e.za, e.zc, e.n1, e.n2, e.n3, fun y q hq => ?_, fun s t hs => ?_, e.c3⟩ hy hR
    · obtain ⟨b1, o1, g1, g2, g3⟩ := e.c1 y q hq
      exact ⟨b1, o1, g1, g2, g3.weak (by decide) (by decide)⟩
    · obtain ⟨b1, o1, ta, tn, tc, g1, g2, g3, g4⟩ := e.c2 s t hs
      refine ⟨b1, o1, ta, tn, tc, g1, g2, g3, fun y q hq => ?_⟩
      rw [hb.2 ⟨s, t, y, q, hs, hq⟩] at h
      cases h
theorem j1_run {R : Value → Heap → Prop} (e : End H Hx a2 c5 a Za Zc pa pn pc ca cn cc oa on oc pa' pn' pc' ca' cn' cc' oa' on' oc' 1 1 0 1 0 0) (hy : Lyd H) (hR : ∀ H', Keep Nil H H' → R (.bool true) H') : law20_AttrTells_j1 a2 c5 Hx R := by
  unfold law20_AttrTells_j1
  have hn3 := e.n2
  refine ⟨_, _, _, e.atC 1, IfB.intro (fun h => ?_) fun h => j2_run e hy ⟨(fun h => by cases h), fun ⟨s, t, x, r, hs, hx⟩ => ?_⟩ hR⟩
  · have h := of_decide_eq_true h
    obtain ⟨s, t, hs⟩ := ne_nil (l := a.path) (by omega)
    obtain ⟨b', o', sa, sn, sc, rfl, p1, p2, p3⟩ := e.c2 s t hs
    refine ⟨_, _, _, e.atC 1, NilP.intro _ rfl (InB.intro 0 rfl (by omega) ⟨_, _, _, p1, j2_run e hy ⟨fun h => ?_, fun ⟨s', t', x, r, hs', hx⟩ => ?_⟩ hR⟩)⟩
    · have h := of_decide_eq_true h
      obtain ⟨x, r, hx⟩ := ne_nil (l := s.2) (by omega)
      exact ⟨s, t, x, r, hs, hx⟩
    · rw [hs] at hs'; cases hs'
      refine decide_eq_true ?_
      rw [p2, hx]; simp
  · have h := of_decide_eq_false h
    rw [hn3, hs] at h
    simp at h
theorem j0_run {R : Value → Heap → Prop} (e : End H Hx a2 c5 a Za Zc pa pn pc ca cn cc oa on oc pa' pn' pc' ca' cn' cc' oa' on' oc' 0 0 0 0 0 0) (hy : Lyd H) (hR : ∀ H', Keep Nil H H' → R (.bool true) H') : law20_AttrTells_j0 a2 c5 false Hx R := by
  unfold law20_AttrTells_j0
  have hn3 := e.n1
  refine ifF rfl ⟨_, _, _, e.atC 11, IfB.intro (fun h => ?_) fun h => j1_run ⟨e.kp, e.A, e.C, e.P, e.za, e.zc, e.n1, e.n2, e.n3, fun y q hq => ?_, fun s t hs => ?_, e.c3⟩ hy hR⟩
  · have h := of_decide_eq_true h
    obtain ⟨x, t, hs⟩ := ne_nil (l := a.comms) (by omega)
    obtain ⟨sb, so, rfl, hz, hu⟩ := e.c1 x t hs
    obtain ⟨n, hn2⟩ := hu.cell
    refine ⟨_, _, _, e.atC 11, NilP.intro _ rfl (InB.intro 0 rfl (by omega) ⟨n, hn2, NilP.intro _ rfl (InB.intro 0 rfl (by omega) ?_)⟩)⟩
    simp only [elemAt_none, Nat.zero_mul, Nat.add_zero]
    refine wr_num (e.zc sb hz).2.2.2.2 hn2 fun Hy hw => ?_
    obtain ⟨w1, w2, w3, w4, w5, w6⟩ := e.wr hz hw
    refine j1_run ⟨w1, w2, w3, w4, w5, w6, e.n1, e.n2, e.n3, fun y q hq => ?_, fun s' q hq => ?_, fun s' q hq => ?_⟩ hy hR
    · rw [hs] at hq; cases hq
      exact ⟨sb, so, rfl, hz, hu.self32 hw hn2⟩
    · obtain ⟨b1, o1, ta, tn, tc, g1, g2, g3, g4⟩ := e.c2 s' q hq
      refine ⟨b1, o1, ta, tn, tc, g1, cell_int hw hn2 g2 (fun _ _ h => by cases h), g3, fun y q hq => ?_⟩
      obtain ⟨tb, to, f1, f2, f3⟩ := g4 y q hq
      exact ⟨tb, to, f1, f2, f3.any32 hw hn2⟩
    · obtain ⟨b1, o1, ta, tn, tc, g1, g2, g3, g4⟩ := e.c3 s' q hq
      refine ⟨b1, o1, ta, tn, tc, g1, cell_int hw hn2 g2 (fun _ _ h => by cases h), g3, fun y q hq => ?_⟩
      obtain ⟨tb, to, f1, f2, f3⟩ := g4 y q hq
      exact ⟨tb, to, f1, f2, f3.other hw hn2 (by decide)⟩
  · have h := of_decide_eq_false h
    rw [hn3, hq] at h
    simp at h
  · obtain ⟨b1, o1, ta, tn, tc, g1, g2, g3, g4⟩ := e.c2 s t hs
    refine ⟨b1, o1, ta, tn, tc, g1, g2, g3, fun y q hq => ?_⟩
    obtain ⟨tb, to, f1, f2, f3⟩ := g4 y q hq
    exact ⟨tb, to, f1, f2, f3.weak (by decide) (by decide)⟩
end

end Go.Proofs.Ytomdgakmkihfhaa
