/-
  The law's calls, said of the heap.
-/
import Derived.Test.YtomdgakmkihfhaaTl5
set_option linter.all false
set_option maxRecDepth 100000
namespace Go.Proofs.Ytomdgakmkihfhaa
open Go.Sh

theorem few_run {H : Heap} {Z : Nat → Prop} {a : Attrs} {pa pn pc ca cn cc oa on oc} (hz : ∀ x, Z x → H x ≠ none) (hy : Lyd H) (h : Parts Z H a pa pn pc ca cn cc oa on oc) (hs : ∀ s ∈ a.path, s.2.length ≤ 35184372088736) :
    FnW Try.prog f_law20_few ⟨[.agg ⟨attG a pa pn pc ca cn cc oa on oc⟩]⟩ H fun v H' => Keep Nil H H' ∧ ∃ (Zn : Nat → Prop) (pa : Option Addr) (pn pc : Nat) (ca : Option Addr) (cn cc : Nat) (oa : Option Addr) (on oc : Nat), v = .agg ⟨attG (fewA a) pa pn pc ca cn cc oa on oc⟩ ∧ Fresh H H' Zn ∧ Parts (fun x => Z x ∨ Zn x) H' (fewA a) pa pn pc ca cn cc oa on oc := by
  have hs' : SimL (gZ Z) H 0 (pksA 0 law20_few_ps (a, ())) [.agg ⟨attG a pa pn pc ca cn cc oa on oc⟩] := by
    simp only [pksA, pkA, SimL, SimV, and_true]
    exact ⟨_, rfl, sim_close h⟩
  refine (FnQ.runZ (x := (a, ())) law20_few_fq rfl rfl hs' hz hy.live hy.ok (K := fun r => r.1 = fewA a) (few_c a _ hs rfl)).mono fun v H' hk => ?_
  obtain ⟨k, ⟨y, u⟩, Zn, h1, _, h2, h3⟩ := hk
  simp only at h1
  subst h1
  simp only [pksA, pkA, outA, SimV] at h3
  obtain ⟨vs, rfl, h3⟩ := h3
  obtain ⟨pa, pn, pc, ca, cn, cc, oa, on, oc, rfl, P⟩ := sim_open h3
  exact ⟨k, Zn, pa, pn, pc, ca, cn, cc, oa, on, oc, rfl, h2, P⟩

/-- Attributes of few members. -/
structure Lim (a : Attrs) : Prop where
  p : a.path.length ≤ 1000
  s : ∀ s ∈ a.path, s.2.length ≤ 1000
  c : a.comms.length ≤ 1000
  o : a.others.length ≤ 1000
  d : ∀ x ∈ a.others, x.2.length ≤ 1000
theorem lim_few (a : Attrs) : Lim (fewA a) := by
  have h1 := few_path a
  have h2 := few_others a
  refine ⟨by omega, fun s hs => by have := h1.2 s hs; omega, ?_, by omega, fun x hx => ?_⟩
  · show (a.comms.take 40).length ≤ 1000
    rw [List.length_take]; omega
  · have hx : x ∈ (a.others.take 10).map cutR := hx
    obtain ⟨y, _, rfl⟩ := List.mem_map.1 hx
    show (y.2.take 260).length ≤ 1000
    rw [List.length_take]; omega
theorem same_run {H : Heap} {Z : Nat → Prop} {a b : Attrs} {pa pn pc ca cn cc oa on oc pa' pn' pc' ca' cn' cc' oa' on' oc'} (hz : ∀ x, Z x → H x ≠ none) (hy : Lyd H) (h : Parts Z H a pa pn pc ca cn cc oa on oc) (h' : Parts Z H b pa' pn' pc' ca' cn' cc' oa' on' oc') (l : Lim a) (l' : Lim b) :
    FnW Try.prog f_attr_Same ⟨[.agg ⟨attG a pa pn pc ca cn cc oa on oc⟩, .agg ⟨attG b pa' pn' pc' ca' cn' cc' oa' on' oc'⟩]⟩ H fun v H' => Keep Nil H H' ∧ v = .bool (sameA a b) := by
  have hs' : SimL (gZ Z) H 0 (pksA 0 attr_Same_ps (a, b, ())) [.agg ⟨attG a pa pn pc ca cn cc oa on oc⟩, .agg ⟨attG b pa' pn' pc' ca' cn' cc' oa' on' oc'⟩] := by
    simp only [pksA, pkA, SimL, SimV, and_true]
    exact ⟨⟨_, rfl, sim_close h⟩, _, rfl, sim_close h'⟩
  refine (FnQ.run (x := (a, b, ())) attr_Same_fq rfl rfl hs' hz hy.live hy.ok (K := fun r => r.1 = sameA a b) (attr_Same_c a b _ (by have := l.p; omega) (fun x hx => by have := l.s x hx; omega) (by have := l.c; omega) (by have := l.o; omega) (fun x hx => by have := l.d x hx; omega) rfl)).mono fun v H' hk => ?_
  obtain ⟨k, y1, h1, _, h3⟩ := hk
  have := h3 0 (gZ fun _ => False)
  obtain ⟨y1, u⟩ := y1
  simp only at h1
  subst h1
  simp only [pksA, pkA, outA, SimV] at this
  exact ⟨k, this⟩
theorem rsame_run {H : Heap} {Z : Nat → Prop} {a b : Attrs} {pa pn pc ca cn cc oa on oc pa' pn' pc' ca' cn' cc' oa' on' oc'} (hz : ∀ x, Z x → H x ≠ none) (hy : Lyd H) (h : Parts Z H a pa pn pc ca cn cc oa on oc) (h' : Parts Z H b pa' pn' pc' ca' cn' cc' oa' on' oc') (l : Lim a) (l' : Lim b) :
    FnW Try.prog f_ref20_Same ⟨[.agg ⟨attG a pa pn pc ca cn cc oa on oc⟩, .agg ⟨attG b pa' pn' pc' ca' cn' cc' oa' on' oc'⟩]⟩ H fun v H' => Keep Nil H H' ∧ v = .bool (sameA a b) := by
  have hs' : SimL (gZ Z) H 0 (pksA 0 ref20_Same_ps (a, b, ())) [.agg ⟨attG a pa pn pc ca cn cc oa on oc⟩, .agg ⟨attG b pa' pn' pc' ca' cn' cc' oa' on' oc'⟩] := by
    simp only [pksA, pkA, SimL, SimV, and_true]
    exact ⟨⟨_, rfl, sim_close h⟩, _, rfl, sim_close h'⟩
  refine (FnQ.run (x := (a, b, ())) ref20_Same_fq rfl rfl hs' hz hy.live hy.ok (K := fun r => r.1 = sameA a b) (ref20_Same_c a b _ (by have := l.p; omega) (fun x hx => by have := l.s x hx; omega) (by have := l.c; omega) (by have := l.o; omega) rfl)).mono fun v H' hk => ?_
  obtain ⟨k, y1, h1, _, h3⟩ := hk
  have := h3 0 (gZ fun _ => False)
  obtain ⟨y1, u⟩ := y1
  simp only at h1
  subst h1
  simp only [pksA, pkA, outA, SimV] at this
  exact ⟨k, this⟩
theorem works_run {H : Heap} (hy : Lyd H) : FnW Try.prog f_law20_works ⟨[]⟩ H fun v H' => Keep Nil H H' ∧ v = .bool true := by
  refine (FnQ.run (x := ()) law20_works_fq rfl rfl (vs := []) (Z := fun _ => False) trivial (fun _ h => h.elim) hy.live hy.ok (K := fun r => r.1 = true) (works_c _ rfl)).mono fun v H' hk => ?_
  obtain ⟨k, y1, h1, _, h3⟩ := hk
  have := h3 0 (gZ fun _ => False)
  obtain ⟨y1, u⟩ := y1
  simp only at h1
  subst h1
  simp only [pksA, pkA, outA, SimV] at this
  exact ⟨k, this⟩

end Go.Proofs.Ytomdgakmkihfhaa
