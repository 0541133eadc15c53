/-
  The law's end: three comparisons.
-/
import Derived.Test.YtomdgakmkihfhaaTl7
set_option linter.all false
set_option maxRecDepth 100000
namespace Go.Proofs.Ytomdgakmkihfhaa
open Go.Sh

def tail3 (a2b : Nat) (c5b : Nat) (H58 : Heap) (R : Value → Heap → Prop) : Prop :=
 ∃ (x136a : Option Addr) (x136n x136c : Nat), H58.cell ⟨a2b, 12, none⟩ = some (Value.slice x136a x136n x136c) ∧
 IfB (((x136n : Int) : Int) == 0)
 (FnW Try.prog f_law20_works ⟨[]⟩ H58 fun x167v H59 =>
 ∃ x167 : Bool, x167v = (Value.bool x167) ∧
 R (Value.bool x167) H59)
 (∃ (x141a : Option Addr) (x141n x141c : Nat), H58.cell ⟨a2b, 12, none⟩ = some (Value.slice x141a x141n x141c) ∧
 NilP x141a fun x142q =>
 InB 0 x141n fun x142i =>
 elemAt x142q x142i 2 fun x142p =>
 ∃ (x144a : Option Addr) (x144n x144c : Nat), H58.cell ⟨x142p.block, x142p.off + 1, none⟩ = some (Value.slice x144a x144n x144c) ∧
 IfB (((x144n : Int) : Int) == 0)
 (FnW Try.prog f_law20_works ⟨[]⟩ H58 fun x167v_1 H60 =>
 ∃ x167_1 : Bool, x167v_1 = (Value.bool x167_1) ∧
 R (Value.bool x167_1) H60)
 (∃ (x150a : Option Addr) (x150n x150c : Nat), H58.cell ⟨c5b, 12, none⟩ = some (Value.slice x150a x150n x150c) ∧
 NilP x150a fun x151q =>
 InB 0 x150n fun x151i =>
 elemAt x151q x151i 2 fun x151p =>
 ∃ (x153a : Option Addr) (x153n x153c : Nat), H58.cell ⟨x151p.block, x151p.off + 1, none⟩ = some (Value.slice x153a x153n x153c) ∧
 NilP x153a fun x154q =>
 InB 0 x153n fun x154i =>
 elemAt x154q x154i 1 fun x154p =>
 ∃ x155 : Int, H58.cell x154p = some (Value.int .u8 x155) ∧
 ∃ (x157a : Option Addr) (x157n x157c : Nat), H58.cell ⟨a2b, 12, none⟩ = some (Value.slice x157a x157n x157c) ∧
 NilP x157a fun x158q =>
 InB 0 x157n fun x158i =>
 elemAt x158q x158i 2 fun x158p =>
 ∃ (x160a : Option Addr) (x160n x160c : Nat), H58.cell ⟨x158p.block, x158p.off + 1, none⟩ = some (Value.slice x160a x160n x160c) ∧
 NilP x160a fun x161q =>
 InB 0 x160n fun x161i =>
 elemAt x161q x161i 1 fun x161p =>
 ∃ x162 : Int, H58.cell x161p = some (Value.int .u8 x162) ∧
 IfB ((x155 : Int) != x162)
 (FnW Try.prog f_law20_works ⟨[]⟩ H58 fun x167v_2 H61 =>
 ∃ x167_2 : Bool, x167v_2 = (Value.bool x167_2) ∧
 R (Value.bool x167_2) H61)
 (R (Value.bool false) H58)))
def tail2 (a2b : Nat) (c5b : Nat) (H58 : Heap) (R : Value → Heap → Prop) : Prop :=
 ∃ (x104a : Option Addr) (x104n x104c : Nat), H58.cell ⟨a2b, 1, none⟩ = some (Value.slice x104a x104n x104c) ∧
 IfB (((x104n : Int) : Int) == 0)
 (∃ (x136a : Option Addr) (x136n x136c : Nat), H58.cell ⟨a2b, 12, none⟩ = some (Value.slice x136a x136n x136c) ∧
 IfB (((x136n : Int) : Int) == 0)
 (FnW Try.prog f_law20_works ⟨[]⟩ H58 fun x167v H59 =>
 ∃ x167 : Bool, x167v = (Value.bool x167) ∧
 R (Value.bool x167) H59)
 (∃ (x141a : Option Addr) (x141n x141c : Nat), H58.cell ⟨a2b, 12, none⟩ = some (Value.slice x141a x141n x141c) ∧
 NilP x141a fun x142q =>
 InB 0 x141n fun x142i =>
 elemAt x142q x142i 2 fun x142p =>
 ∃ (x144a : Option Addr) (x144n x144c : Nat), H58.cell ⟨x142p.block, x142p.off + 1, none⟩ = some (Value.slice x144a x144n x144c) ∧
 IfB (((x144n : Int) : Int) == 0)
 (FnW Try.prog f_law20_works ⟨[]⟩ H58 fun x167v_1 H60 =>
 ∃ x167_1 : Bool, x167v_1 = (Value.bool x167_1) ∧
 R (Value.bool x167_1) H60)
 (∃ (x150a : Option Addr) (x150n x150c : Nat), H58.cell ⟨c5b, 12, none⟩ = some (Value.slice x150a x150n x150c) ∧
 NilP x150a fun x151q =>
 InB 0 x150n fun x151i =>
 elemAt x151q x151i 2 fun x151p =>
 ∃ (x153a : Option Addr) (x153n x153c : Nat), H58.cell ⟨x151p.block, x151p.off + 1, none⟩ = some (Value.slice x153a x153n x153c) ∧
 NilP x153a fun x154q =>
 InB 0 x153n fun x154i =>
 elemAt x154q x154i 1 fun x154p =>
 ∃ x155 : Int, H58.cell x154p = some (Value.int .u8 x155) ∧
 ∃ (x157a : Option Addr) (x157n x157c : Nat), H58.cell ⟨a2b, 12, none⟩ = some (Value.slice x157a x157n x157c) ∧
 NilP x157a fun x158q =>
 InB 0 x157n fun x158i =>
 elemAt x158q x158i 2 fun x158p =>
 ∃ (x160a : Option Addr) (x160n x160c : Nat), H58.cell ⟨x158p.block, x158p.off + 1, none⟩ = some (Value.slice x160a x160n x160c) ∧
 NilP x160a fun x161q =>
 InB 0 x160n fun x161i =>
 elemAt x161q x161i 1 fun x161p =>
 ∃ x162 : Int, H58.cell x161p = some (Value.int .u8 x162) ∧
 IfB ((x155 : Int) != x162)
 (FnW Try.prog f_law20_works ⟨[]⟩ H58 fun x167v_2 H61 =>
 ∃ x167_2 : Bool, x167v_2 = (Value.bool x167_2) ∧
 R (Value.bool x167_2) H61)
 (R (Value.bool false) H58))))
 (∃ (x109a : Option Addr) (x109n x109c : Nat), H58.cell ⟨a2b, 1, none⟩ = some (Value.slice x109a x109n x109c) ∧
 NilP x109a fun x110q =>
 InB 0 x109n fun x110i =>
 elemAt x110q x110i 2 fun x110p =>
 ∃ (x112a : Option Addr) (x112n x112c : Nat), H58.cell ⟨x110p.block, x110p.off + 1, none⟩ = some (Value.slice x112a x112n x112c) ∧
 IfB (((x112n : Int) : Int) == 0)
 (∃ (x136a_1 : Option Addr) (x136n_1 x136c_1 : Nat), H58.cell ⟨a2b, 12, none⟩ = some (Value.slice x136a_1 x136n_1 x136c_1) ∧
 IfB (((x136n_1 : Int) : Int) == 0)
 (FnW Try.prog f_law20_works ⟨[]⟩ H58 fun x167v_3 H62 =>
 ∃ x167_3 : Bool, x167v_3 = (Value.bool x167_3) ∧
 R (Value.bool x167_3) H62)
 (∃ (x141a_1 : Option Addr) (x141n_1 x141c_1 : Nat), H58.cell ⟨a2b, 12, none⟩ = some (Value.slice x141a_1 x141n_1 x141c_1) ∧
 NilP x141a_1 fun x142q_1 =>
 InB 0 x141n_1 fun x142i_1 =>
 elemAt x142q_1 x142i_1 2 fun x142p_1 =>
 ∃ (x144a_1 : Option Addr) (x144n_1 x144c_1 : Nat), H58.cell ⟨x142p_1.block, x142p_1.off + 1, none⟩ = some (Value.slice x144a_1 x144n_1 x144c_1) ∧
 IfB (((x144n_1 : Int) : Int) == 0)
 (FnW Try.prog f_law20_works ⟨[]⟩ H58 fun x167v_4 H63 =>
 ∃ x167_4 : Bool, x167v_4 = (Value.bool x167_4) ∧
 R (Value.bool x167_4) H63)
 (∃ (x150a_1 : Option Addr) (x150n_1 x150c_1 : Nat), H58.cell ⟨c5b, 12, none⟩ = some (Value.slice x150a_1 x150n_1 x150c_1) ∧
 NilP x150a_1 fun x151q_1 =>
 InB 0 x150n_1 fun x151i_1 =>
 elemAt x151q_1 x151i_1 2 fun x151p_1 =>
 ∃ (x153a_1 : Option Addr) (x153n_1 x153c_1 : Nat), H58.cell ⟨x151p_1.block, x151p_1.off + 1, none⟩ = some (Value.slice x153a_1 x153n_1 x153c_1) ∧
 NilP x153a_1 fun x154q_1 =>
 InB 0 x153n_1 fun x154i_1 =>
 elemAt x154q_1 x154i_1 1 fun x154p_1 =>
 ∃ x155_1 : Int, H58.cell x154p_1 = some (Value.int .u8 x155_1) ∧
 ∃ (x157a_1 : Option Addr) (x157n_1 x157c_1 : Nat), H58.cell ⟨a2b, 12, none⟩ = some (Value.slice x157a_1 x157n_1 x157c_1) ∧
 NilP x157a_1 fun x158q_1 =>
 InB 0 x157n_1 fun x158i_1 =>
 elemAt x158q_1 x158i_1 2 fun x158p_1 =>
 ∃ (x160a_1 : Option Addr) (x160n_1 x160c_1 : Nat), H58.cell ⟨x158p_1.block, x158p_1.off + 1, none⟩ = some (Value.slice x160a_1 x160n_1 x160c_1) ∧
 NilP x160a_1 fun x161q_1 =>
 InB 0 x160n_1 fun x161i_1 =>
 elemAt x161q_1 x161i_1 1 fun x161p_1 =>
 ∃ x162_1 : Int, H58.cell x161p_1 = some (Value.int .u8 x162_1) ∧
 IfB ((x155_1 : Int) != x162_1)
 (FnW Try.prog f_law20_works ⟨[]⟩ H58 fun x167v_5 H64 =>
 ∃ x167_5 : Bool, x167v_5 = (Value.bool x167_5) ∧
 R (Value.bool x167_5) H64)
 (R (Value.bool false) H58))))
 (∃ (x118a : Option Addr) (x118n x118c : Nat), H58.cell ⟨c5b, 1, none⟩ = some (Value.slice x118a x118n x118c) ∧
 NilP x118a fun x119q =>
 InB 0 x118n fun x119i =>
 elemAt x119q x119i 2 fun x119p =>
 ∃ (x121a : Option Addr) (x121n x121c : Nat), H58.cell ⟨x119p.block, x119p.off + 1, none⟩ = some (Value.slice x121a x121n x121c) ∧
 NilP x121a fun x122q =>
 InB 0 x121n fun x122i =>
 elemAt x122q x122i 1 fun x122p =>
 ∃ x123 : Int, H58.cell x122p = some (Value.int .u32 x123) ∧
 ∃ (x125a : Option Addr) (x125n x125c : Nat), H58.cell ⟨a2b, 1, none⟩ = some (Value.slice x125a x125n x125c) ∧
 NilP x125a fun x126q =>
 InB 0 x125n fun x126i =>
 elemAt x126q x126i 2 fun x126p =>
 ∃ (x128a : Option Addr) (x128n x128c : Nat), H58.cell ⟨x126p.block, x126p.off + 1, none⟩ = some (Value.slice x128a x128n x128c) ∧
 NilP x128a fun x129q =>
 InB 0 x128n fun x129i =>
 elemAt x129q x129i 1 fun x129p =>
 ∃ x130 : Int, H58.cell x129p = some (Value.int .u32 x130) ∧
 IfB ((x123 : Int) != x130)
 (∃ (x136a_2 : Option Addr) (x136n_2 x136c_2 : Nat), H58.cell ⟨a2b, 12, none⟩ = some (Value.slice x136a_2 x136n_2 x136c_2) ∧
 IfB (((x136n_2 : Int) : Int) == 0)
 (FnW Try.prog f_law20_works ⟨[]⟩ H58 fun x167v_6 H65 =>
 ∃ x167_6 : Bool, x167v_6 = (Value.bool x167_6) ∧
 R (Value.bool x167_6) H65)
 (∃ (x141a_2 : Option Addr) (x141n_2 x141c_2 : Nat), H58.cell ⟨a2b, 12, none⟩ = some (Value.slice x141a_2 x141n_2 x141c_2) ∧
 NilP x141a_2 fun x142q_2 =>
 InB 0 x141n_2 fun x142i_2 =>
 elemAt x142q_2 x142i_2 2 fun x142p_2 =>
 ∃ (x144a_2 : Option Addr) (x144n_2 x144c_2 : Nat), H58.cell ⟨x142p_2.block, x142p_2.off + 1, none⟩ = some (Value.slice x144a_2 x144n_2 x144c_2) ∧
 IfB (((x144n_2 : Int) : Int) == 0)
 (FnW Try.prog f_law20_works ⟨[]⟩ H58 fun x167v_7 H66 =>
 ∃ x167_7 : Bool, x167v_7 = (Value.bool x167_7) ∧
 R (Value.bool x167_7) H66)
 (∃ (x150a_2 : Option Addr) (x150n_2 x150c_2 : Nat), H58.cell ⟨c5b, 12, none⟩ = some (Value.slice x150a_2 x150n_2 x150c_2) ∧
 NilP x150a_2 fun x151q_2 =>
 InB 0 x150n_2 fun x151i_2 =>
 elemAt x151q_2 x151i_2 2 fun x151p_2 =>
 ∃ (x153a_2 : Option Addr) (x153n_2 x153c_2 : Nat), H58.cell ⟨x151p_2.block, x151p_2.off + 1, none⟩ = some (Value.slice x153a_2 x153n_2 x153c_2) ∧
 NilP x153a_2 fun x154q_2 =>
 InB 0 x153n_2 fun x154i_2 =>
 elemAt x154q_2 x154i_2 1 fun x154p_2 =>
 ∃ x155_2 : Int, H58.cell x154p_2 = some (Value.int .u8 x155_2) ∧
 ∃ (x157a_2 : Option Addr) (x157n_2 x157c_2 : Nat), H58.cell ⟨a2b, 12, none⟩ = some (Value.slice x157a_2 x157n_2 x157c_2) ∧
 NilP x157a_2 fun x158q_2 =>
 InB 0 x157n_2 fun x158i_2 =>
 elemAt x158q_2 x158i_2 2 fun x158p_2 =>
 ∃ (x160a_2 : Option Addr) (x160n_2 x160c_2 : Nat), H58.cell ⟨x158p_2.block, x158p_2.off + 1, none⟩ = some (Value.slice x160a_2 x160n_2 x160c_2) ∧
 NilP x160a_2 fun x161q_2 =>
 InB 0 x160n_2 fun x161i_2 =>
 elemAt x161q_2 x161i_2 1 fun x161p_2 =>
 ∃ x162_2 : Int, H58.cell x161p_2 = some (Value.int .u8 x162_2) ∧
 IfB ((x155_2 : Int) != x162_2)
 (FnW Try.prog f_law20_works ⟨[]⟩ H58 fun x167v_8 H67 =>
 ∃ x167_8 : Bool, x167v_8 = (Value.bool x167_8) ∧
 R (Value.bool x167_8) H67)
 (R (Value.bool false) H58))))
 (R (Value.bool false) H58)))

theorem up_ne32 {H : Heap} {b o x h : Nat} {n : Int} (hx : x < 4294967296) (hh : h ≤ 2) (hp : Up H b o .u32 x 1 h) (hn : H.cell ⟨b, o, none⟩ = some (.int .u32 n)) : (n != (x : Int)) = true := by
  obtain ⟨k, q1, q2, q3⟩ := hp
  rw [hn] at q3
  simp only [Option.some.injEq, Value.int.injEq, true_and] at q3
  subst q3
  rw [wr_u32, bne_iff_ne]
  omega
theorem up_ne8 {H : Heap} {b o x h : Nat} {n : Int} (hx : x < 256) (hh : h ≤ 2) (hp : Up H b o .u8 x 1 h) (hn : H.cell ⟨b, o, none⟩ = some (.int .u8 n)) : (n != (x : Int)) = true := by
  obtain ⟨k, q1, q2, q3⟩ := hp
  rw [hn] at q3
  simp only [Option.some.injEq, Value.int.injEq, true_and] at q3
  subst q3
  rw [wr_u8, bne_iff_ne]
  omega
theorem Up.cell {H : Heap} {b o x l h : Nat} {kd : IntKind} (hp : Up H b o kd x l h) : ∃ n, H.cell ⟨b, o, none⟩ = some (.int kd n) := by
  obtain ⟨k, _, _, q⟩ := hp
  exact ⟨_, q⟩
theorem ne_nil {A : Type} {l : List A} (h : l.length ≠ 0) : ∃ x t, l = x :: t := by
  cases l with
  | nil => simp at h
  | cons x t => exact ⟨x, t, rfl⟩

section
variable {H Hx : Heap} {a2 c5 : Nat} {a : Attrs} {Za Zc : Nat → Prop} {pa : Option Addr} {pn pc : Nat} {ca : Option Addr} {cn cc : Nat} {oa : Option Addr} {on oc : Nat} {pa' : Option Addr} {pn' pc' : Nat} {ca' : Option Addr} {cn' cc' : Nat} {oa' : Option Addr} {on' oc' : Nat} {l1 h1 l2 h2 l3 h3 : Nat}
theorem End.atA (e : End H Hx a2 c5 a Za Zc pa pn pc ca cn cc oa on oc pa' pn' pc' ca' cn' cc' oa' on' oc' l1 h1 l2 h2 l3 h3) (j : Nat) : Hx.cell ⟨a2, j, none⟩ = (attG a pa pn pc ca cn cc oa on oc)[j]? := by rw [e.A.cell]; simp
theorem End.atC (e : End H Hx a2 c5 a Za Zc pa pn pc ca cn cc oa on oc pa' pn' pc' ca' cn' cc' oa' on' oc' l1 h1 l2 h2 l3 h3) (j : Nat) : Hx.cell ⟨c5, j, none⟩ = (attG a pa' pn' pc' ca' cn' cc' oa' on' oc')[j]? := by rw [e.C.cell]; simp
theorem works_end {R : Value → Heap → Prop} (hy : Lyd H) (k : Keep Nil H Hx) (hR : ∀ H', Keep Nil H H' → R (.bool true) H') : FnW Try.prog f_law20_works ⟨[]⟩ Hx fun v H' => ∃ x : Bool, v = .bool x ∧ R (.bool x) H' :=
  (works_run (hy.keep k)).mono fun v H' h => ⟨true, h.2, hR H' (k.trans h.1)⟩

theorem tail3_run {R : Value → Heap → Prop} (e : End H Hx a2 c5 a Za Zc pa pn pc ca cn cc oa on oc pa' pn' pc' ca' cn' cc' oa' on' oc' 1 2 1 2 1 1) (hy : Lyd H) (hR : ∀ H', Keep Nil H H' → R (.bool true) H') : tail3 a2 c5 Hx R := by
  have hW := works_end hy e.kp hR
  have hn : on = a.others.length := (lst_len (ks := ksRaw) e.P.r).1
  refine ⟨_, _, _, e.atA 12, IfB.intro (fun h0 => hW) fun h0 => ?_⟩
  have h0 : a.others.length ≠ 0 := fun h => by rw [hn, h] at h0; exact absurd h0 (by decide)
  obtain ⟨s, t, hs⟩ := ne_nil h0
  obtain ⟨b, o, v, w, rfl, hb, q1, q2, q3, q4⟩ := at_two (k1 := .int .i64) (k2 := kBytes) (xs := a.others) e.P.r (i := 0) (x := s) (by show a.others[0]? = some s; rw [hs]; rfl)
  have q4 : CellOk Za Hx kBytes s.2 w := q4
  obtain ⟨wa, wn, wc, rfl⟩ := lst_slice q4
  refine ⟨_, _, _, e.atA 12, NilP.intro _ rfl (InB.intro 0 rfl (by omega) ⟨_, _, _, q3, IfB.intro (fun h1 => hW) fun h1 => ?_⟩)⟩
  have hwn : wn = s.2.length := (lst_len (ks := [.int .u8]) q4).1
  have h1 : s.2.length ≠ 0 := fun h => by rw [hwn, h] at h1; exact absurd h1 (by decide)
  obtain ⟨x, r, hx⟩ := ne_nil h1
  obtain ⟨b', o', sa, sn, sc, rfl, p1, p2, p3⟩ := e.c3 s t hs
  obtain ⟨sb, so, rfl, hz, hu⟩ := p3 x r hx
  obtain ⟨n, hn2⟩ := hu.cell
  obtain ⟨b2, o2, v2, rfl, hb2, r1, r2⟩ := at_one (k := .int .u8) (xs := s.2) q4 (i := 0) (x := x) (by show s.2[0]? = some x; rw [hx]; rfl)
  have r2 : v2 = .int .u8 (x.toNat : Int) := by simp only [CellOk] at r2; exact r2.1
  subst r2
  have hn3 := e.n3
  refine ⟨_, _, _, e.atC 12, NilP.intro _ rfl (InB.intro 0 rfl (by omega) ⟨_, _, _, p1, NilP.intro _ rfl (InB.intro 0 rfl (by omega) ⟨n, hn2, ?_⟩)⟩)⟩
  refine ⟨_, _, _, e.atA 12, NilP.intro _ rfl (InB.intro 0 rfl (by omega) ⟨_, _, _, q3, NilP.intro _ rfl (InB.intro 0 rfl (by omega) ⟨_, r1, ?_⟩)⟩)⟩
  exact ifT (up_ne8 (UInt8.toNat_lt x) (by decide) hu hn2) hW
theorem tail2_run {R : Value → Heap → Prop} (e : End H Hx a2 c5 a Za Zc pa pn pc ca cn cc oa on oc pa' pn' pc' ca' cn' cc' oa' on' oc' 1 2 1 2 1 1) (hy : Lyd H) (hR : ∀ H', Keep Nil H H' → R (.bool true) H') : tail2 a2 c5 Hx R := by
  have hW : tail3 a2 c5 Hx R := tail3_run e hy hR
  have hn : pn = a.path.length := (lst_len (ks := ksSeg) e.P.p).1
  refine ⟨_, _, _, e.atA 1, IfB.intro (fun h0 => hW) fun h0 => ?_⟩
  have h0 : a.path.length ≠ 0 := fun h => by rw [hn, h] at h0; exact absurd h0 (by decide)
  obtain ⟨s, t, hs⟩ := ne_nil h0
  obtain ⟨b, o, v, w, rfl, hb, q1, q2, q3, q4⟩ := at_two (k1 := .bool) (k2 := kU32) (xs := a.path) e.P.p (i := 0) (x := s) (by show a.path[0]? = some s; rw [hs]; rfl)
  have q4 : CellOk Za Hx kU32 s.2 w := q4
  obtain ⟨wa, wn, wc, rfl⟩ := lst_slice q4
  refine ⟨_, _, _, e.atA 1, NilP.intro _ rfl (InB.intro 0 rfl (by omega) ⟨_, _, _, q3, IfB.intro (fun h1 => hW) fun h1 => ?_⟩)⟩
  have hwn : wn = s.2.length := (lst_len (ks := [.int .u32]) q4).1
  have h1 : s.2.length ≠ 0 := fun h => by rw [hwn, h] at h1; exact absurd h1 (by decide)
  obtain ⟨x, r, hx⟩ := ne_nil h1
  obtain ⟨b', o', sa, sn, sc, rfl, p1, p2, p3⟩ := e.c2 s t hs
  obtain ⟨sb, so, rfl, hz, hu⟩ := p3 x r hx
  obtain ⟨n, hn2⟩ := hu.cell
  obtain ⟨b2, o2, v2, rfl, hb2, r1, r2⟩ := at_one (k := .int .u32) (xs := s.2) q4 (i := 0) (x := x) (by show s.2[0]? = some x; rw [hx]; rfl)
  have r2 : v2 = .int .u32 (x.toNat : Int) := by simp only [CellOk] at r2; exact r2.1
  subst r2
  have hn3 := e.n2
  refine ⟨_, _, _, e.atC 1, NilP.intro _ rfl (InB.intro 0 rfl (by omega) ⟨_, _, _, p1, NilP.intro _ rfl (InB.intro 0 rfl (by omega) ⟨n, hn2, ?_⟩)⟩)⟩
  refine ⟨_, _, _, e.atA 1, NilP.intro _ rfl (InB.intro 0 rfl (by omega) ⟨_, _, _, q3, NilP.intro _ rfl (InB.intro 0 rfl (by omega) ⟨_, r1, ?_⟩)⟩)⟩
  exact ifT (up_ne32 (UInt32.toNat_lt x) (by decide) hu hn2) hW
theorem j5_run {R : Value → Heap → Prop} (e : End H Hx a2 c5 a Za Zc pa pn pc ca cn cc oa on oc pa' pn' pc' ca' cn' cc' oa' on' oc' 1 2 1 2 1 1) (hy : Lyd H) (hR : ∀ H', Keep Nil H H' → R (.bool true) H') : law20_AttrTells_j5 a2 c5 Hx R := by
  have hW : tail2 a2 c5 Hx R := tail2_run e hy hR
  have hn : cn = a.comms.length := (lst_len (ks := [.int .u32]) e.P.c).1
  refine ⟨_, _, _, e.atA 11, IfB.intro (fun h0 => hW) fun h0 => ?_⟩
  have h0 : a.comms.length ≠ 0 := fun h => by rw [hn, h] at h0; exact absurd h0 (by decide)
  obtain ⟨x, t, hs⟩ := ne_nil h0
  obtain ⟨b2, o2, v2, rfl, hb2, r1, r2⟩ := at_one (k := .int .u32) (xs := a.comms) e.P.c (i := 0) (x := x) (by show a.comms[0]? = some x; rw [hs]; rfl)
  have r2 : v2 = .int .u32 (x.toNat : Int) := by simp only [CellOk] at r2; exact r2.1
  subst r2
  obtain ⟨sb, so, rfl, hz, hu⟩ := e.c1 x t hs
  obtain ⟨n, hn2⟩ := hu.cell
  have hn3 := e.n1
  refine ⟨_, _, _, e.atC 11, NilP.intro _ rfl (InB.intro 0 rfl (by omega) ⟨n, hn2, ?_⟩)⟩
  refine ⟨_, _, _, e.atA 11, NilP.intro _ rfl (InB.intro 0 rfl (by omega) ⟨_, r1, ?_⟩)⟩
  exact ifT (up_ne32 (UInt32.toNat_lt x) (by decide) hu hn2) hW
end

end Go.Proofs.Ytomdgakmkihfhaa
