/-
  SOME FUNCTIONS IN PLAIN LOGIC: printed by a program of ours over this translation.
-/
import Derived.Test.YtomdgakmkihfhaaNum
import Derived.Test.YtomdgakmkihfhaaRows
set_option maxRecDepth 100000
set_option linter.unusedVariables false
namespace Go.Proofs.Ytomdgakmkihfhaa
open Go.Sh
def hplan_law20_AttrTells : Plan := ⟨[(1, [0, 2, 1, 3, 4, 5], [8]), (3, [0, 2, 5, 6, 1, 3, 4, 7, 8, 9, 10, 11, 12, 13, 14, 15, 16, 17, 18, 19, 20], [14, 17, 18])], [], [], []⟩
theorem hk_law20_AttrTells : Known Try.prog f_law20_AttrTells Try.f3 hplan_law20_AttrTells (bodyOf Try.f3) := ⟨Try.func3, by kernel_rfl, by kernel_rfl, by kernel_rfl, by kernel_rfl, by kernel_rfl⟩
def law20_AttrTells_j5 (a2b : Nat) (c5b : Nat) (H58 : Heap) (R : Value → Heap → Prop) : Prop :=
 ∃ (x88a : Option Addr) (x88n x88c : Nat), H58.cell ⟨a2b, 11, none⟩ = some (Value.slice x88a x88n x88c) ∧
 IfB (((x88n : Int) : Int) == 0)
 (∃ (x104a : Option Addr) (x104n x104c : Nat), H58.cell ⟨a2b, 1, none⟩ = some (Value.slice x104a x104n x104c) ∧
 IfB (((x104n : Int) : Int) == 0)
 (∃ (x136a : Option Addr) (x136n x136c : Nat), H58.cell ⟨a2b, 12, none⟩ = some (Value.slice x136a x136n x136c) ∧
 IfB (((x136n : Int) : Int) == 0)
 (FnW Try.prog f_law20_works ⟨[]⟩ H58 fun x167v H59 =>
 ∃ x167 : Bool, x167v = (Value.bool x167) ∧
 R (Value.bool x167) H59)
 (∃ (x141a : Option Addr) (x141n x141c : Nat), H58.cell ⟨a2b, 12, none⟩ = some (Value.slice x141a x141n x141c) ∧
 NilP x141a fun x142q =>
 InB 0 x141n fun x142i =>
 elemAt x142q x142i 2 fun x142p =>
 ∃ (x144a : Option Addr) (x144n x144c : Nat), H58.cell ⟨x142p.block, x142p.off + 1, none⟩ = some (Value.slice x144a x144n x144c) ∧
 IfB (((x144n : Int) : Int) == 0)
 (FnW Try.prog f_law20_works ⟨[]⟩ H58 fun x167v_1 H60 =>
 ∃ x167_1 : Bool, x167v_1 = (Value.bool x167_1) ∧
 R (Value.bool x167_1) H60)
 (∃ (x150a : Option Addr) (x150n x150c : Nat), H58.cell ⟨c5b, 12, none⟩ = some (Value.slice x150a x150n x150c) ∧
 NilP x150a fun x151q =>
 InB 0 x150n fun x151i =>
 elemAt x151q x151i 2 fun x151p =>
 ∃ (x153a : Option Addr) (x153n x153c : Nat), H58.cell ⟨x151p.block, x151p.off + 1, none⟩ = some (Value.slice x153a x153n x153c) ∧
 NilP x153a fun x154q =>
 InB 0 x153n fun x154i =>
 elemAt x154q x154i 1 fun x154p =>
 ∃ x155 : Int, H58.cell x154p = some (Value.int .u8 x155) ∧
 ∃ (x157a : Option Addr) (x157n x157c : Nat), H58.cell ⟨a2b, 12, none⟩ = some (Value.slice x157a x157n x157c) ∧
 NilP x157a fun x158q =>
 InB 0 x157n fun x158i =>
 elemAt x158q x158i 2 fun x158p =>
 ∃ (x160a : Option Addr) (x160n x160c : Nat), H58.cell ⟨x158p.block, x158p.off + 1, none⟩ = some (Value.slice x160a x160n x160c) ∧
 NilP x160a fun x161q =>
 InB 0 x160n fun x161i =>
 elemAt x161q x161i 1 fun x161p =>
 ∃ x162 : Int, H58.cell x161p = some (Value.int .u8 x162) ∧
 IfB ((x155 : Int) != x162)
 (FnW Try.prog f_law20_works ⟨[]⟩ H58 fun x167v_2 H61 =>
 ∃ x167_2 : Bool, x167v_2 = (Value.bool x167_2) ∧
 R (Value.bool x167_2) H61)
 (R (Value.bool false) H58))))
 (∃ (x109a : Option Addr) (x109n x109c : Nat), H58.cell ⟨a2b, 1, none⟩ = some (Value.slice x109a x109n x109c) ∧
 NilP x109a fun x110q =>
 InB 0 x109n fun x110i =>
 elemAt x110q x110i 2 fun x110p =>
 ∃ (x112a : Option Addr) (x112n x112c : Nat), H58.cell ⟨x110p.block, x110p.off + 1, none⟩ = some (Value.slice x112a x112n x112c) ∧
 IfB (((x112n : Int) : Int) == 0)
 (∃ (x136a_1 : Option Addr) (x136n_1 x136c_1 : Nat), H58.cell ⟨a2b, 12, none⟩ = some (Value.slice x136a_1 x136n_1 x136c_1) ∧
 IfB (((x136n_1 : Int) : Int) == 0)
 (FnW Try.prog f_law20_works ⟨[]⟩ H58 fun x167v_3 H62 =>
 ∃ x167_3 : Bool, x167v_3 = (Value.bool x167_3) ∧
 R (Value.bool x167_3) H62)
 (∃ (x141a_1 : Option Addr) (x141n_1 x141c_1 : Nat), H58.cell ⟨a2b, 12, none⟩ = some (Value.slice x141a_1 x141n_1 x141c_1) ∧
 NilP x141a_1 fun x142q_1 =>
 InB 0 x141n_1 fun x142i_1 =>
 elemAt x142q_1 x142i_1 2 fun x142p_1 =>
 ∃ (x144a_1 : Option Addr) (x144n_1 x144c_1 : Nat), H58.cell ⟨x142p_1.block, x142p_1.off + 1, none⟩ = some (Value.slice x144a_1 x144n_1 x144c_1) ∧
 IfB (((x144n_1 : Int) : Int) == 0)
 (FnW Try.prog f_law20_works ⟨[]⟩ H58 fun x167v_4 H63 =>
 ∃ x167_4 : Bool, x167v_4 = (Value.bool x167_4) ∧
 R (Value.bool x167_4) H63)
 (∃ (x150a_1 : Option Addr) (x150n_1 x150c_1 : Nat), H58.cell ⟨c5b, 12, none⟩ = some (Value.slice x150a_1 x150n_1 x150c_1) ∧
 NilP x150a_1 fun x151q_1 =>
 InB 0 x150n_1 fun x151i_1 =>
 elemAt x151q_1 x151i_1 2 fun x151p_1 =>
 ∃ (x153a_1 : Option Addr) (x153n_1 x153c_1 : Nat), H58.cell ⟨x151p_1.block, x151p_1.off + 1, none⟩ = some (Value.slice x153a_1 x153n_1 x153c_1) ∧
 NilP x153a_1 fun x154q_1 =>
 InB 0 x153n_1 fun x154i_1 =>
 elemAt x154q_1 x154i_1 1 fun x154p_1 =>
 ∃ x155_1 : Int, H58.cell x154p_1 = some (Value.int .u8 x155_1) ∧
 ∃ (x157a_1 : Option Addr) (x157n_1 x157c_1 : Nat), H58.cell ⟨a2b, 12, none⟩ = some (Value.slice x157a_1 x157n_1 x157c_1) ∧
 NilP x157a_1 fun x158q_1 =>
 InB 0 x157n_1 fun x158i_1 =>
 elemAt x158q_1 x158i_1 2 fun x158p_1 =>
 ∃ (x160a_1 : Option Addr) (x160n_1 x160c_1 : Nat), H58.cell ⟨x158p_1.block, x158p_1.off + 1, none⟩ = some (Value.slice x160a_1 x160n_1 x160c_1) ∧
 NilP x160a_1 fun x161q_1 =>
 InB 0 x160n_1 fun x161i_1 =>
 elemAt x161q_1 x161i_1 1 fun x161p_1 =>
 ∃ x162_1 : Int, H58.cell x161p_1 = some (Value.int .u8 x162_1) ∧
 IfB ((x155_1 : Int) != x162_1)
 (FnW Try.prog f_law20_works ⟨[]⟩ H58 fun x167v_5 H64 =>
 ∃ x167_5 : Bool, x167v_5 = (Value.bool x167_5) ∧
 R (Value.bool x167_5) H64)
 (R (Value.bool false) H58))))
 (∃ (x118a : Option Addr) (x118n x118c : Nat), H58.cell ⟨c5b, 1, none⟩ = some (Value.slice x118a x118n x118c) ∧
 NilP x118a fun x119q =>
 InB 0 x118n fun x119i =>
 elemAt x119q x119i 2 fun x119p =>
 ∃ (x121a : Option Addr) (x121n x121c : Nat), H58.cell ⟨x119p.block, x119p.off + 1, none⟩ = some (Value.slice x121a x121n x121c) ∧
 NilP x121a fun x122q =>
 InB 0 x121n fun x122i =>
 elemAt x122q x122i 1 fun x122p =>
 ∃ x123 : Int, H58.cell x122p = some (Value.int .u32 x123) ∧
 ∃ (x125a : Option Addr) (x125n x125c : Nat), H58.cell ⟨a2b, 1, none⟩ = some (Value.slice x125a x125n x125c) ∧
 NilP x125a fun x126q =>
 InB 0 x125n fun x126i =>
 elemAt x126q x126i 2 fun x126p =>
 ∃ (x128a : Option Addr) (x128n x128c : Nat), H58.cell ⟨x126p.block, x126p.off + 1, none⟩ = some (Value.slice x128a x128n x128c) ∧
 NilP x128a fun x129q =>
 InB 0 x128n fun x129i =>
 elemAt x129q x129i 1 fun x129p =>
 ∃ x130 : Int, H58.cell x129p = some (Value.int .u32 x130) ∧
 IfB ((x123 : Int) != x130)
 (∃ (x136a_2 : Option Addr) (x136n_2 x136c_2 : Nat), H58.cell ⟨a2b, 12, none⟩ = some (Value.slice x136a_2 x136n_2 x136c_2) ∧
 IfB (((x136n_2 : Int) : Int) == 0)
 (FnW Try.prog f_law20_works ⟨[]⟩ H58 fun x167v_6 H65 =>
 ∃ x167_6 : Bool, x167v_6 = (Value.bool x167_6) ∧
 R (Value.bool x167_6) H65)
 (∃ (x141a_2 : Option Addr) (x141n_2 x141c_2 : Nat), H58.cell ⟨a2b, 12, none⟩ = some (Value.slice x141a_2 x141n_2 x141c_2) ∧
 NilP x141a_2 fun x142q_2 =>
 InB 0 x141n_2 fun x142i_2 =>
 elemAt x142q_2 x142i_2 2 fun x142p_2 =>
 ∃ (x144a_2 : Option Addr) (x144n_2 x144c_2 : Nat), H58.cell ⟨x142p_2.block, x142p_2.off + 1, none⟩ = some (Value.slice x144a_2 x144n_2 x144c_2) ∧
 IfB (((x144n_2 : Int) : Int) == 0)
 (FnW Try.prog f_law20_works ⟨[]⟩ H58 fun x167v_7 H66 =>
 ∃ x167_7 : Bool, x167v_7 = (Value.bool x167_7) ∧
 R (Value.bool x167_7) H66)
 (∃ (x150a_2 : Option Addr) (x150n_2 x150c_2 : Nat), H58.cell ⟨c5b, 12, none⟩ = some (Value.slice x150a_2 x150n_2 x150c_2) ∧
 NilP x150a_2 fun x151q_2 =>
 InB 0 x150n_2 fun x151i_2 =>
 elemAt x151q_2 x151i_2 2 fun x151p_2 =>
 ∃ (x153a_2 : Option Addr) (x153n_2 x153c_2 : Nat), H58.cell ⟨x151p_2.block, x151p_2.off + 1, none⟩ = some (Value.slice x153a_2 x153n_2 x153c_2) ∧
 NilP x153a_2 fun x154q_2 =>
 InB 0 x153n_2 fun x154i_2 =>
 elemAt x154q_2 x154i_2 1 fun x154p_2 =>
 ∃ x155_2 : Int, H58.cell x154p_2 = some (Value.int .u8 x155_2) ∧
 ∃ (x157a_2 : Option Addr) (x157n_2 x157c_2 : Nat), H58.cell ⟨a2b, 12, none⟩ = some (Value.slice x157a_2 x157n_2 x157c_2) ∧
 NilP x157a_2 fun x158q_2 =>
 InB 0 x157n_2 fun x158i_2 =>
 elemAt x158q_2 x158i_2 2 fun x158p_2 =>
 ∃ (x160a_2 : Option Addr) (x160n_2 x160c_2 : Nat), H58.cell ⟨x158p_2.block, x158p_2.off + 1, none⟩ = some (Value.slice x160a_2 x160n_2 x160c_2) ∧
 NilP x160a_2 fun x161q_2 =>
 InB 0 x160n_2 fun x161i_2 =>
 elemAt x161q_2 x161i_2 1 fun x161p_2 =>
 ∃ x162_2 : Int, H58.cell x161p_2 = some (Value.int .u8 x162_2) ∧
 IfB ((x155_2 : Int) != x162_2)
 (FnW Try.prog f_law20_works ⟨[]⟩ H58 fun x167v_8 H67 =>
 ∃ x167_8 : Bool, x167v_8 = (Value.bool x167_8) ∧
 R (Value.bool x167_8) H67)
 (R (Value.bool false) H58))))
 (R (Value.bool false) H58))))
 (∃ (x93a : Option Addr) (x93n x93c : Nat), H58.cell ⟨c5b, 11, none⟩ = some (Value.slice x93a x93n x93c) ∧
 NilP x93a fun x94q =>
 InB 0 x93n fun x94i =>
 elemAt x94q x94i 1 fun x94p =>
 ∃ x95 : Int, H58.cell x94p = some (Value.int .u32 x95) ∧
 ∃ (x97a : Option Addr) (x97n x97c : Nat), H58.cell ⟨a2b, 11, none⟩ = some (Value.slice x97a x97n x97c) ∧
 NilP x97a fun x98q =>
 InB 0 x97n fun x98i =>
 elemAt x98q x98i 1 fun x98p =>
 ∃ x99 : Int, H58.cell x98p = some (Value.int .u32 x99) ∧
 IfB ((x95 : Int) != x99)
 (∃ (x104a_1 : Option Addr) (x104n_1 x104c_1 : Nat), H58.cell ⟨a2b, 1, none⟩ = some (Value.slice x104a_1 x104n_1 x104c_1) ∧
 IfB (((x104n_1 : Int) : Int) == 0)
 (∃ (x136a_3 : Option Addr) (x136n_3 x136c_3 : Nat), H58.cell ⟨a2b, 12, none⟩ = some (Value.slice x136a_3 x136n_3 x136c_3) ∧
 IfB (((x136n_3 : Int) : Int) == 0)
 (FnW Try.prog f_law20_works ⟨[]⟩ H58 fun x167v_9 H68 =>
 ∃ x167_9 : Bool, x167v_9 = (Value.bool x167_9) ∧
 R (Value.bool x167_9) H68)
 (∃ (x141a_3 : Option Addr) (x141n_3 x141c_3 : Nat), H58.cell ⟨a2b, 12, none⟩ = some (Value.slice x141a_3 x141n_3 x141c_3) ∧
 NilP x141a_3 fun x142q_3 =>
 InB 0 x141n_3 fun x142i_3 =>
 elemAt x142q_3 x142i_3 2 fun x142p_3 =>
 ∃ (x144a_3 : Option Addr) (x144n_3 x144c_3 : Nat), H58.cell ⟨x142p_3.block, x142p_3.off + 1, none⟩ = some (Value.slice x144a_3 x144n_3 x144c_3) ∧
 IfB (((x144n_3 : Int) : Int) == 0)
 (FnW Try.prog f_law20_works ⟨[]⟩ H58 fun x167v_10 H69 =>
 ∃ x167_10 : Bool, x167v_10 = (Value.bool x167_10) ∧
 R (Value.bool x167_10) H69)
 (∃ (x150a_3 : Option Addr) (x150n_3 x150c_3 : Nat), H58.cell ⟨c5b, 12, none⟩ = some (Value.slice x150a_3 x150n_3 x150c_3) ∧
 NilP x150a_3 fun x151q_3 =>
 InB 0 x150n_3 fun x151i_3 =>
 elemAt x151q_3 x151i_3 2 fun x151p_3 =>
 ∃ (x153a_3 : Option Addr) (x153n_3 x153c_3 : Nat), H58.cell ⟨x151p_3.block, x151p_3.off + 1, none⟩ = some (Value.slice x153a_3 x153n_3 x153c_3) ∧
 NilP x153a_3 fun x154q_3 =>
 InB 0 x153n_3 fun x154i_3 =>
 elemAt x154q_3 x154i_3 1 fun x154p_3 =>
 ∃ x155_3 : Int, H58.cell x154p_3 = some (Value.int .u8 x155_3) ∧
 ∃ (x157a_3 : Option Addr) (x157n_3 x157c_3 : Nat), H58.cell ⟨a2b, 12, none⟩ = some (Value.slice x157a_3 x157n_3 x157c_3) ∧
 NilP x157a_3 fun x158q_3 =>
 InB 0 x157n_3 fun x158i_3 =>
 elemAt x158q_3 x158i_3 2 fun x158p_3 =>
 ∃ (x160a_3 : Option Addr) (x160n_3 x160c_3 : Nat), H58.cell ⟨x158p_3.block, x158p_3.off + 1, none⟩ = some (Value.slice x160a_3 x160n_3 x160c_3) ∧
 NilP x160a_3 fun x161q_3 =>
 InB 0 x160n_3 fun x161i_3 =>
 elemAt x161q_3 x161i_3 1 fun x161p_3 =>
 ∃ x162_3 : Int, H58.cell x161p_3 = some (Value.int .u8 x162_3) ∧
 IfB ((x155_3 : Int) != x162_3)
 (FnW Try.prog f_law20_works ⟨[]⟩ H58 fun x167v_11 H70 =>
 ∃ x167_11 : Bool, x167v_11 = (Value.bool x167_11) ∧
 R (Value.bool x167_11) H70)
 (R (Value.bool false) H58))))
 (∃ (x109a_1 : Option Addr) (x109n_1 x109c_1 : Nat), H58.cell ⟨a2b, 1, none⟩ = some (Value.slice x109a_1 x109n_1 x109c_1) ∧
 NilP x109a_1 fun x110q_1 =>
 InB 0 x109n_1 fun x110i_1 =>
 elemAt x110q_1 x110i_1 2 fun x110p_1 =>
 ∃ (x112a_1 : Option Addr) (x112n_1 x112c_1 : Nat), H58.cell ⟨x110p_1.block, x110p_1.off + 1, none⟩ = some (Value.slice x112a_1 x112n_1 x112c_1) ∧
 IfB (((x112n_1 : Int) : Int) == 0)
 (∃ (x136a_4 : Option Addr) (x136n_4 x136c_4 : Nat), H58.cell ⟨a2b, 12, none⟩ = some (Value.slice x136a_4 x136n_4 x136c_4) ∧
 IfB (((x136n_4 : Int) : Int) == 0)
 (FnW Try.prog f_law20_works ⟨[]⟩ H58 fun x167v_12 H71 =>
 ∃ x167_12 : Bool, x167v_12 = (Value.bool x167_12) ∧
 R (Value.bool x167_12) H71)
 (∃ (x141a_4 : Option Addr) (x141n_4 x141c_4 : Nat), H58.cell ⟨a2b, 12, none⟩ = some (Value.slice x141a_4 x141n_4 x141c_4) ∧
 NilP x141a_4 fun x142q_4 =>
 InB 0 x141n_4 fun x142i_4 =>
 elemAt x142q_4 x142i_4 2 fun x142p_4 =>
 ∃ (x144a_4 : Option Addr) (x144n_4 x144c_4 : Nat), H58.cell ⟨x142p_4.block, x142p_4.off + 1, none⟩ = some (Value.slice x144a_4 x144n_4 x144c_4) ∧
 IfB (((x144n_4 : Int) : Int) == 0)
 (FnW Try.prog f_law20_works ⟨[]⟩ H58 fun x167v_13 H72 =>
 ∃ x167_13 : Bool, x167v_13 = (Value.bool x167_13) ∧
 R (Value.bool x167_13) H72)
 (∃ (x150a_4 : Option Addr) (x150n_4 x150c_4 : Nat), H58.cell ⟨c5b, 12, none⟩ = some (Value.slice x150a_4 x150n_4 x150c_4) ∧
 NilP x150a_4 fun x151q_4 =>
 InB 0 x150n_4 fun x151i_4 =>
 elemAt x151q_4 x151i_4 2 fun x151p_4 =>
 ∃ (x153a_4 : Option Addr) (x153n_4 x153c_4 : Nat), H58.cell ⟨x151p_4.block, x151p_4.off + 1, none⟩ = some (Value.slice x153a_4 x153n_4 x153c_4) ∧
 NilP x153a_4 fun x154q_4 =>
 InB 0 x153n_4 fun x154i_4 =>
 elemAt x154q_4 x154i_4 1 fun x154p_4 =>
 ∃ x155_4 : Int, H58.cell x154p_4 = some (Value.int .u8 x155_4) ∧
 ∃ (x157a_4 : Option Addr) (x157n_4 x157c_4 : Nat), H58.cell ⟨a2b, 12, none⟩ = some (Value.slice x157a_4 x157n_4 x157c_4) ∧
 NilP x157a_4 fun x158q_4 =>
 InB 0 x157n_4 fun x158i_4 =>
 elemAt x158q_4 x158i_4 2 fun x158p_4 =>
 ∃ (x160a_4 : Option Addr) (x160n_4 x160c_4 : Nat), H58.cell ⟨x158p_4.block, x158p_4.off + 1, none⟩ = some (Value.slice x160a_4 x160n_4 x160c_4) ∧
 NilP x160a_4 fun x161q_4 =>
 InB 0 x160n_4 fun x161i_4 =>
 elemAt x161q_4 x161i_4 1 fun x161p_4 =>
 ∃ x162_4 : Int, H58.cell x161p_4 = some (Value.int .u8 x162_4) ∧
 IfB ((x155_4 : Int) != x162_4)
 (FnW Try.prog f_law20_works ⟨[]⟩ H58 fun x167v_14 H73 =>
 ∃ x167_14 : Bool, x167v_14 = (Value.bool x167_14) ∧
 R (Value.bool x167_14) H73)
 (R (Value.bool false) H58))))
 (∃ (x118a_1 : Option Addr) (x118n_1 x118c_1 : Nat), H58.cell ⟨c5b, 1, none⟩ = some (Value.slice x118a_1 x118n_1 x118c_1) ∧
 NilP x118a_1 fun x119q_1 =>
 InB 0 x118n_1 fun x119i_1 =>
 elemAt x119q_1 x119i_1 2 fun x119p_1 =>
 ∃ (x121a_1 : Option Addr) (x121n_1 x121c_1 : Nat), H58.cell ⟨x119p_1.block, x119p_1.off + 1, none⟩ = some (Value.slice x121a_1 x121n_1 x121c_1) ∧
 NilP x121a_1 fun x122q_1 =>
 InB 0 x121n_1 fun x122i_1 =>
 elemAt x122q_1 x122i_1 1 fun x122p_1 =>
 ∃ x123_1 : Int, H58.cell x122p_1 = some (Value.int .u32 x123_1) ∧
 ∃ (x125a_1 : Option Addr) (x125n_1 x125c_1 : Nat), H58.cell ⟨a2b, 1, none⟩ = some (Value.slice x125a_1 x125n_1 x125c_1) ∧
 NilP x125a_1 fun x126q_1 =>
 InB 0 x125n_1 fun x126i_1 =>
 elemAt x126q_1 x126i_1 2 fun x126p_1 =>
 ∃ (x128a_1 : Option Addr) (x128n_1 x128c_1 : Nat), H58.cell ⟨x126p_1.block, x126p_1.off + 1, none⟩ = some (Value.slice x128a_1 x128n_1 x128c_1) ∧
 NilP x128a_1 fun x129q_1 =>
 InB 0 x128n_1 fun x129i_1 =>
 elemAt x129q_1 x129i_1 1 fun x129p_1 =>
 ∃ x130_1 : Int, H58.cell x129p_1 = some (Value.int .u32 x130_1) ∧
 IfB ((x123_1 : Int) != x130_1)
 (∃ (x136a_5 : Option Addr) (x136n_5 x136c_5 : Nat), H58.cell ⟨a2b, 12, none⟩ = some (Value.slice x136a_5 x136n_5 x136c_5) ∧
 IfB (((x136n_5 : Int) : Int) == 0)
 (FnW Try.prog f_law20_works ⟨[]⟩ H58 fun x167v_15 H74 =>
 ∃ x167_15 : Bool, x167v_15 = (Value.bool x167_15) ∧
 R (Value.bool x167_15) H74)
 (∃ (x141a_5 : Option Addr) (x141n_5 x141c_5 : Nat), H58.cell ⟨a2b, 12, none⟩ = some (Value.slice x141a_5 x141n_5 x141c_5) ∧
 NilP x141a_5 fun x142q_5 =>
 InB 0 x141n_5 fun x142i_5 =>
 elemAt x142q_5 x142i_5 2 fun x142p_5 =>
 ∃ (x144a_5 : Option Addr) (x144n_5 x144c_5 : Nat), H58.cell ⟨x142p_5.block, x142p_5.off + 1, none⟩ = some (Value.slice x144a_5 x144n_5 x144c_5) ∧
 IfB (((x144n_5 : Int) : Int) == 0)
 (FnW Try.prog f_law20_works ⟨[]⟩ H58 fun x167v_16 H75 =>
 ∃ x167_16 : Bool, x167v_16 = (Value.bool x167_16) ∧
 R (Value.bool x167_16) H75)
 (∃ (x150a_5 : Option Addr) (x150n_5 x150c_5 : Nat), H58.cell ⟨c5b, 12, none⟩ = some (Value.slice x150a_5 x150n_5 x150c_5) ∧
 NilP x150a_5 fun x151q_5 =>
 InB 0 x150n_5 fun x151i_5 =>
 elemAt x151q_5 x151i_5 2 fun x151p_5 =>
 ∃ (x153a_5 : Option Addr) (x153n_5 x153c_5 : Nat), H58.cell ⟨x151p_5.block, x151p_5.off + 1, none⟩ = some (Value.slice x153a_5 x153n_5 x153c_5) ∧
 NilP x153a_5 fun x154q_5 =>
 InB 0 x153n_5 fun x154i_5 =>
 elemAt x154q_5 x154i_5 1 fun x154p_5 =>
 ∃ x155_5 : Int, H58.cell x154p_5 = some (Value.int .u8 x155_5) ∧
 ∃ (x157a_5 : Option Addr) (x157n_5 x157c_5 : Nat), H58.cell ⟨a2b, 12, none⟩ = some (Value.slice x157a_5 x157n_5 x157c_5) ∧
 NilP x157a_5 fun x158q_5 =>
 InB 0 x157n_5 fun x158i_5 =>
 elemAt x158q_5 x158i_5 2 fun x158p_5 =>
 ∃ (x160a_5 : Option Addr) (x160n_5 x160c_5 : Nat), H58.cell ⟨x158p_5.block, x158p_5.off + 1, none⟩ = some (Value.slice x160a_5 x160n_5 x160c_5) ∧
 NilP x160a_5 fun x161q_5 =>
 InB 0 x160n_5 fun x161i_5 =>
 elemAt x161q_5 x161i_5 1 fun x161p_5 =>
 ∃ x162_5 : Int, H58.cell x161p_5 = some (Value.int .u8 x162_5) ∧
 IfB ((x155_5 : Int) != x162_5)
 (FnW Try.prog f_law20_works ⟨[]⟩ H58 fun x167v_17 H76 =>
 ∃ x167_17 : Bool, x167v_17 = (Value.bool x167_17) ∧
 R (Value.bool x167_17) H76)
 (R (Value.bool false) H58))))
 (R (Value.bool false) H58))))
 (R (Value.bool false) H58))
def law20_AttrTells_j4 (a2b : Nat) (c5b : Nat) (x77 : Bool) (H56 : Heap) (R : Value → Heap → Prop) : Prop :=
 IfB x77
 (∃ (x79a : Option Addr) (x79n x79c : Nat), H56.cell ⟨c5b, 12, none⟩ = some (Value.slice x79a x79n x79c) ∧
 NilP x79a fun x80q =>
 InB 0 x79n fun x80i =>
 elemAt x80q x80i 2 fun x80p =>
 ∃ (x82a : Option Addr) (x82n x82c : Nat), H56.cell ⟨x80p.block, x80p.off + 1, none⟩ = some (Value.slice x82a x82n x82c) ∧
 NilP x82a fun x83q =>
 InB 0 x82n fun x83i =>
 elemAt x83q x83i 1 fun x83p =>
 ∃ x84 : Int, H56.cell x83p = some (Value.int .u8 x84) ∧
 NilP x82a fun x86q =>
 InB 0 x82n fun x86i =>
 elemAt x86q x86i 1 fun x86p =>
 StCell H56 x86p (Value.int .u8 (IntKind.wrap .u8 (x84 + 1))) fun H57 =>
 law20_AttrTells_j5 a2b c5b H57 R)
 (law20_AttrTells_j5 a2b c5b H56 R)
def law20_AttrTells_j3 (a2b : Nat) (c5b : Nat) (H55 : Heap) (R : Value → Heap → Prop) : Prop :=
 ∃ (x66a : Option Addr) (x66n x66c : Nat), H55.cell ⟨c5b, 12, none⟩ = some (Value.slice x66a x66n x66c) ∧
 IfB (decide (((x66n : Int) : Int) > 0))
 (∃ (x71a : Option Addr) (x71n x71c : Nat), H55.cell ⟨c5b, 12, none⟩ = some (Value.slice x71a x71n x71c) ∧
 NilP x71a fun x72q =>
 InB 0 x71n fun x72i =>
 elemAt x72q x72i 2 fun x72p =>
 ∃ (x74a : Option Addr) (x74n x74c : Nat), H55.cell ⟨x72p.block, x72p.off + 1, none⟩ = some (Value.slice x74a x74n x74c) ∧
 law20_AttrTells_j4 a2b c5b (decide (((x74n : Int) : Int) > 0)) H55 R)
 (law20_AttrTells_j4 a2b c5b false H55 R)
def law20_AttrTells_j2 (a2b : Nat) (c5b : Nat) (x55 : Bool) (H53 : Heap) (R : Value → Heap → Prop) : Prop :=
 IfB x55
 (∃ (x57a : Option Addr) (x57n x57c : Nat), H53.cell ⟨c5b, 1, none⟩ = some (Value.slice x57a x57n x57c) ∧
 NilP x57a fun x58q =>
 InB 0 x57n fun x58i =>
 elemAt x58q x58i 2 fun x58p =>
 ∃ (x60a : Option Addr) (x60n x60c : Nat), H53.cell ⟨x58p.block, x58p.off + 1, none⟩ = some (Value.slice x60a x60n x60c) ∧
 NilP x60a fun x61q =>
 InB 0 x60n fun x61i =>
 elemAt x61q x61i 1 fun x61p =>
 ∃ x62 : Int, H53.cell x61p = some (Value.int .u32 x62) ∧
 NilP x60a fun x64q =>
 InB 0 x60n fun x64i =>
 elemAt x64q x64i 1 fun x64p =>
 StCell H53 x64p (Value.int .u32 (IntKind.wrap .u32 (x62 + 1))) fun H54 =>
 law20_AttrTells_j3 a2b c5b H54 R)
 (law20_AttrTells_j3 a2b c5b H53 R)
def law20_AttrTells_j1 (a2b : Nat) (c5b : Nat) (H52 : Heap) (R : Value → Heap → Prop) : Prop :=
 ∃ (x44a : Option Addr) (x44n x44c : Nat), H52.cell ⟨c5b, 1, none⟩ = some (Value.slice x44a x44n x44c) ∧
 IfB (decide (((x44n : Int) : Int) > 0))
 (∃ (x49a : Option Addr) (x49n x49c : Nat), H52.cell ⟨c5b, 1, none⟩ = some (Value.slice x49a x49n x49c) ∧
 NilP x49a fun x50q =>
 InB 0 x49n fun x50i =>
 elemAt x50q x50i 2 fun x50p =>
 ∃ (x52a : Option Addr) (x52n x52c : Nat), H52.cell ⟨x50p.block, x50p.off + 1, none⟩ = some (Value.slice x52a x52n x52c) ∧
 law20_AttrTells_j2 a2b c5b (decide (((x52n : Int) : Int) > 0)) H52 R)
 (law20_AttrTells_j2 a2b c5b false H52 R)
def law20_AttrTells_j0 (a2b : Nat) (c5b : Nat) (x32 : Bool) (H50 : Heap) (R : Value → Heap → Prop) : Prop :=
 IfB x32
 (R (Value.bool false) H50)
 (∃ (x34a : Option Addr) (x34n x34c : Nat), H50.cell ⟨c5b, 11, none⟩ = some (Value.slice x34a x34n x34c) ∧
 IfB (decide (((x34n : Int) : Int) > 0))
 (∃ (x38a : Option Addr) (x38n x38c : Nat), H50.cell ⟨c5b, 11, none⟩ = some (Value.slice x38a x38n x38c) ∧
 NilP x38a fun x39q =>
 InB 0 x38n fun x39i =>
 elemAt x39q x39i 1 fun x39p =>
 ∃ x40 : Int, H50.cell x39p = some (Value.int .u32 x40) ∧
 NilP x38a fun x42q =>
 InB 0 x38n fun x42i =>
 elemAt x42q x42i 1 fun x42p =>
 StCell H50 x42p (Value.int .u32 (IntKind.wrap .u32 (x40 + 1))) fun H51 =>
 law20_AttrTells_j1 a2b c5b H51 R)
 (law20_AttrTells_j1 a2b c5b H50 R))
def law20_AttrTells_p (a0c0 : Int) (a0c1a : Option Addr) (a0c1n : Nat) (a0c1c : Nat) (a0c2 : Int) (a0c3 : Bool) (a0c4 : Int) (a0c5 : Bool) (a0c6 : Int) (a0c7 : Bool) (a0c8 : Bool) (a0c9 : Int) (a0c10 : Int) (a0c11a : Option Addr) (a0c11n : Nat) (a0c11c : Nat) (a0c12a : Option Addr) (a0c12n : Nat) (a0c12c : Nat) (b1c0 : Int) (b1c1a : Option Addr) (b1c1n : Nat) (b1c1c : Nat) (b1c2 : Int) (b1c3 : Bool) (b1c4 : Int) (b1c5 : Bool) (b1c6 : Int) (b1c7 : Bool) (b1c8 : Bool) (b1c9 : Int) (b1c10 : Int) (b1c11a : Option Addr) (b1c11n : Nat) (b1c11c : Nat) (b1c12a : Option Addr) (b1c12n : Nat) (b1c12c : Nat) (H : Heap) (R : Value → Heap → Prop) : Prop :=
 NewW H (Obj.cells ⟨[(Value.int .i64 a0c0), (Value.slice a0c1a a0c1n a0c1c), (Value.int .u32 a0c2), (Value.bool a0c3), (Value.int .u32 a0c4), (Value.bool a0c5), (Value.int .u32 a0c6), (Value.bool a0c7), (Value.bool a0c8), (Value.int .u32 a0c9), (Value.int .u32 a0c10), (Value.slice a0c11a a0c11n a0c11c), (Value.slice a0c12a a0c12n a0c12c)]⟩ T_api_Attrs) fun a2b H1 =>
 NewW H1 (Obj.cells ⟨[(Value.int .i64 b1c0), (Value.slice b1c1a b1c1n b1c1c), (Value.int .u32 b1c2), (Value.bool b1c3), (Value.int .u32 b1c4), (Value.bool b1c5), (Value.int .u32 b1c6), (Value.bool b1c7), (Value.bool b1c8), (Value.int .u32 b1c9), (Value.int .u32 b1c10), (Value.slice b1c11a b1c11n b1c11c), (Value.slice b1c12a b1c12n b1c12c)]⟩ T_api_Attrs) fun b3b H2 =>
 ∃ bs : List Nat, (∀ b ∈ bs, ∃ o, H2 b = some o) ∧
 ∃ x6c0 : Int, H2.cell ⟨a2b, 0, none⟩ = some (Value.int .i64 x6c0) ∧ ∃ (x6c1a : Option Addr) (x6c1n x6c1c : Nat), H2.cell ⟨a2b, 1, none⟩ = some (Value.slice x6c1a x6c1n x6c1c) ∧ ∃ x6c2 : Int, H2.cell ⟨a2b, 2, none⟩ = some (Value.int .u32 x6c2) ∧ ∃ x6c3 : Bool, H2.cell ⟨a2b, 3, none⟩ = some (Value.bool x6c3) ∧ ∃ x6c4 : Int, H2.cell ⟨a2b, 4, none⟩ = some (Value.int .u32 x6c4) ∧ ∃ x6c5 : Bool, H2.cell ⟨a2b, 5, none⟩ = some (Value.bool x6c5) ∧ ∃ x6c6 : Int, H2.cell ⟨a2b, 6, none⟩ = some (Value.int .u32 x6c6) ∧ ∃ x6c7 : Bool, H2.cell ⟨a2b, 7, none⟩ = some (Value.bool x6c7) ∧ ∃ x6c8 : Bool, H2.cell ⟨a2b, 8, none⟩ = some (Value.bool x6c8) ∧ ∃ x6c9 : Int, H2.cell ⟨a2b, 9, none⟩ = some (Value.int .u32 x6c9) ∧ ∃ x6c10 : Int, H2.cell ⟨a2b, 10, none⟩ = some (Value.int .u32 x6c10) ∧ ∃ (x6c11a : Option Addr) (x6c11n x6c11c : Nat), H2.cell ⟨a2b, 11, none⟩ = some (Value.slice x6c11a x6c11n x6c11c) ∧ ∃ (x6c12a : Option Addr) (x6c12n x6c12c : Nat), H2.cell ⟨a2b, 12, none⟩ = some (Value.slice x6c12a x6c12n x6c12c) ∧ b3b ∈ bs ∧ ∃ x8c0 : Int, H2.cell ⟨b3b, 0, none⟩ = some (Value.int .i64 x8c0) ∧ ∃ (x8c1a : Option Addr) (x8c1n x8c1c : Nat), H2.cell ⟨b3b, 1, none⟩ = some (Value.slice x8c1a x8c1n x8c1c) ∧ ∃ x8c2 : Int, H2.cell ⟨b3b, 2, none⟩ = some (Value.int .u32 x8c2) ∧ ∃ x8c3 : Bool, H2.cell ⟨b3b, 3, none⟩ = some (Value.bool x8c3) ∧ ∃ x8c4 : Int, H2.cell ⟨b3b, 4, none⟩ = some (Value.int .u32 x8c4) ∧ ∃ x8c5 : Bool, H2.cell ⟨b3b, 5, none⟩ = some (Value.bool x8c5) ∧ ∃ x8c6 : Int, H2.cell ⟨b3b, 6, none⟩ = some (Value.int .u32 x8c6) ∧ ∃ x8c7 : Bool, H2.cell ⟨b3b, 7, none⟩ = some (Value.bool x8c7) ∧ ∃ x8c8 : Bool, H2.cell ⟨b3b, 8, none⟩ = some (Value.bool x8c8) ∧ ∃ x8c9 : Int, H2.cell ⟨b3b, 9, none⟩ = some (Value.int .u32 x8c9) ∧ ∃ x8c10 : Int, H2.cell ⟨b3b, 10, none⟩ = some (Value.int .u32 x8c10) ∧ ∃ (x8c11a : Option Addr) (x8c11n x8c11c : Nat), H2.cell ⟨b3b, 11, none⟩ = some (Value.slice x8c11a x8c11n x8c11c) ∧ ∃ (x8c12a : Option Addr) (x8c12n x8c12c : Nat), H2.cell ⟨b3b, 12, none⟩ = some (Value.slice x8c12a x8c12n x8c12c) ∧ FnW Try.prog f_law20_few ⟨[(Value.agg ⟨[(Value.int .i64 x6c0), (Value.slice x6c1a x6c1n x6c1c), (Value.int .u32 x6c2), (Value.bool x6c3), (Value.int .u32 x6c4), (Value.bool x6c5), (Value.int .u32 x6c6), (Value.bool x6c7), (Value.bool x6c8), (Value.int .u32 x6c9), (Value.int .u32 x6c10), (Value.slice x6c11a x6c11n x6c11c), (Value.slice x6c12a x6c12n x6c12c)]⟩)]⟩ H2 fun x7v H3 =>
 ∃ x7c0 : Int, ∃ (x7c1a : Option Addr) (x7c1n x7c1c : Nat), ∃ x7c2 : Int, ∃ x7c3 : Bool, ∃ x7c4 : Int, ∃ x7c5 : Bool, ∃ x7c6 : Int, ∃ x7c7 : Bool, ∃ x7c8 : Bool, ∃ x7c9 : Int, ∃ x7c10 : Int, ∃ (x7c11a : Option Addr) (x7c11n x7c11c : Nat), ∃ (x7c12a : Option Addr) (x7c12n x7c12c : Nat), x7v = (Value.agg ⟨[(Value.int .i64 x7c0), (Value.slice x7c1a x7c1n x7c1c), (Value.int .u32 x7c2), (Value.bool x7c3), (Value.int .u32 x7c4), (Value.bool x7c5), (Value.int .u32 x7c6), (Value.bool x7c7), (Value.bool x7c8), (Value.int .u32 x7c9), (Value.int .u32 x7c10), (Value.slice x7c11a x7c11n x7c11c), (Value.slice x7c12a x7c12n x7c12c)]⟩) ∧
 KeptIn bs H2 H3 ∧ FnW Try.prog f_law20_few ⟨[(Value.agg ⟨[(Value.int .i64 x8c0), (Value.slice x8c1a x8c1n x8c1c), (Value.int .u32 x8c2), (Value.bool x8c3), (Value.int .u32 x8c4), (Value.bool x8c5), (Value.int .u32 x8c6), (Value.bool x8c7), (Value.bool x8c8), (Value.int .u32 x8c9), (Value.int .u32 x8c10), (Value.slice x8c11a x8c11n x8c11c), (Value.slice x8c12a x8c12n x8c12c)]⟩)]⟩ H3 fun x9v H4 =>
 ∃ x9c0 : Int, ∃ (x9c1a : Option Addr) (x9c1n x9c1c : Nat), ∃ x9c2 : Int, ∃ x9c3 : Bool, ∃ x9c4 : Int, ∃ x9c5 : Bool, ∃ x9c6 : Int, ∃ x9c7 : Bool, ∃ x9c8 : Bool, ∃ x9c9 : Int, ∃ x9c10 : Int, ∃ (x9c11a : Option Addr) (x9c11n x9c11c : Nat), ∃ (x9c12a : Option Addr) (x9c12n x9c12c : Nat), x9v = (Value.agg ⟨[(Value.int .i64 x9c0), (Value.slice x9c1a x9c1n x9c1c), (Value.int .u32 x9c2), (Value.bool x9c3), (Value.int .u32 x9c4), (Value.bool x9c5), (Value.int .u32 x9c6), (Value.bool x9c7), (Value.bool x9c8), (Value.int .u32 x9c9), (Value.int .u32 x9c10), (Value.slice x9c11a x9c11n x9c11c), (Value.slice x9c12a x9c12n x9c12c)]⟩) ∧
 StCell H4 ⟨a2b, 0, none⟩ (Value.int .i64 x7c0) fun H5 =>
 StCell H5 ⟨a2b, 1, none⟩ (Value.slice x7c1a x7c1n x7c1c) fun H6 =>
 StCell H6 ⟨a2b, 2, none⟩ (Value.int .u32 x7c2) fun H7 =>
 StCell H7 ⟨a2b, 3, none⟩ (Value.bool x7c3) fun H8 =>
 StCell H8 ⟨a2b, 4, none⟩ (Value.int .u32 x7c4) fun H9 =>
 StCell H9 ⟨a2b, 5, none⟩ (Value.bool x7c5) fun H10 =>
 StCell H10 ⟨a2b, 6, none⟩ (Value.int .u32 x7c6) fun H11 =>
 StCell H11 ⟨a2b, 7, none⟩ (Value.bool x7c7) fun H12 =>
 StCell H12 ⟨a2b, 8, none⟩ (Value.bool x7c8) fun H13 =>
 StCell H13 ⟨a2b, 9, none⟩ (Value.int .u32 x7c9) fun H14 =>
 StCell H14 ⟨a2b, 10, none⟩ (Value.int .u32 x7c10) fun H15 =>
 StCell H15 ⟨a2b, 11, none⟩ (Value.slice x7c11a x7c11n x7c11c) fun H16 =>
 StCell H16 ⟨a2b, 12, none⟩ (Value.slice x7c12a x7c12n x7c12c) fun H17 =>
 StCell H17 ⟨b3b, 0, none⟩ (Value.int .i64 x9c0) fun H18 =>
 StCell H18 ⟨b3b, 1, none⟩ (Value.slice x9c1a x9c1n x9c1c) fun H19 =>
 StCell H19 ⟨b3b, 2, none⟩ (Value.int .u32 x9c2) fun H20 =>
 StCell H20 ⟨b3b, 3, none⟩ (Value.bool x9c3) fun H21 =>
 StCell H21 ⟨b3b, 4, none⟩ (Value.int .u32 x9c4) fun H22 =>
 StCell H22 ⟨b3b, 5, none⟩ (Value.bool x9c5) fun H23 =>
 StCell H23 ⟨b3b, 6, none⟩ (Value.int .u32 x9c6) fun H24 =>
 StCell H24 ⟨b3b, 7, none⟩ (Value.bool x9c7) fun H25 =>
 StCell H25 ⟨b3b, 8, none⟩ (Value.bool x9c8) fun H26 =>
 StCell H26 ⟨b3b, 9, none⟩ (Value.int .u32 x9c9) fun H27 =>
 StCell H27 ⟨b3b, 10, none⟩ (Value.int .u32 x9c10) fun H28 =>
 StCell H28 ⟨b3b, 11, none⟩ (Value.slice x9c11a x9c11n x9c11c) fun H29 =>
 StCell H29 ⟨b3b, 12, none⟩ (Value.slice x9c12a x9c12n x9c12c) fun H30 =>
 ∃ x10c0 : Int, H30.cell ⟨a2b, 0, none⟩ = some (Value.int .i64 x10c0) ∧ ∃ (x10c1a : Option Addr) (x10c1n x10c1c : Nat), H30.cell ⟨a2b, 1, none⟩ = some (Value.slice x10c1a x10c1n x10c1c) ∧ ∃ x10c2 : Int, H30.cell ⟨a2b, 2, none⟩ = some (Value.int .u32 x10c2) ∧ ∃ x10c3 : Bool, H30.cell ⟨a2b, 3, none⟩ = some (Value.bool x10c3) ∧ ∃ x10c4 : Int, H30.cell ⟨a2b, 4, none⟩ = some (Value.int .u32 x10c4) ∧ ∃ x10c5 : Bool, H30.cell ⟨a2b, 5, none⟩ = some (Value.bool x10c5) ∧ ∃ x10c6 : Int, H30.cell ⟨a2b, 6, none⟩ = some (Value.int .u32 x10c6) ∧ ∃ x10c7 : Bool, H30.cell ⟨a2b, 7, none⟩ = some (Value.bool x10c7) ∧ ∃ x10c8 : Bool, H30.cell ⟨a2b, 8, none⟩ = some (Value.bool x10c8) ∧ ∃ x10c9 : Int, H30.cell ⟨a2b, 9, none⟩ = some (Value.int .u32 x10c9) ∧ ∃ x10c10 : Int, H30.cell ⟨a2b, 10, none⟩ = some (Value.int .u32 x10c10) ∧ ∃ (x10c11a : Option Addr) (x10c11n x10c11c : Nat), H30.cell ⟨a2b, 11, none⟩ = some (Value.slice x10c11a x10c11n x10c11c) ∧ ∃ (x10c12a : Option Addr) (x10c12n x10c12c : Nat), H30.cell ⟨a2b, 12, none⟩ = some (Value.slice x10c12a x10c12n x10c12c) ∧ FnW Try.prog f_attr_Copy ⟨[(Value.agg ⟨[(Value.int .i64 x10c0), (Value.slice x10c1a x10c1n x10c1c), (Value.int .u32 x10c2), (Value.bool x10c3), (Value.int .u32 x10c4), (Value.bool x10c5), (Value.int .u32 x10c6), (Value.bool x10c7), (Value.bool x10c8), (Value.int .u32 x10c9), (Value.int .u32 x10c10), (Value.slice x10c11a x10c11n x10c11c), (Value.slice x10c12a x10c12n x10c12c)]⟩)]⟩ H30 fun x11v H31 =>
 ∃ x11c0 : Int, ∃ (x11c1a : Option Addr) (x11c1n x11c1c : Nat), ∃ x11c2 : Int, ∃ x11c3 : Bool, ∃ x11c4 : Int, ∃ x11c5 : Bool, ∃ x11c6 : Int, ∃ x11c7 : Bool, ∃ x11c8 : Bool, ∃ x11c9 : Int, ∃ x11c10 : Int, ∃ (x11c11a : Option Addr) (x11c11n x11c11c : Nat), ∃ (x11c12a : Option Addr) (x11c12n x11c12c : Nat), x11v = (Value.agg ⟨[(Value.int .i64 x11c0), (Value.slice x11c1a x11c1n x11c1c), (Value.int .u32 x11c2), (Value.bool x11c3), (Value.int .u32 x11c4), (Value.bool x11c5), (Value.int .u32 x11c6), (Value.bool x11c7), (Value.bool x11c8), (Value.int .u32 x11c9), (Value.int .u32 x11c10), (Value.slice x11c11a x11c11n x11c11c), (Value.slice x11c12a x11c12n x11c12c)]⟩) ∧
 NewW H31 (Obj.cells ⟨[(Value.int .i64 0), (Value.slice none 0 0), (Value.int .u32 0), (Value.bool false), (Value.int .u32 0), (Value.bool false), (Value.int .u32 0), (Value.bool false), (Value.bool false), (Value.int .u32 0), (Value.int .u32 0), (Value.slice none 0 0), (Value.slice none 0 0)]⟩ T_api_Attrs) fun c5b H32 =>
 StCell H32 ⟨c5b, 0, none⟩ (Value.int .i64 x11c0) fun H33 =>
 StCell H33 ⟨c5b, 1, none⟩ (Value.slice x11c1a x11c1n x11c1c) fun H34 =>
 StCell H34 ⟨c5b, 2, none⟩ (Value.int .u32 x11c2) fun H35 =>
 StCell H35 ⟨c5b, 3, none⟩ (Value.bool x11c3) fun H36 =>
 StCell H36 ⟨c5b, 4, none⟩ (Value.int .u32 x11c4) fun H37 =>
 StCell H37 ⟨c5b, 5, none⟩ (Value.bool x11c5) fun H38 =>
 StCell H38 ⟨c5b, 6, none⟩ (Value.int .u32 x11c6) fun H39 =>
 StCell H39 ⟨c5b, 7, none⟩ (Value.bool x11c7) fun H40 =>
 StCell H40 ⟨c5b, 8, none⟩ (Value.bool x11c8) fun H41 =>
 StCell H41 ⟨c5b, 9, none⟩ (Value.int .u32 x11c9) fun H42 =>
 StCell H42 ⟨c5b, 10, none⟩ (Value.int .u32 x11c10) fun H43 =>
 StCell H43 ⟨c5b, 11, none⟩ (Value.slice x11c11a x11c11n x11c11c) fun H44 =>
 StCell H44 ⟨c5b, 12, none⟩ (Value.slice x11c12a x11c12n x11c12c) fun H45 =>
 ∃ bs : List Nat, (∀ b ∈ bs, ∃ o, H45 b = some o) ∧
 ∃ x12c0 : Int, H45.cell ⟨a2b, 0, none⟩ = some (Value.int .i64 x12c0) ∧ ∃ (x12c1a : Option Addr) (x12c1n x12c1c : Nat), H45.cell ⟨a2b, 1, none⟩ = some (Value.slice x12c1a x12c1n x12c1c) ∧ ∃ x12c2 : Int, H45.cell ⟨a2b, 2, none⟩ = some (Value.int .u32 x12c2) ∧ ∃ x12c3 : Bool, H45.cell ⟨a2b, 3, none⟩ = some (Value.bool x12c3) ∧ ∃ x12c4 : Int, H45.cell ⟨a2b, 4, none⟩ = some (Value.int .u32 x12c4) ∧ ∃ x12c5 : Bool, H45.cell ⟨a2b, 5, none⟩ = some (Value.bool x12c5) ∧ ∃ x12c6 : Int, H45.cell ⟨a2b, 6, none⟩ = some (Value.int .u32 x12c6) ∧ ∃ x12c7 : Bool, H45.cell ⟨a2b, 7, none⟩ = some (Value.bool x12c7) ∧ ∃ x12c8 : Bool, H45.cell ⟨a2b, 8, none⟩ = some (Value.bool x12c8) ∧ ∃ x12c9 : Int, H45.cell ⟨a2b, 9, none⟩ = some (Value.int .u32 x12c9) ∧ ∃ x12c10 : Int, H45.cell ⟨a2b, 10, none⟩ = some (Value.int .u32 x12c10) ∧ ∃ (x12c11a : Option Addr) (x12c11n x12c11c : Nat), H45.cell ⟨a2b, 11, none⟩ = some (Value.slice x12c11a x12c11n x12c11c) ∧ ∃ (x12c12a : Option Addr) (x12c12n x12c12c : Nat), H45.cell ⟨a2b, 12, none⟩ = some (Value.slice x12c12a x12c12n x12c12c) ∧ b3b ∈ bs ∧ ∃ x14c0 : Int, H45.cell ⟨b3b, 0, none⟩ = some (Value.int .i64 x14c0) ∧ ∃ (x14c1a : Option Addr) (x14c1n x14c1c : Nat), H45.cell ⟨b3b, 1, none⟩ = some (Value.slice x14c1a x14c1n x14c1c) ∧ ∃ x14c2 : Int, H45.cell ⟨b3b, 2, none⟩ = some (Value.int .u32 x14c2) ∧ ∃ x14c3 : Bool, H45.cell ⟨b3b, 3, none⟩ = some (Value.bool x14c3) ∧ ∃ x14c4 : Int, H45.cell ⟨b3b, 4, none⟩ = some (Value.int .u32 x14c4) ∧ ∃ x14c5 : Bool, H45.cell ⟨b3b, 5, none⟩ = some (Value.bool x14c5) ∧ ∃ x14c6 : Int, H45.cell ⟨b3b, 6, none⟩ = some (Value.int .u32 x14c6) ∧ ∃ x14c7 : Bool, H45.cell ⟨b3b, 7, none⟩ = some (Value.bool x14c7) ∧ ∃ x14c8 : Bool, H45.cell ⟨b3b, 8, none⟩ = some (Value.bool x14c8) ∧ ∃ x14c9 : Int, H45.cell ⟨b3b, 9, none⟩ = some (Value.int .u32 x14c9) ∧ ∃ x14c10 : Int, H45.cell ⟨b3b, 10, none⟩ = some (Value.int .u32 x14c10) ∧ ∃ (x14c11a : Option Addr) (x14c11n x14c11c : Nat), H45.cell ⟨b3b, 11, none⟩ = some (Value.slice x14c11a x14c11n x14c11c) ∧ ∃ (x14c12a : Option Addr) (x14c12n x14c12c : Nat), H45.cell ⟨b3b, 12, none⟩ = some (Value.slice x14c12a x14c12n x14c12c) ∧ a2b ∈ bs ∧ ∃ x17c0 : Int, H45.cell ⟨a2b, 0, none⟩ = some (Value.int .i64 x17c0) ∧ ∃ (x17c1a : Option Addr) (x17c1n x17c1c : Nat), H45.cell ⟨a2b, 1, none⟩ = some (Value.slice x17c1a x17c1n x17c1c) ∧ ∃ x17c2 : Int, H45.cell ⟨a2b, 2, none⟩ = some (Value.int .u32 x17c2) ∧ ∃ x17c3 : Bool, H45.cell ⟨a2b, 3, none⟩ = some (Value.bool x17c3) ∧ ∃ x17c4 : Int, H45.cell ⟨a2b, 4, none⟩ = some (Value.int .u32 x17c4) ∧ ∃ x17c5 : Bool, H45.cell ⟨a2b, 5, none⟩ = some (Value.bool x17c5) ∧ ∃ x17c6 : Int, H45.cell ⟨a2b, 6, none⟩ = some (Value.int .u32 x17c6) ∧ ∃ x17c7 : Bool, H45.cell ⟨a2b, 7, none⟩ = some (Value.bool x17c7) ∧ ∃ x17c8 : Bool, H45.cell ⟨a2b, 8, none⟩ = some (Value.bool x17c8) ∧ ∃ x17c9 : Int, H45.cell ⟨a2b, 9, none⟩ = some (Value.int .u32 x17c9) ∧ ∃ x17c10 : Int, H45.cell ⟨a2b, 10, none⟩ = some (Value.int .u32 x17c10) ∧ ∃ (x17c11a : Option Addr) (x17c11n x17c11c : Nat), H45.cell ⟨a2b, 11, none⟩ = some (Value.slice x17c11a x17c11n x17c11c) ∧ ∃ (x17c12a : Option Addr) (x17c12n x17c12c : Nat), H45.cell ⟨a2b, 12, none⟩ = some (Value.slice x17c12a x17c12n x17c12c) ∧ b3b ∈ bs ∧ ∃ x18c0 : Int, H45.cell ⟨b3b, 0, none⟩ = some (Value.int .i64 x18c0) ∧ ∃ (x18c1a : Option Addr) (x18c1n x18c1c : Nat), H45.cell ⟨b3b, 1, none⟩ = some (Value.slice x18c1a x18c1n x18c1c) ∧ ∃ x18c2 : Int, H45.cell ⟨b3b, 2, none⟩ = some (Value.int .u32 x18c2) ∧ ∃ x18c3 : Bool, H45.cell ⟨b3b, 3, none⟩ = some (Value.bool x18c3) ∧ ∃ x18c4 : Int, H45.cell ⟨b3b, 4, none⟩ = some (Value.int .u32 x18c4) ∧ ∃ x18c5 : Bool, H45.cell ⟨b3b, 5, none⟩ = some (Value.bool x18c5) ∧ ∃ x18c6 : Int, H45.cell ⟨b3b, 6, none⟩ = some (Value.int .u32 x18c6) ∧ ∃ x18c7 : Bool, H45.cell ⟨b3b, 7, none⟩ = some (Value.bool x18c7) ∧ ∃ x18c8 : Bool, H45.cell ⟨b3b, 8, none⟩ = some (Value.bool x18c8) ∧ ∃ x18c9 : Int, H45.cell ⟨b3b, 9, none⟩ = some (Value.int .u32 x18c9) ∧ ∃ x18c10 : Int, H45.cell ⟨b3b, 10, none⟩ = some (Value.int .u32 x18c10) ∧ ∃ (x18c11a : Option Addr) (x18c11n x18c11c : Nat), H45.cell ⟨b3b, 11, none⟩ = some (Value.slice x18c11a x18c11n x18c11c) ∧ ∃ (x18c12a : Option Addr) (x18c12n x18c12c : Nat), H45.cell ⟨b3b, 12, none⟩ = some (Value.slice x18c12a x18c12n x18c12c) ∧ FnW Try.prog f_law20_few ⟨[(Value.agg ⟨[(Value.int .i64 x12c0), (Value.slice x12c1a x12c1n x12c1c), (Value.int .u32 x12c2), (Value.bool x12c3), (Value.int .u32 x12c4), (Value.bool x12c5), (Value.int .u32 x12c6), (Value.bool x12c7), (Value.bool x12c8), (Value.int .u32 x12c9), (Value.int .u32 x12c10), (Value.slice x12c11a x12c11n x12c11c), (Value.slice x12c12a x12c12n x12c12c)]⟩)]⟩ H45 fun x13v H46 =>
 ∃ x13c0 : Int, ∃ (x13c1a : Option Addr) (x13c1n x13c1c : Nat), ∃ x13c2 : Int, ∃ x13c3 : Bool, ∃ x13c4 : Int, ∃ x13c5 : Bool, ∃ x13c6 : Int, ∃ x13c7 : Bool, ∃ x13c8 : Bool, ∃ x13c9 : Int, ∃ x13c10 : Int, ∃ (x13c11a : Option Addr) (x13c11n x13c11c : Nat), ∃ (x13c12a : Option Addr) (x13c12n x13c12c : Nat), x13v = (Value.agg ⟨[(Value.int .i64 x13c0), (Value.slice x13c1a x13c1n x13c1c), (Value.int .u32 x13c2), (Value.bool x13c3), (Value.int .u32 x13c4), (Value.bool x13c5), (Value.int .u32 x13c6), (Value.bool x13c7), (Value.bool x13c8), (Value.int .u32 x13c9), (Value.int .u32 x13c10), (Value.slice x13c11a x13c11n x13c11c), (Value.slice x13c12a x13c12n x13c12c)]⟩) ∧
 KeptIn bs H45 H46 ∧ FnW Try.prog f_law20_few ⟨[(Value.agg ⟨[(Value.int .i64 x14c0), (Value.slice x14c1a x14c1n x14c1c), (Value.int .u32 x14c2), (Value.bool x14c3), (Value.int .u32 x14c4), (Value.bool x14c5), (Value.int .u32 x14c6), (Value.bool x14c7), (Value.bool x14c8), (Value.int .u32 x14c9), (Value.int .u32 x14c10), (Value.slice x14c11a x14c11n x14c11c), (Value.slice x14c12a x14c12n x14c12c)]⟩)]⟩ H46 fun x15v H47 =>
 ∃ x15c0 : Int, ∃ (x15c1a : Option Addr) (x15c1n x15c1c : Nat), ∃ x15c2 : Int, ∃ x15c3 : Bool, ∃ x15c4 : Int, ∃ x15c5 : Bool, ∃ x15c6 : Int, ∃ x15c7 : Bool, ∃ x15c8 : Bool, ∃ x15c9 : Int, ∃ x15c10 : Int, ∃ (x15c11a : Option Addr) (x15c11n x15c11c : Nat), ∃ (x15c12a : Option Addr) (x15c12n x15c12c : Nat), x15v = (Value.agg ⟨[(Value.int .i64 x15c0), (Value.slice x15c1a x15c1n x15c1c), (Value.int .u32 x15c2), (Value.bool x15c3), (Value.int .u32 x15c4), (Value.bool x15c5), (Value.int .u32 x15c6), (Value.bool x15c7), (Value.bool x15c8), (Value.int .u32 x15c9), (Value.int .u32 x15c10), (Value.slice x15c11a x15c11n x15c11c), (Value.slice x15c12a x15c12n x15c12c)]⟩) ∧
 KeptIn bs H45 H47 ∧ FnW Try.prog f_attr_Same ⟨[(Value.agg ⟨[(Value.int .i64 x13c0), (Value.slice x13c1a x13c1n x13c1c), (Value.int .u32 x13c2), (Value.bool x13c3), (Value.int .u32 x13c4), (Value.bool x13c5), (Value.int .u32 x13c6), (Value.bool x13c7), (Value.bool x13c8), (Value.int .u32 x13c9), (Value.int .u32 x13c10), (Value.slice x13c11a x13c11n x13c11c), (Value.slice x13c12a x13c12n x13c12c)]⟩), (Value.agg ⟨[(Value.int .i64 x15c0), (Value.slice x15c1a x15c1n x15c1c), (Value.int .u32 x15c2), (Value.bool x15c3), (Value.int .u32 x15c4), (Value.bool x15c5), (Value.int .u32 x15c6), (Value.bool x15c7), (Value.bool x15c8), (Value.int .u32 x15c9), (Value.int .u32 x15c10), (Value.slice x15c11a x15c11n x15c11c), (Value.slice x15c12a x15c12n x15c12c)]⟩)]⟩ H47 fun x16v H48 =>
 ∃ x16 : Bool, x16v = (Value.bool x16) ∧
 KeptIn bs H45 H48 ∧ FnW Try.prog f_ref20_Same ⟨[(Value.agg ⟨[(Value.int .i64 x17c0), (Value.slice x17c1a x17c1n x17c1c), (Value.int .u32 x17c2), (Value.bool x17c3), (Value.int .u32 x17c4), (Value.bool x17c5), (Value.int .u32 x17c6), (Value.bool x17c7), (Value.bool x17c8), (Value.int .u32 x17c9), (Value.int .u32 x17c10), (Value.slice x17c11a x17c11n x17c11c), (Value.slice x17c12a x17c12n x17c12c)]⟩), (Value.agg ⟨[(Value.int .i64 x18c0), (Value.slice x18c1a x18c1n x18c1c), (Value.int .u32 x18c2), (Value.bool x18c3), (Value.int .u32 x18c4), (Value.bool x18c5), (Value.int .u32 x18c6), (Value.bool x18c7), (Value.bool x18c8), (Value.int .u32 x18c9), (Value.int .u32 x18c10), (Value.slice x18c11a x18c11n x18c11c), (Value.slice x18c12a x18c12n x18c12c)]⟩)]⟩ H48 fun x19v H49 =>
 ∃ x19 : Bool, x19v = (Value.bool x19) ∧
 KeptIn bs H45 H49 ∧ IfB (!(x16 == x19))
 (law20_AttrTells_j0 a2b c5b true H49 R)
 (∃ x22c0 : Int, H49.cell ⟨c5b, 0, none⟩ = some (Value.int .i64 x22c0) ∧ ∃ (x22c1a : Option Addr) (x22c1n x22c1c : Nat), H49.cell ⟨c5b, 1, none⟩ = some (Value.slice x22c1a x22c1n x22c1c) ∧ ∃ x22c2 : Int, H49.cell ⟨c5b, 2, none⟩ = some (Value.int .u32 x22c2) ∧ ∃ x22c3 : Bool, H49.cell ⟨c5b, 3, none⟩ = some (Value.bool x22c3) ∧ ∃ x22c4 : Int, H49.cell ⟨c5b, 4, none⟩ = some (Value.int .u32 x22c4) ∧ ∃ x22c5 : Bool, H49.cell ⟨c5b, 5, none⟩ = some (Value.bool x22c5) ∧ ∃ x22c6 : Int, H49.cell ⟨c5b, 6, none⟩ = some (Value.int .u32 x22c6) ∧ ∃ x22c7 : Bool, H49.cell ⟨c5b, 7, none⟩ = some (Value.bool x22c7) ∧ ∃ x22c8 : Bool, H49.cell ⟨c5b, 8, none⟩ = some (Value.bool x22c8) ∧ ∃ x22c9 : Int, H49.cell ⟨c5b, 9, none⟩ = some (Value.int .u32 x22c9) ∧ ∃ x22c10 : Int, H49.cell ⟨c5b, 10, none⟩ = some (Value.int .u32 x22c10) ∧ ∃ (x22c11a : Option Addr) (x22c11n x22c11c : Nat), H49.cell ⟨c5b, 11, none⟩ = some (Value.slice x22c11a x22c11n x22c11c) ∧ ∃ (x22c12a : Option Addr) (x22c12n x22c12c : Nat), H49.cell ⟨c5b, 12, none⟩ = some (Value.slice x22c12a x22c12n x22c12c) ∧ ∃ x23c0 : Int, H49.cell ⟨a2b, 0, none⟩ = some (Value.int .i64 x23c0) ∧ ∃ (x23c1a : Option Addr) (x23c1n x23c1c : Nat), H49.cell ⟨a2b, 1, none⟩ = some (Value.slice x23c1a x23c1n x23c1c) ∧ ∃ x23c2 : Int, H49.cell ⟨a2b, 2, none⟩ = some (Value.int .u32 x23c2) ∧ ∃ x23c3 : Bool, H49.cell ⟨a2b, 3, none⟩ = some (Value.bool x23c3) ∧ ∃ x23c4 : Int, H49.cell ⟨a2b, 4, none⟩ = some (Value.int .u32 x23c4) ∧ ∃ x23c5 : Bool, H49.cell ⟨a2b, 5, none⟩ = some (Value.bool x23c5) ∧ ∃ x23c6 : Int, H49.cell ⟨a2b, 6, none⟩ = some (Value.int .u32 x23c6) ∧ ∃ x23c7 : Bool, H49.cell ⟨a2b, 7, none⟩ = some (Value.bool x23c7) ∧ ∃ x23c8 : Bool, H49.cell ⟨a2b, 8, none⟩ = some (Value.bool x23c8) ∧ ∃ x23c9 : Int, H49.cell ⟨a2b, 9, none⟩ = some (Value.int .u32 x23c9) ∧ ∃ x23c10 : Int, H49.cell ⟨a2b, 10, none⟩ = some (Value.int .u32 x23c10) ∧ ∃ (x23c11a : Option Addr) (x23c11n x23c11c : Nat), H49.cell ⟨a2b, 11, none⟩ = some (Value.slice x23c11a x23c11n x23c11c) ∧ ∃ (x23c12a : Option Addr) (x23c12n x23c12c : Nat), H49.cell ⟨a2b, 12, none⟩ = some (Value.slice x23c12a x23c12n x23c12c) ∧ FnW Try.prog f_ref20_Same ⟨[(Value.agg ⟨[(Value.int .i64 x22c0), (Value.slice x22c1a x22c1n x22c1c), (Value.int .u32 x22c2), (Value.bool x22c3), (Value.int .u32 x22c4), (Value.bool x22c5), (Value.int .u32 x22c6), (Value.bool x22c7), (Value.bool x22c8), (Value.int .u32 x22c9), (Value.int .u32 x22c10), (Value.slice x22c11a x22c11n x22c11c), (Value.slice x22c12a x22c12n x22c12c)]⟩), (Value.agg ⟨[(Value.int .i64 x23c0), (Value.slice x23c1a x23c1n x23c1c), (Value.int .u32 x23c2), (Value.bool x23c3), (Value.int .u32 x23c4), (Value.bool x23c5), (Value.int .u32 x23c6), (Value.bool x23c7), (Value.bool x23c8), (Value.int .u32 x23c9), (Value.int .u32 x23c10), (Value.slice x23c11a x23c11n x23c11c), (Value.slice x23c12a x23c12n x23c12c)]⟩)]⟩ H49 fun x24v H77 =>
 ∃ x24 : Bool, x24v = (Value.bool x24) ∧
 KeptIn bs H45 H77 ∧ IfB (!x24)
 (law20_AttrTells_j0 a2b c5b true H77 R)
 (∃ x28c0 : Int, H77.cell ⟨c5b, 0, none⟩ = some (Value.int .i64 x28c0) ∧ ∃ (x28c1a : Option Addr) (x28c1n x28c1c : Nat), H77.cell ⟨c5b, 1, none⟩ = some (Value.slice x28c1a x28c1n x28c1c) ∧ ∃ x28c2 : Int, H77.cell ⟨c5b, 2, none⟩ = some (Value.int .u32 x28c2) ∧ ∃ x28c3 : Bool, H77.cell ⟨c5b, 3, none⟩ = some (Value.bool x28c3) ∧ ∃ x28c4 : Int, H77.cell ⟨c5b, 4, none⟩ = some (Value.int .u32 x28c4) ∧ ∃ x28c5 : Bool, H77.cell ⟨c5b, 5, none⟩ = some (Value.bool x28c5) ∧ ∃ x28c6 : Int, H77.cell ⟨c5b, 6, none⟩ = some (Value.int .u32 x28c6) ∧ ∃ x28c7 : Bool, H77.cell ⟨c5b, 7, none⟩ = some (Value.bool x28c7) ∧ ∃ x28c8 : Bool, H77.cell ⟨c5b, 8, none⟩ = some (Value.bool x28c8) ∧ ∃ x28c9 : Int, H77.cell ⟨c5b, 9, none⟩ = some (Value.int .u32 x28c9) ∧ ∃ x28c10 : Int, H77.cell ⟨c5b, 10, none⟩ = some (Value.int .u32 x28c10) ∧ ∃ (x28c11a : Option Addr) (x28c11n x28c11c : Nat), H77.cell ⟨c5b, 11, none⟩ = some (Value.slice x28c11a x28c11n x28c11c) ∧ ∃ (x28c12a : Option Addr) (x28c12n x28c12c : Nat), H77.cell ⟨c5b, 12, none⟩ = some (Value.slice x28c12a x28c12n x28c12c) ∧ ∃ x29c0 : Int, H77.cell ⟨a2b, 0, none⟩ = some (Value.int .i64 x29c0) ∧ ∃ (x29c1a : Option Addr) (x29c1n x29c1c : Nat), H77.cell ⟨a2b, 1, none⟩ = some (Value.slice x29c1a x29c1n x29c1c) ∧ ∃ x29c2 : Int, H77.cell ⟨a2b, 2, none⟩ = some (Value.int .u32 x29c2) ∧ ∃ x29c3 : Bool, H77.cell ⟨a2b, 3, none⟩ = some (Value.bool x29c3) ∧ ∃ x29c4 : Int, H77.cell ⟨a2b, 4, none⟩ = some (Value.int .u32 x29c4) ∧ ∃ x29c5 : Bool, H77.cell ⟨a2b, 5, none⟩ = some (Value.bool x29c5) ∧ ∃ x29c6 : Int, H77.cell ⟨a2b, 6, none⟩ = some (Value.int .u32 x29c6) ∧ ∃ x29c7 : Bool, H77.cell ⟨a2b, 7, none⟩ = some (Value.bool x29c7) ∧ ∃ x29c8 : Bool, H77.cell ⟨a2b, 8, none⟩ = some (Value.bool x29c8) ∧ ∃ x29c9 : Int, H77.cell ⟨a2b, 9, none⟩ = some (Value.int .u32 x29c9) ∧ ∃ x29c10 : Int, H77.cell ⟨a2b, 10, none⟩ = some (Value.int .u32 x29c10) ∧ ∃ (x29c11a : Option Addr) (x29c11n x29c11c : Nat), H77.cell ⟨a2b, 11, none⟩ = some (Value.slice x29c11a x29c11n x29c11c) ∧ ∃ (x29c12a : Option Addr) (x29c12n x29c12c : Nat), H77.cell ⟨a2b, 12, none⟩ = some (Value.slice x29c12a x29c12n x29c12c) ∧ FnW Try.prog f_attr_Same ⟨[(Value.agg ⟨[(Value.int .i64 x28c0), (Value.slice x28c1a x28c1n x28c1c), (Value.int .u32 x28c2), (Value.bool x28c3), (Value.int .u32 x28c4), (Value.bool x28c5), (Value.int .u32 x28c6), (Value.bool x28c7), (Value.bool x28c8), (Value.int .u32 x28c9), (Value.int .u32 x28c10), (Value.slice x28c11a x28c11n x28c11c), (Value.slice x28c12a x28c12n x28c12c)]⟩), (Value.agg ⟨[(Value.int .i64 x29c0), (Value.slice x29c1a x29c1n x29c1c), (Value.int .u32 x29c2), (Value.bool x29c3), (Value.int .u32 x29c4), (Value.bool x29c5), (Value.int .u32 x29c6), (Value.bool x29c7), (Value.bool x29c8), (Value.int .u32 x29c9), (Value.int .u32 x29c10), (Value.slice x29c11a x29c11n x29c11c), (Value.slice x29c12a x29c12n x29c12c)]⟩)]⟩ H77 fun x30v H78 =>
 ∃ x30 : Bool, x30v = (Value.bool x30) ∧
 law20_AttrTells_j0 a2b c5b (!x30) H78 R))
theorem law20_AttrTells_heq (a0c0 : Int) (a0c1a : Option Addr) (a0c1n : Nat) (a0c1c : Nat) (a0c2 : Int) (a0c3 : Bool) (a0c4 : Int) (a0c5 : Bool) (a0c6 : Int) (a0c7 : Bool) (a0c8 : Bool) (a0c9 : Int) (a0c10 : Int) (a0c11a : Option Addr) (a0c11n : Nat) (a0c11c : Nat) (a0c12a : Option Addr) (a0c12n : Nat) (a0c12c : Nat) (b1c0 : Int) (b1c1a : Option Addr) (b1c1n : Nat) (b1c1c : Nat) (b1c2 : Int) (b1c3 : Bool) (b1c4 : Int) (b1c5 : Bool) (b1c6 : Int) (b1c7 : Bool) (b1c8 : Bool) (b1c9 : Int) (b1c10 : Int) (b1c11a : Option Addr) (b1c11n : Nat) (b1c11c : Nat) (b1c12a : Option Addr) (b1c12n : Nat) (b1c12c : Nat) (H : Heap) (R : Value → Heap → Prop) : law20_AttrTells_p a0c0 a0c1a a0c1n a0c1c a0c2 a0c3 a0c4 a0c5 a0c6 a0c7 a0c8 a0c9 a0c10 a0c11a a0c11n a0c11c a0c12a a0c12n a0c12c b1c0 b1c1a b1c1n b1c1c b1c2 b1c3 b1c4 b1c5 b1c6 b1c7 b1c8 b1c9 b1c10 b1c11a b1c11n b1c11c b1c12a b1c12n b1c12c H R = CodeW Try.prog hplan_law20_AttrTells (bodyOf Try.f3) (env0 [(Value.agg ⟨[(Value.int .i64 a0c0), (Value.slice a0c1a a0c1n a0c1c), (Value.int .u32 a0c2), (Value.bool a0c3), (Value.int .u32 a0c4), (Value.bool a0c5), (Value.int .u32 a0c6), (Value.bool a0c7), (Value.bool a0c8), (Value.int .u32 a0c9), (Value.int .u32 a0c10), (Value.slice a0c11a a0c11n a0c11c), (Value.slice a0c12a a0c12n a0c12c)]⟩), (Value.agg ⟨[(Value.int .i64 b1c0), (Value.slice b1c1a b1c1n b1c1c), (Value.int .u32 b1c2), (Value.bool b1c3), (Value.int .u32 b1c4), (Value.bool b1c5), (Value.int .u32 b1c6), (Value.bool b1c7), (Value.bool b1c8), (Value.int .u32 b1c9), (Value.int .u32 b1c10), (Value.slice b1c11a b1c11n b1c11c), (Value.slice b1c12a b1c12n b1c12c)]⟩)]) H (RetW Try.prog Try.f3.results.toList R) := by kernel_rfl
theorem law20_AttrTells_sh (a0c0 : Int) (a0c1a : Option Addr) (a0c1n : Nat) (a0c1c : Nat) (a0c2 : Int) (a0c3 : Bool) (a0c4 : Int) (a0c5 : Bool) (a0c6 : Int) (a0c7 : Bool) (a0c8 : Bool) (a0c9 : Int) (a0c10 : Int) (a0c11a : Option Addr) (a0c11n : Nat) (a0c11c : Nat) (a0c12a : Option Addr) (a0c12n : Nat) (a0c12c : Nat) (b1c0 : Int) (b1c1a : Option Addr) (b1c1n : Nat) (b1c1c : Nat) (b1c2 : Int) (b1c3 : Bool) (b1c4 : Int) (b1c5 : Bool) (b1c6 : Int) (b1c7 : Bool) (b1c8 : Bool) (b1c9 : Int) (b1c10 : Int) (b1c11a : Option Addr) (b1c11n : Nat) (b1c11c : Nat) (b1c12a : Option Addr) (b1c12n : Nat) (b1c12c : Nat) {H : Heap} {R : Value → Heap → Prop} (h : law20_AttrTells_p a0c0 a0c1a a0c1n a0c1c a0c2 a0c3 a0c4 a0c5 a0c6 a0c7 a0c8 a0c9 a0c10 a0c11a a0c11n a0c11c a0c12a a0c12n a0c12c b1c0 b1c1a b1c1n b1c1c b1c2 b1c3 b1c4 b1c5 b1c6 b1c7 b1c8 b1c9 b1c10 b1c11a b1c11n b1c11c b1c12a b1c12n b1c12c H fun v H1 => ∀ H2, Shut H H1 H2 → R v H2) : FnW Try.prog f_law20_AttrTells ⟨[(Value.agg ⟨[(Value.int .i64 a0c0), (Value.slice a0c1a a0c1n a0c1c), (Value.int .u32 a0c2), (Value.bool a0c3), (Value.int .u32 a0c4), (Value.bool a0c5), (Value.int .u32 a0c6), (Value.bool a0c7), (Value.bool a0c8), (Value.int .u32 a0c9), (Value.int .u32 a0c10), (Value.slice a0c11a a0c11n a0c11c), (Value.slice a0c12a a0c12n a0c12c)]⟩), (Value.agg ⟨[(Value.int .i64 b1c0), (Value.slice b1c1a b1c1n b1c1c), (Value.int .u32 b1c2), (Value.bool b1c3), (Value.int .u32 b1c4), (Value.bool b1c5), (Value.int .u32 b1c6), (Value.bool b1c7), (Value.bool b1c8), (Value.int .u32 b1c9), (Value.int .u32 b1c10), (Value.slice b1c11a b1c11n b1c11c), (Value.slice b1c12a b1c12n b1c12c)]⟩)]⟩ H R := FnW.of_code hk_law20_AttrTells (by kernel_rfl) (Eq.mp (law20_AttrTells_heq a0c0 a0c1a a0c1n a0c1c a0c2 a0c3 a0c4 a0c5 a0c6 a0c7 a0c8 a0c9 a0c10 a0c11a a0c11n a0c11c a0c12a a0c12n a0c12c b1c0 b1c1a b1c1n b1c1c b1c2 b1c3 b1c4 b1c5 b1c6 b1c7 b1c8 b1c9 b1c10 b1c11a b1c11n b1c11c b1c12a b1c12n b1c12c H _) h)
def hplan_attr_Copy : Plan := ⟨[(6, [0, 1, 2, 3, 4, 5, 6, 7, 8, 9, 10, 11], [23, 25]), (11, [0, 1, 2, 3, 4, 5, 6, 7, 8, 9, 10, 11], [42, 44])], [(4, [18], [.int .i64], [1, 2, 3, 16, 17]), (9, [37], [.int .i64], [2, 3, 35, 36])], [], []⟩
theorem hk_attr_Copy : Known Try.prog f_attr_Copy Try.f5 hplan_attr_Copy (bodyOf Try.f5) := ⟨Try.func5, by kernel_rfl, by kernel_rfl, by kernel_rfl, by kernel_rfl, by kernel_rfl⟩
def attr_Copy_l9 (x2b : Nat) (b3b : Nat) (x35a : Option Addr) (x35n : Nat) (x35c : Nat) (next4 : (Int × Unit) → Heap → Prop) (x37 : Int) (H29 : Heap) (next9 : (Int × Unit) → Heap → Prop) (R : Value → Heap → Prop) : Prop :=
 IfB (decide ((x37 : Int) < (x35n : Int)))
 (NilP x35a fun x39q =>
 InB x37 x35n fun x39i =>
 elemAt x39q x39i 2 fun x39p =>
 ∃ x40c0 : Int, H29.cell x39p = some (Value.int .i64 x40c0) ∧ ∃ (x40c1a : Option Addr) (x40c1n x40c1c : Nat), H29.cell ⟨x39p.block, x39p.off + 1, none⟩ = some (Value.slice x40c1a x40c1n x40c1c) ∧ NewW H29 (Obj.cells ⟨[(Value.int .i64 0), (Value.slice none 0 0)]⟩ T_api_Raw) fun x7b H30 =>
 StCell H30 ⟨x7b, 0, none⟩ (Value.int .i64 x40c0) fun H31 =>
 StCell H31 ⟨x7b, 1, none⟩ (Value.slice x40c1a x40c1n x40c1c) fun H32 =>
 ∃ bs : List Nat, (∀ b ∈ bs, ∃ o, H32 b = some o) ∧
 b3b ∈ bs ∧ ∃ (x42a : Option Addr) (x42n x42c : Nat), H32.cell ⟨b3b, 12, none⟩ = some (Value.slice x42a x42n x42c) ∧
 x7b ∈ bs ∧ ∃ x44 : Int, H32.cell ⟨x7b, 0, none⟩ = some (Value.int .i64 x44) ∧
 ∃ (x46a : Option Addr) (x46n x46c : Nat), H32.cell ⟨x7b, 1, none⟩ = some (Value.slice x46a x46n x46c) ∧
 FnW Try.prog f_slices_Cloneasl_byte_byte ⟨[(Value.slice x46a x46n x46c)]⟩ H32 fun x47v H33 =>
 ∃ (x47a : Option Addr) (x47n x47c : Nat), x47v = (Value.slice x47a x47n x47c) ∧
 KeptIn bs H32 H33 ∧ NewW H33 (Obj.cells ⟨[(Value.int .i64 x44), (Value.slice x47a x47n x47c)]⟩ T_api_Raw) fun x49b H34 =>
 AppW Try.prog #[T_sl_api_Raw, T_sl_api_Raw] T_sl_api_Raw [(Value.slice x42a x42n x42c), (Value.slice (some ⟨x49b, 0, none⟩) 1 1)] H34 fun x50v H35 =>
 ∃ (x50a : Option Addr) (x50n x50c : Nat), x50v = (Value.slice x50a x50n x50c) ∧
 StCell H35 ⟨b3b, 12, none⟩ (Value.slice x50a x50n x50c) fun H36 =>
 next9 ((IntKind.wrap .i64 (x37 + 1)), ()) H36)
 (∃ x53c0 : Int, H29.cell ⟨b3b, 0, none⟩ = some (Value.int .i64 x53c0) ∧ ∃ (x53c1a : Option Addr) (x53c1n x53c1c : Nat), H29.cell ⟨b3b, 1, none⟩ = some (Value.slice x53c1a x53c1n x53c1c) ∧ ∃ x53c2 : Int, H29.cell ⟨b3b, 2, none⟩ = some (Value.int .u32 x53c2) ∧ ∃ x53c3 : Bool, H29.cell ⟨b3b, 3, none⟩ = some (Value.bool x53c3) ∧ ∃ x53c4 : Int, H29.cell ⟨b3b, 4, none⟩ = some (Value.int .u32 x53c4) ∧ ∃ x53c5 : Bool, H29.cell ⟨b3b, 5, none⟩ = some (Value.bool x53c5) ∧ ∃ x53c6 : Int, H29.cell ⟨b3b, 6, none⟩ = some (Value.int .u32 x53c6) ∧ ∃ x53c7 : Bool, H29.cell ⟨b3b, 7, none⟩ = some (Value.bool x53c7) ∧ ∃ x53c8 : Bool, H29.cell ⟨b3b, 8, none⟩ = some (Value.bool x53c8) ∧ ∃ x53c9 : Int, H29.cell ⟨b3b, 9, none⟩ = some (Value.int .u32 x53c9) ∧ ∃ x53c10 : Int, H29.cell ⟨b3b, 10, none⟩ = some (Value.int .u32 x53c10) ∧ ∃ (x53c11a : Option Addr) (x53c11n x53c11c : Nat), H29.cell ⟨b3b, 11, none⟩ = some (Value.slice x53c11a x53c11n x53c11c) ∧ ∃ (x53c12a : Option Addr) (x53c12n x53c12c : Nat), H29.cell ⟨b3b, 12, none⟩ = some (Value.slice x53c12a x53c12n x53c12c) ∧ StCell H29 ⟨x2b, 0, none⟩ (Value.int .i64 x53c0) fun H37 =>
 StCell H37 ⟨x2b, 1, none⟩ (Value.slice x53c1a x53c1n x53c1c) fun H38 =>
 StCell H38 ⟨x2b, 2, none⟩ (Value.int .u32 x53c2) fun H39 =>
 StCell H39 ⟨x2b, 3, none⟩ (Value.bool x53c3) fun H40 =>
 StCell H40 ⟨x2b, 4, none⟩ (Value.int .u32 x53c4) fun H41 =>
 StCell H41 ⟨x2b, 5, none⟩ (Value.bool x53c5) fun H42 =>
 StCell H42 ⟨x2b, 6, none⟩ (Value.int .u32 x53c6) fun H43 =>
 StCell H43 ⟨x2b, 7, none⟩ (Value.bool x53c7) fun H44 =>
 StCell H44 ⟨x2b, 8, none⟩ (Value.bool x53c8) fun H45 =>
 StCell H45 ⟨x2b, 9, none⟩ (Value.int .u32 x53c9) fun H46 =>
 StCell H46 ⟨x2b, 10, none⟩ (Value.int .u32 x53c10) fun H47 =>
 StCell H47 ⟨x2b, 11, none⟩ (Value.slice x53c11a x53c11n x53c11c) fun H48 =>
 StCell H48 ⟨x2b, 12, none⟩ (Value.slice x53c12a x53c12n x53c12c) fun H49 =>
 ∃ r0c0 : Int, H49.cell ⟨x2b, 0, none⟩ = some (Value.int .i64 r0c0) ∧ ∃ (r0c1a : Option Addr) (r0c1n r0c1c : Nat), H49.cell ⟨x2b, 1, none⟩ = some (Value.slice r0c1a r0c1n r0c1c) ∧ ∃ r0c2 : Int, H49.cell ⟨x2b, 2, none⟩ = some (Value.int .u32 r0c2) ∧ ∃ r0c3 : Bool, H49.cell ⟨x2b, 3, none⟩ = some (Value.bool r0c3) ∧ ∃ r0c4 : Int, H49.cell ⟨x2b, 4, none⟩ = some (Value.int .u32 r0c4) ∧ ∃ r0c5 : Bool, H49.cell ⟨x2b, 5, none⟩ = some (Value.bool r0c5) ∧ ∃ r0c6 : Int, H49.cell ⟨x2b, 6, none⟩ = some (Value.int .u32 r0c6) ∧ ∃ r0c7 : Bool, H49.cell ⟨x2b, 7, none⟩ = some (Value.bool r0c7) ∧ ∃ r0c8 : Bool, H49.cell ⟨x2b, 8, none⟩ = some (Value.bool r0c8) ∧ ∃ r0c9 : Int, H49.cell ⟨x2b, 9, none⟩ = some (Value.int .u32 r0c9) ∧ ∃ r0c10 : Int, H49.cell ⟨x2b, 10, none⟩ = some (Value.int .u32 r0c10) ∧ ∃ (r0c11a : Option Addr) (r0c11n r0c11c : Nat), H49.cell ⟨x2b, 11, none⟩ = some (Value.slice r0c11a r0c11n r0c11c) ∧ ∃ (r0c12a : Option Addr) (r0c12n r0c12c : Nat), H49.cell ⟨x2b, 12, none⟩ = some (Value.slice r0c12a r0c12n r0c12c) ∧ R (Value.agg ⟨[(Value.int .i64 r0c0), (Value.slice r0c1a r0c1n r0c1c), (Value.int .u32 r0c2), (Value.bool r0c3), (Value.int .u32 r0c4), (Value.bool r0c5), (Value.int .u32 r0c6), (Value.bool r0c7), (Value.bool r0c8), (Value.int .u32 r0c9), (Value.int .u32 r0c10), (Value.slice r0c11a r0c11n r0c11c), (Value.slice r0c12a r0c12n r0c12c)]⟩) H49)
def attr_Copy_l4 (a1b : Nat) (x2b : Nat) (b3b : Nat) (x16a : Option Addr) (x16n : Nat) (x16c : Nat) (x18 : Int) (H21 : Heap) (next4 : (Int × Unit) → Heap → Prop) (R : Value → Heap → Prop) : Prop :=
 IfB (decide ((x18 : Int) < (x16n : Int)))
 (NilP x16a fun x20q =>
 InB x18 x16n fun x20i =>
 elemAt x20q x20i 2 fun x20p =>
 ∃ x21c0 : Bool, H21.cell x20p = some (Value.bool x21c0) ∧ ∃ (x21c1a : Option Addr) (x21c1n x21c1c : Nat), H21.cell ⟨x20p.block, x20p.off + 1, none⟩ = some (Value.slice x21c1a x21c1n x21c1c) ∧ NewW H21 (Obj.cells ⟨[(Value.bool false), (Value.slice none 0 0)]⟩ T_api_Segment) fun s5b H22 =>
 StCell H22 ⟨s5b, 0, none⟩ (Value.bool x21c0) fun H23 =>
 StCell H23 ⟨s5b, 1, none⟩ (Value.slice x21c1a x21c1n x21c1c) fun H24 =>
 ∃ bs : List Nat, (∀ b ∈ bs, ∃ o, H24 b = some o) ∧
 b3b ∈ bs ∧ ∃ (x23a : Option Addr) (x23n x23c : Nat), H24.cell ⟨b3b, 1, none⟩ = some (Value.slice x23a x23n x23c) ∧
 s5b ∈ bs ∧ ∃ x25 : Bool, H24.cell ⟨s5b, 0, none⟩ = some (Value.bool x25) ∧
 ∃ (x27a : Option Addr) (x27n x27c : Nat), H24.cell ⟨s5b, 1, none⟩ = some (Value.slice x27a x27n x27c) ∧
 FnW Try.prog f_slices_Cloneasl_uint32_uint32 ⟨[(Value.slice x27a x27n x27c)]⟩ H24 fun x28v H25 =>
 ∃ (x28a : Option Addr) (x28n x28c : Nat), x28v = (Value.slice x28a x28n x28c) ∧
 KeptIn bs H24 H25 ∧ NewW H25 (Obj.cells ⟨[(Value.bool x25), (Value.slice x28a x28n x28c)]⟩ T_api_Segment) fun x30b H26 =>
 AppW Try.prog #[T_sl_api_Segment, T_sl_api_Segment] T_sl_api_Segment [(Value.slice x23a x23n x23c), (Value.slice (some ⟨x30b, 0, none⟩) 1 1)] H26 fun x31v H27 =>
 ∃ (x31a : Option Addr) (x31n x31c : Nat), x31v = (Value.slice x31a x31n x31c) ∧
 StCell H27 ⟨b3b, 1, none⟩ (Value.slice x31a x31n x31c) fun H28 =>
 next4 ((IntKind.wrap .i64 (x18 + 1)), ()) H28)
 (∃ (x35a : Option Addr) (x35n x35c : Nat), H21.cell ⟨a1b, 12, none⟩ = some (Value.slice x35a x35n x35c) ∧
 LoopI (Int × Unit) (0, ()) H21 fun x H next => ∀ _g : Env, attr_Copy_l9 x2b b3b x35a x35n x35c next4 x.1 H next R)
def attr_Copy_p (a0c0 : Int) (a0c1a : Option Addr) (a0c1n : Nat) (a0c1c : Nat) (a0c2 : Int) (a0c3 : Bool) (a0c4 : Int) (a0c5 : Bool) (a0c6 : Int) (a0c7 : Bool) (a0c8 : Bool) (a0c9 : Int) (a0c10 : Int) (a0c11a : Option Addr) (a0c11n : Nat) (a0c11c : Nat) (a0c12a : Option Addr) (a0c12n : Nat) (a0c12c : Nat) (H : Heap) (R : Value → Heap → Prop) : Prop :=
 NewW H (Obj.cells ⟨[(Value.int .i64 a0c0), (Value.slice a0c1a a0c1n a0c1c), (Value.int .u32 a0c2), (Value.bool a0c3), (Value.int .u32 a0c4), (Value.bool a0c5), (Value.int .u32 a0c6), (Value.bool a0c7), (Value.bool a0c8), (Value.int .u32 a0c9), (Value.int .u32 a0c10), (Value.slice a0c11a a0c11n a0c11c), (Value.slice a0c12a a0c12n a0c12c)]⟩ T_api_Attrs) fun a1b H1 =>
 NewW H1 (Obj.cells ⟨[(Value.int .i64 0), (Value.slice none 0 0), (Value.int .u32 0), (Value.bool false), (Value.int .u32 0), (Value.bool false), (Value.int .u32 0), (Value.bool false), (Value.bool false), (Value.int .u32 0), (Value.int .u32 0), (Value.slice none 0 0), (Value.slice none 0 0)]⟩ T_api_Attrs) fun x2b H2 =>
 ∃ x8c0 : Int, H2.cell ⟨a1b, 0, none⟩ = some (Value.int .i64 x8c0) ∧ ∃ (x8c1a : Option Addr) (x8c1n x8c1c : Nat), H2.cell ⟨a1b, 1, none⟩ = some (Value.slice x8c1a x8c1n x8c1c) ∧ ∃ x8c2 : Int, H2.cell ⟨a1b, 2, none⟩ = some (Value.int .u32 x8c2) ∧ ∃ x8c3 : Bool, H2.cell ⟨a1b, 3, none⟩ = some (Value.bool x8c3) ∧ ∃ x8c4 : Int, H2.cell ⟨a1b, 4, none⟩ = some (Value.int .u32 x8c4) ∧ ∃ x8c5 : Bool, H2.cell ⟨a1b, 5, none⟩ = some (Value.bool x8c5) ∧ ∃ x8c6 : Int, H2.cell ⟨a1b, 6, none⟩ = some (Value.int .u32 x8c6) ∧ ∃ x8c7 : Bool, H2.cell ⟨a1b, 7, none⟩ = some (Value.bool x8c7) ∧ ∃ x8c8 : Bool, H2.cell ⟨a1b, 8, none⟩ = some (Value.bool x8c8) ∧ ∃ x8c9 : Int, H2.cell ⟨a1b, 9, none⟩ = some (Value.int .u32 x8c9) ∧ ∃ x8c10 : Int, H2.cell ⟨a1b, 10, none⟩ = some (Value.int .u32 x8c10) ∧ ∃ (x8c11a : Option Addr) (x8c11n x8c11c : Nat), H2.cell ⟨a1b, 11, none⟩ = some (Value.slice x8c11a x8c11n x8c11c) ∧ ∃ (x8c12a : Option Addr) (x8c12n x8c12c : Nat), H2.cell ⟨a1b, 12, none⟩ = some (Value.slice x8c12a x8c12n x8c12c) ∧ NewW H2 (Obj.cells ⟨[(Value.int .i64 0), (Value.slice none 0 0), (Value.int .u32 0), (Value.bool false), (Value.int .u32 0), (Value.bool false), (Value.int .u32 0), (Value.bool false), (Value.bool false), (Value.int .u32 0), (Value.int .u32 0), (Value.slice none 0 0), (Value.slice none 0 0)]⟩ T_api_Attrs) fun b3b H3 =>
 StCell H3 ⟨b3b, 0, none⟩ (Value.int .i64 x8c0) fun H4 =>
 StCell H4 ⟨b3b, 1, none⟩ (Value.slice x8c1a x8c1n x8c1c) fun H5 =>
 StCell H5 ⟨b3b, 2, none⟩ (Value.int .u32 x8c2) fun H6 =>
 StCell H6 ⟨b3b, 3, none⟩ (Value.bool x8c3) fun H7 =>
 StCell H7 ⟨b3b, 4, none⟩ (Value.int .u32 x8c4) fun H8 =>
 StCell H8 ⟨b3b, 5, none⟩ (Value.bool x8c5) fun H9 =>
 StCell H9 ⟨b3b, 6, none⟩ (Value.int .u32 x8c6) fun H10 =>
 StCell H10 ⟨b3b, 7, none⟩ (Value.bool x8c7) fun H11 =>
 StCell H11 ⟨b3b, 8, none⟩ (Value.bool x8c8) fun H12 =>
 StCell H12 ⟨b3b, 9, none⟩ (Value.int .u32 x8c9) fun H13 =>
 StCell H13 ⟨b3b, 10, none⟩ (Value.int .u32 x8c10) fun H14 =>
 StCell H14 ⟨b3b, 11, none⟩ (Value.slice x8c11a x8c11n x8c11c) fun H15 =>
 StCell H15 ⟨b3b, 12, none⟩ (Value.slice x8c12a x8c12n x8c12c) fun H16 =>
 ∃ (x10a : Option Addr) (x10n x10c : Nat), H16.cell ⟨a1b, 11, none⟩ = some (Value.slice x10a x10n x10c) ∧
 FnW Try.prog f_slices_Cloneasl_uint32_uint32 ⟨[(Value.slice x10a x10n x10c)]⟩ H16 fun x11v H17 =>
 ∃ (x11a : Option Addr) (x11n x11c : Nat), x11v = (Value.slice x11a x11n x11c) ∧
 StCell H17 ⟨b3b, 1, none⟩ (Value.slice none 0 0) fun H18 =>
 StCell H18 ⟨b3b, 11, none⟩ (Value.slice x11a x11n x11c) fun H19 =>
 StCell H19 ⟨b3b, 12, none⟩ (Value.slice none 0 0) fun H20 =>
 ∃ (x16a : Option Addr) (x16n x16c : Nat), H20.cell ⟨a1b, 1, none⟩ = some (Value.slice x16a x16n x16c) ∧
 LoopI (Int × Unit) (0, ()) H20 fun x H next => ∀ _g : Env, attr_Copy_l4 a1b x2b b3b x16a x16n x16c x.1 H next R
theorem attr_Copy_heq (a0c0 : Int) (a0c1a : Option Addr) (a0c1n : Nat) (a0c1c : Nat) (a0c2 : Int) (a0c3 : Bool) (a0c4 : Int) (a0c5 : Bool) (a0c6 : Int) (a0c7 : Bool) (a0c8 : Bool) (a0c9 : Int) (a0c10 : Int) (a0c11a : Option Addr) (a0c11n : Nat) (a0c11c : Nat) (a0c12a : Option Addr) (a0c12n : Nat) (a0c12c : Nat) (H : Heap) (R : Value → Heap → Prop) : attr_Copy_p a0c0 a0c1a a0c1n a0c1c a0c2 a0c3 a0c4 a0c5 a0c6 a0c7 a0c8 a0c9 a0c10 a0c11a a0c11n a0c11c a0c12a a0c12n a0c12c H R = CodeW Try.prog hplan_attr_Copy (bodyOf Try.f5) (env0 [(Value.agg ⟨[(Value.int .i64 a0c0), (Value.slice a0c1a a0c1n a0c1c), (Value.int .u32 a0c2), (Value.bool a0c3), (Value.int .u32 a0c4), (Value.bool a0c5), (Value.int .u32 a0c6), (Value.bool a0c7), (Value.bool a0c8), (Value.int .u32 a0c9), (Value.int .u32 a0c10), (Value.slice a0c11a a0c11n a0c11c), (Value.slice a0c12a a0c12n a0c12c)]⟩)]) H (RetW Try.prog Try.f5.results.toList R) := by kernel_rfl
theorem attr_Copy_sh (a0c0 : Int) (a0c1a : Option Addr) (a0c1n : Nat) (a0c1c : Nat) (a0c2 : Int) (a0c3 : Bool) (a0c4 : Int) (a0c5 : Bool) (a0c6 : Int) (a0c7 : Bool) (a0c8 : Bool) (a0c9 : Int) (a0c10 : Int) (a0c11a : Option Addr) (a0c11n : Nat) (a0c11c : Nat) (a0c12a : Option Addr) (a0c12n : Nat) (a0c12c : Nat) {H : Heap} {R : Value → Heap → Prop} (h : attr_Copy_p a0c0 a0c1a a0c1n a0c1c a0c2 a0c3 a0c4 a0c5 a0c6 a0c7 a0c8 a0c9 a0c10 a0c11a a0c11n a0c11c a0c12a a0c12n a0c12c H fun v H1 => ∀ H2, Shut H H1 H2 → R v H2) : FnW Try.prog f_attr_Copy ⟨[(Value.agg ⟨[(Value.int .i64 a0c0), (Value.slice a0c1a a0c1n a0c1c), (Value.int .u32 a0c2), (Value.bool a0c3), (Value.int .u32 a0c4), (Value.bool a0c5), (Value.int .u32 a0c6), (Value.bool a0c7), (Value.bool a0c8), (Value.int .u32 a0c9), (Value.int .u32 a0c10), (Value.slice a0c11a a0c11n a0c11c), (Value.slice a0c12a a0c12n a0c12c)]⟩)]⟩ H R := FnW.of_code hk_attr_Copy (by kernel_rfl) (Eq.mp (attr_Copy_heq a0c0 a0c1a a0c1n a0c1c a0c2 a0c3 a0c4 a0c5 a0c6 a0c7 a0c8 a0c9 a0c10 a0c11a a0c11n a0c11c a0c12a a0c12n a0c12c H _) h)
def hplan_slices_Cloneasl_uint32_uint32 : Plan := ⟨[], [], [], []⟩
theorem hk_slices_Cloneasl_uint32_uint32 : Known Try.prog f_slices_Cloneasl_uint32_uint32 Try.f11 hplan_slices_Cloneasl_uint32_uint32 (bodyOf Try.f11) := ⟨Try.func11, by kernel_rfl, by kernel_rfl, by kernel_rfl, by kernel_rfl, by kernel_rfl⟩
def slices_Cloneasl_uint32_uint32_p (s0a : Option Addr) (s0n : Nat) (s0c : Nat) (H : Heap) (R : Value → Heap → Prop) : Prop :=
 IfB s0a.isNone
 (R (Value.slice none 0 0) H)
 (NewW H (Obj.cells ⟨[]⟩ T_uint32) fun x5b H1 =>
 AppW Try.prog #[T_sl_uint32, T_sl_uint32] T_sl_uint32 [(Value.slice (some ⟨x5b, 0, none⟩) 0 0), (Value.slice s0a s0n s0c)] H1 fun x7v H2 =>
 ∃ (x7a : Option Addr) (x7n x7c : Nat), x7v = (Value.slice x7a x7n x7c) ∧
 R (Value.slice x7a x7n x7c) H2)
theorem slices_Cloneasl_uint32_uint32_heq (s0a : Option Addr) (s0n : Nat) (s0c : Nat) (H : Heap) (R : Value → Heap → Prop) : slices_Cloneasl_uint32_uint32_p s0a s0n s0c H R = CodeW Try.prog hplan_slices_Cloneasl_uint32_uint32 (bodyOf Try.f11) (env0 [(Value.slice s0a s0n s0c)]) H (RetW Try.prog Try.f11.results.toList R) := by kernel_rfl
theorem slices_Cloneasl_uint32_uint32_sh (s0a : Option Addr) (s0n : Nat) (s0c : Nat) {H : Heap} {R : Value → Heap → Prop} (h : slices_Cloneasl_uint32_uint32_p s0a s0n s0c H fun v H1 => ∀ H2, Shut H H1 H2 → R v H2) : FnW Try.prog f_slices_Cloneasl_uint32_uint32 ⟨[(Value.slice s0a s0n s0c)]⟩ H R := FnW.of_code hk_slices_Cloneasl_uint32_uint32 (by kernel_rfl) (Eq.mp (slices_Cloneasl_uint32_uint32_heq s0a s0n s0c H _) h)
def hplan_slices_Cloneasl_byte_byte : Plan := ⟨[], [], [], []⟩
theorem hk_slices_Cloneasl_byte_byte : Known Try.prog f_slices_Cloneasl_byte_byte Try.f12 hplan_slices_Cloneasl_byte_byte (bodyOf Try.f12) := ⟨Try.func12, by kernel_rfl, by kernel_rfl, by kernel_rfl, by kernel_rfl, by kernel_rfl⟩
def slices_Cloneasl_byte_byte_p (s0a : Option Addr) (s0n : Nat) (s0c : Nat) (H : Heap) (R : Value → Heap → Prop) : Prop :=
 IfB s0a.isNone
 (R (Value.slice none 0 0) H)
 (NewW H (Obj.cells ⟨[]⟩ T_uint8) fun x5b H1 =>
 AppW Try.prog #[T_sl_uint8, T_sl_uint8] T_sl_uint8 [(Value.slice (some ⟨x5b, 0, none⟩) 0 0), (Value.slice s0a s0n s0c)] H1 fun x7v H2 =>
 ∃ (x7a : Option Addr) (x7n x7c : Nat), x7v = (Value.slice x7a x7n x7c) ∧
 R (Value.slice x7a x7n x7c) H2)
theorem slices_Cloneasl_byte_byte_heq (s0a : Option Addr) (s0n : Nat) (s0c : Nat) (H : Heap) (R : Value → Heap → Prop) : slices_Cloneasl_byte_byte_p s0a s0n s0c H R = CodeW Try.prog hplan_slices_Cloneasl_byte_byte (bodyOf Try.f12) (env0 [(Value.slice s0a s0n s0c)]) H (RetW Try.prog Try.f12.results.toList R) := by kernel_rfl
theorem slices_Cloneasl_byte_byte_sh (s0a : Option Addr) (s0n : Nat) (s0c : Nat) {H : Heap} {R : Value → Heap → Prop} (h : slices_Cloneasl_byte_byte_p s0a s0n s0c H fun v H1 => ∀ H2, Shut H H1 H2 → R v H2) : FnW Try.prog f_slices_Cloneasl_byte_byte ⟨[(Value.slice s0a s0n s0c)]⟩ H R := FnW.of_code hk_slices_Cloneasl_byte_byte (by kernel_rfl) (Eq.mp (slices_Cloneasl_byte_byte_heq s0a s0n s0c H _) h)
end Go.Proofs.Ytomdgakmkihfhaa
