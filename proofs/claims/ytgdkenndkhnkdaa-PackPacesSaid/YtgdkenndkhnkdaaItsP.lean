/-
  SOME FUNCTIONS IN PLAIN LOGIC: printed by a program of ours over this translation.
-/
import Derived.Test.YtgdkenndkhnkdaaNum
import Derived.Test.YtgdkenndkhnkdaaRows
set_option maxRecDepth 100000
set_option linter.unusedVariables false
namespace Go.Proofs.Ytgdkenndkhnkdaa
open Go.Sh
def hplan_law33_PackPaces : Plan := ⟨[], [(6, [7, 8, 9], [.int .i64, .int .i64, .int .i64], [0, 1, 5])], [], []⟩
theorem hk_law33_PackPaces : Known Try.prog f_law33_PackPaces Try.f6 hplan_law33_PackPaces (bodyOf Try.f6) := by refine ⟨Try.func6, ?_, ?_, ?_, ?_, ?_⟩ <;> kernel_rfl
def law33_PackPaces_j2 (gap0 : Int) (times1a : Option Addr) (times1n : Nat) (times1c : Nat) (x14r0 : Option Addr) (i9 : Int) (next6 : (Int × Int × Int × Unit) → Heap → Prop) (next7_1 : Int) (last8_1 : Int) (H8 : Heap) (R : Value → Heap → Prop) : Prop :=
 FnW Try.prog f_pack_Pacer_Next ⟨[(Value.pointer x14r0)]⟩ H8 fun x82v H9 =>
 ∃ x82 : Int, x82v = (Value.int .i64 x82) ∧
 IfB ((x82 : Int) != next7_1)
 (R (Value.bool false) H9)
 (next6 (next7_1, (last8_1, ((IntKind.wrap .i64 (i9 + 1)), ()))) H9)
def law33_PackPaces_j1 (gap0 : Int) (times1a : Option Addr) (times1n : Nat) (times1c : Nat) (x14r0 : Option Addr) (next7 : Int) (last8 : Int) (i9 : Int) (x49 : Int) (x56 : Bool) (next6 : (Int × Int × Int × Unit) → Heap → Prop) (x75 : Bool) (H7 : Heap) (R : Value → Heap → Prop) : Prop :=
 IfB x75
 (R (Value.bool false) H7)
 (IfB x56
 (law33_PackPaces_j2 gap0 times1a times1n times1c x14r0 i9 next6 (IntKind.wrap .i64 ((min x49 1099511627776) + gap0)) (min x49 1099511627776) H7 R)
 (law33_PackPaces_j2 gap0 times1a times1n times1c x14r0 i9 next6 next7 last8 H7 R))
def law33_PackPaces_j0 (gap0 : Int) (times1a : Option Addr) (times1n : Nat) (times1c : Nat) (x14r0 : Option Addr) (next7 : Int) (last8 : Int) (i9 : Int) (next6 : (Int × Int × Int × Unit) → Heap → Prop) (x43 : Bool) (H5 : Heap) (R : Value → Heap → Prop) : Prop :=
 IfB x43
 (NilP times1a fun x48q =>
 InB i9 times1n fun x48i =>
 elemAt x48q x48i 1 fun x48p =>
 ∃ x49 : Int, H5.cell x48p = some (Value.int .i64 x49) ∧
 NilP times1a fun x54q =>
 InB i9 times1n fun x54i =>
 elemAt x54q x54i 1 fun x54p =>
 ∃ x55 : Int, H5.cell x54p = some (Value.int .i64 x55) ∧
 FnW Try.prog f_pack_Pacer_Go ⟨[(Value.pointer x14r0), (Value.int .i64 x55)]⟩ H5 fun x56v H6 =>
 ∃ x56 : Bool, x56v = (Value.bool x56) ∧
 IfB (!(x56 == (decide (((min x49 1099511627776) : Int) ≥ next7))))
 (law33_PackPaces_j1 gap0 times1a times1n times1c x14r0 next7 last8 i9 x49 x56 next6 true H6 R)
 (IfB x56
 (IfB (decide ((last8 : Int) ≥ 0))
 (law33_PackPaces_j1 gap0 times1a times1n times1c x14r0 next7 last8 i9 x49 x56 next6 (decide (((IntKind.wrap .i64 ((min x49 1099511627776) - last8)) : Int) < gap0)) H6 R)
 (law33_PackPaces_j1 gap0 times1a times1n times1c x14r0 next7 last8 i9 x49 x56 next6 false H6 R))
 (law33_PackPaces_j1 gap0 times1a times1n times1c x14r0 next7 last8 i9 x49 x56 next6 false H6 R)))
 (IfB (decide ((gap0 : Int) ≥ 0))
 (IfB (decide ((gap0 : Int) ≤ 100000))
 (FnW Try.prog f_law33_works ⟨[]⟩ H5 fun x92v H10 =>
 ∃ x92 : Bool, x92v = (Value.bool x92) ∧
 R (Value.bool x92) H10)
 (R (Value.bool false) H5))
 (R (Value.bool false) H5))
def law33_PackPaces_l6 (gap0 : Int) (times1a : Option Addr) (times1n : Nat) (times1c : Nat) (x14r0 : Option Addr) (next7 : Int) (last8 : Int) (i9 : Int) (H4 : Heap) (next6 : (Int × Int × Int × Unit) → Heap → Prop) (R : Value → Heap → Prop) : Prop :=
 IfB (decide ((i9 : Int) < (times1n : Int)))
 (law33_PackPaces_j0 gap0 times1a times1n times1c x14r0 next7 last8 i9 next6 (decide ((i9 : Int) < 60)) H4 R)
 (law33_PackPaces_j0 gap0 times1a times1n times1c x14r0 next7 last8 i9 next6 false H4 R)
def law33_PackPaces_p (gap0 : Int) (times1a : Option Addr) (times1n : Nat) (times1c : Nat) (H : Heap) (R : Value → Heap → Prop) : Prop :=
 FnW Try.prog f_pack_New ⟨[(Value.int .i64 gap0)]⟩ H fun x14v H1 =>
 ∃ x14r0 : Option Addr, ∃ x14r1 : Int, x14v = (Value.tuple ⟨[(Value.pointer x14r0), (Value.int .i64 x14r1)]⟩) ∧
 IfB ((x14r1 : Int) != 0)
 (IfB ((x14r1 : Int) == 2)
 (IfB x14r0.isNone
 (IfB (decide ((gap0 : Int) < 0))
 (FnW Try.prog f_law33_works ⟨[]⟩ H1 fun x34v H2 =>
 ∃ x34 : Bool, x34v = (Value.bool x34) ∧
 R (Value.bool x34) H2)
 (IfB (decide ((gap0 : Int) > 100000))
 (FnW Try.prog f_law33_works ⟨[]⟩ H1 fun x34v_1 H3 =>
 ∃ x34_1 : Bool, x34v_1 = (Value.bool x34_1) ∧
 R (Value.bool x34_1) H3)
 (R (Value.bool false) H1)))
 (R (Value.bool false) H1))
 (R (Value.bool false) H1))
 (LoopI (Int × Int × Int × Unit) (0, ((-1), (0, ()))) H1 fun x H next => ∀ _g : Env, law33_PackPaces_l6 gap0 times1a times1n times1c x14r0 x.1 x.2.1 x.2.2.1 H next R)
theorem law33_PackPaces_eq (gap0 : Int) (times1a : Option Addr) (times1n : Nat) (times1c : Nat) (H : Heap) (R : Value → Heap → Prop) : law33_PackPaces_p gap0 times1a times1n times1c H R = CodeW Try.prog hplan_law33_PackPaces (bodyOf Try.f6) (env0 [(Value.int .i64 gap0), (Value.slice times1a times1n times1c)]) H (RetW Try.prog Try.f6.results.toList R) := by kernel_rfl
theorem law33_PackPaces_sh (gap0 : Int) (times1a : Option Addr) (times1n : Nat) (times1c : Nat) {H : Heap} {R : Value → Heap → Prop} (h : law33_PackPaces_p gap0 times1a times1n times1c H fun v H1 => ∀ H2, Shut H H1 H2 → R v H2) : FnW Try.prog f_law33_PackPaces ⟨[(Value.int .i64 gap0), (Value.slice times1a times1n times1c)]⟩ H R := FnW.of_code hk_law33_PackPaces (by kernel_rfl) (Eq.mp (law33_PackPaces_eq gap0 times1a times1n times1c H _) h)
def hplan_pack_Pacer_Go : Plan := ⟨[], [], [], []⟩
theorem hk_pack_Pacer_Go : Known Try.prog f_pack_Pacer_Go Try.f15 hplan_pack_Pacer_Go (bodyOf Try.f15) := by refine ⟨Try.func15, ?_, ?_, ?_, ?_, ?_⟩ <;> kernel_rfl
def pack_Pacer_Go_j0 (p0b : Nat) (now1 : Int) (x23 : Bool) (H1 : Heap) (R : Value → Heap → Prop) : Prop :=
 IfB x23
 (R (Value.bool false) H1)
 (∃ x29 : Int, H1.cell ⟨p0b, 0, none⟩ = some (Value.int .i64 x29) ∧
 StCell H1 ⟨p0b, 1, none⟩ (Value.int .i64 (IntKind.wrap .i64 ((min now1 1099511627776) + x29))) fun H2 =>
 R (Value.bool true) H2)
def pack_Pacer_Go_p (p0b : Nat) (now1 : Int) (H : Heap) (R : Value → Heap → Prop) : Prop :=
 ∃ x13 : Bool, H.cell ⟨p0b, 2, none⟩ = some (Value.bool x13) ∧
 IfB (!x13)
 (pack_Pacer_Go_j0 p0b now1 true H R)
 (∃ x21 : Int, H.cell ⟨p0b, 1, none⟩ = some (Value.int .i64 x21) ∧
 pack_Pacer_Go_j0 p0b now1 (decide (((min now1 1099511627776) : Int) < x21)) H R)
theorem pack_Pacer_Go_eq (p0b : Nat) (now1 : Int) (H : Heap) (R : Value → Heap → Prop) : pack_Pacer_Go_p p0b now1 H R = CodeW Try.prog hplan_pack_Pacer_Go (bodyOf Try.f15) (env0 [(Value.pointer (some ⟨p0b, 0, none⟩)), (Value.int .i64 now1)]) H (RetW Try.prog Try.f15.results.toList R) := by kernel_rfl
theorem pack_Pacer_Go_sh (p0b : Nat) (now1 : Int) {H : Heap} {R : Value → Heap → Prop} (h : pack_Pacer_Go_p p0b now1 H fun v H1 => ∀ H2, Shut H H1 H2 → R v H2) : FnW Try.prog f_pack_Pacer_Go ⟨[(Value.pointer (some ⟨p0b, 0, none⟩)), (Value.int .i64 now1)]⟩ H R := FnW.of_code hk_pack_Pacer_Go (by kernel_rfl) (Eq.mp (pack_Pacer_Go_eq p0b now1 H _) h)
def hplan_pack_Pacer_Next : Plan := ⟨[], [], [], []⟩
theorem hk_pack_Pacer_Next : Known Try.prog f_pack_Pacer_Next Try.f16 hplan_pack_Pacer_Next (bodyOf Try.f16) := by refine ⟨Try.func16, ?_, ?_, ?_, ?_, ?_⟩ <;> kernel_rfl
def pack_Pacer_Next_p (p0b : Nat) (H : Heap) (R : Value → Heap → Prop) : Prop :=
 ∃ x8 : Int, H.cell ⟨p0b, 1, none⟩ = some (Value.int .i64 x8) ∧
 R (Value.int .i64 x8) H
theorem pack_Pacer_Next_eq (p0b : Nat) (H : Heap) (R : Value → Heap → Prop) : pack_Pacer_Next_p p0b H R = CodeW Try.prog hplan_pack_Pacer_Next (bodyOf Try.f16) (env0 [(Value.pointer (some ⟨p0b, 0, none⟩))]) H (RetW Try.prog Try.f16.results.toList R) := by kernel_rfl
theorem pack_Pacer_Next_sh (p0b : Nat) {H : Heap} {R : Value → Heap → Prop} (h : pack_Pacer_Next_p p0b H fun v H1 => ∀ H2, Shut H H1 H2 → R v H2) : FnW Try.prog f_pack_Pacer_Next ⟨[(Value.pointer (some ⟨p0b, 0, none⟩))]⟩ H R := FnW.of_code hk_pack_Pacer_Next (by kernel_rfl) (Eq.mp (pack_Pacer_Next_eq p0b H _) h)
def hplan_pack_New : Plan := ⟨[], [], [], []⟩
theorem hk_pack_New : Known Try.prog f_pack_New Try.f17 hplan_pack_New (bodyOf Try.f17) := by refine ⟨Try.func17, ?_, ?_, ?_, ?_, ?_⟩ <;> kernel_rfl
def pack_New_j0 (gap0 : Int) (x9 : Bool) (H1 : Heap) (R : Value → Heap → Prop) : Prop :=
 IfB x9
 (R (Value.tuple ⟨[(Value.pointer none), (Value.int .i64 2)]⟩) H1)
 (NewW H1 (Obj.cells ⟨[(Value.int .i64 gap0), (Value.int .i64 0), (Value.bool true)]⟩ T_pack_Pacer) fun x12b H2 =>
 R (Value.tuple ⟨[(Value.pointer (some ⟨x12b, 0, none⟩)), (Value.int .i64 0)]⟩) H2)
def pack_New_p (gap0 : Int) (H : Heap) (R : Value → Heap → Prop) : Prop :=
 IfB (decide ((gap0 : Int) < 0))
 (pack_New_j0 gap0 true H R)
 (pack_New_j0 gap0 (decide ((gap0 : Int) > 100000)) H R)
theorem pack_New_eq (gap0 : Int) (H : Heap) (R : Value → Heap → Prop) : pack_New_p gap0 H R = CodeW Try.prog hplan_pack_New (bodyOf Try.f17) (env0 [(Value.int .i64 gap0)]) H (RetW Try.prog Try.f17.results.toList R) := by kernel_rfl
theorem pack_New_sh (gap0 : Int) {H : Heap} {R : Value → Heap → Prop} (h : pack_New_p gap0 H fun v H1 => ∀ H2, Shut H H1 H2 → R v H2) : FnW Try.prog f_pack_New ⟨[(Value.int .i64 gap0)]⟩ H R := FnW.of_code hk_pack_New (by kernel_rfl) (Eq.mp (pack_New_eq gap0 H _) h)
end Go.Proofs.Ytgdkenndkhnkdaa
