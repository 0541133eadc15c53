/-
  SOME FUNCTIONS IN PLAIN LOGIC: printed by a program of ours over this translation.
-/
import Derived.Test.YtgdkenndkhnkdaaNum
import Derived.Test.YtgdkenndkhnkdaaRows
set_option maxRecDepth 100000
set_option linter.unusedVariables false
namespace Go.Proofs.Ytgdkenndkhnkdaa
open Go.Sh
def hplan_law33_PackVoid : Plan := ⟨[], [], [], []⟩
theorem hk_law33_PackVoid : Known Try.prog f_law33_PackVoid Try.f5 hplan_law33_PackVoid (bodyOf Try.f5) := by refine ⟨Try.func5, ?_, ?_, ?_, ?_, ?_⟩ <;> kernel_rfl
def law33_PackVoid_p (now0 : Int) (H : Heap) (R : Value → Heap → Prop) : Prop :=
 FnW Try.prog f_law33_works ⟨[]⟩ H fun x5v H1 =>
 ∃ x5 : Bool, x5v = (Value.bool x5) ∧
 IfB (!x5)
 (R (Value.bool false) H1)
 (NewW H1 (Obj.cells ⟨[(Value.int .i64 0), (Value.int .i64 0), (Value.bool false)]⟩ T_pack_Pacer) fun z4b H2 =>
 FnW Try.prog f_pack_Pacer_Go ⟨[(Value.pointer none), (Value.int .i64 now0)]⟩ H2 fun x9v H3 =>
 ∃ x9 : Bool, x9v = (Value.bool x9) ∧
 IfB (!x9)
 (FnW Try.prog f_pack_Pacer_Go ⟨[(Value.pointer (some ⟨z4b, 0, none⟩)), (Value.int .i64 now0)]⟩ H3 fun x13v H4 =>
 ∃ x13 : Bool, x13v = (Value.bool x13) ∧
 IfB (!x13)
 (FnW Try.prog f_pack_Pacer_Next ⟨[(Value.pointer none)]⟩ H4 fun x18v H5 =>
 ∃ x18 : Int, x18v = (Value.int .i64 x18) ∧
 FnW Try.prog f_pack_Pacer_Next ⟨[(Value.pointer (some ⟨z4b, 0, none⟩))]⟩ H5 fun x19v H6 =>
 ∃ x19 : Int, x19v = (Value.int .i64 x19) ∧
 R (Value.bool (((IntKind.wrap .i64 (x18 + x19)) : Int) == 0)) H6)
 (R (Value.bool false) H4))
 (R (Value.bool false) H3))
theorem law33_PackVoid_eq (now0 : Int) (H : Heap) (R : Value → Heap → Prop) : law33_PackVoid_p now0 H R = CodeW Try.prog hplan_law33_PackVoid (bodyOf Try.f5) (env0 [(Value.int .i64 now0)]) H (RetW Try.prog Try.f5.results.toList R) := by kernel_rfl
theorem law33_PackVoid_sh (now0 : Int) {H : Heap} {R : Value → Heap → Prop} (h : law33_PackVoid_p now0 H fun v H1 => ∀ H2, Shut H H1 H2 → R v H2) : FnW Try.prog f_law33_PackVoid ⟨[(Value.int .i64 now0)]⟩ H R := FnW.of_code hk_law33_PackVoid (by kernel_rfl) (Eq.mp (law33_PackVoid_eq now0 H _) h)
def hplan_pack_Pacer_Go : Plan := ⟨[], [], [], []⟩
theorem hk_pack_Pacer_Go : Known Try.prog f_pack_Pacer_Go Try.f15 hplan_pack_Pacer_Go (bodyOf Try.f15) := by refine ⟨Try.func15, ?_, ?_, ?_, ?_, ?_⟩ <;> kernel_rfl
def pack_Pacer_Go_j0 (p0b : Nat) (now1 : Int) (x23 : Bool) (H1 : Heap) (R : Value → Heap → Prop) : Prop :=
 IfB x23
 (R (Value.bool false) H1)
 (∃ x29 : Int, H1.cell ⟨p0b, 0, none⟩ = some (Value.int .i64 x29) ∧
 StCell H1 ⟨p0b, 1, none⟩ (Value.int .i64 (IntKind.wrap .i64 ((min now1 1099511627776) + x29))) fun H2 =>
 R (Value.bool true) H2)
def pack_Pacer_Go_p (p0b : Nat) (now1 : Int) (H : Heap) (R : Value → Heap → Prop) : Prop :=
 ∃ x13 : Bool, H.cell ⟨p0b, 2, none⟩ = some (Value.bool x13) ∧
 IfB (!x13)
 (pack_Pacer_Go_j0 p0b now1 true H R)
 (∃ x21 : Int, H.cell ⟨p0b, 1, none⟩ = some (Value.int .i64 x21) ∧
 pack_Pacer_Go_j0 p0b now1 (decide (((min now1 1099511627776) : Int) < x21)) H R)
theorem pack_Pacer_Go_eq (p0b : Nat) (now1 : Int) (H : Heap) (R : Value → Heap → Prop) : pack_Pacer_Go_p p0b now1 H R = CodeW Try.prog hplan_pack_Pacer_Go (bodyOf Try.f15) (env0 [(Value.pointer (some ⟨p0b, 0, none⟩)), (Value.int .i64 now1)]) H (RetW Try.prog Try.f15.results.toList R) := by kernel_rfl
theorem pack_Pacer_Go_sh (p0b : Nat) (now1 : Int) {H : Heap} {R : Value → Heap → Prop} (h : pack_Pacer_Go_p p0b now1 H fun v H1 => ∀ H2, Shut H H1 H2 → R v H2) : FnW Try.prog f_pack_Pacer_Go ⟨[(Value.pointer (some ⟨p0b, 0, none⟩)), (Value.int .i64 now1)]⟩ H R := FnW.of_code hk_pack_Pacer_Go (by kernel_rfl) (Eq.mp (pack_Pacer_Go_eq p0b now1 H _) h)
def pack_Pacer_Go_nil_p (now1 : Int) (H : Heap) (R : Value → Heap → Prop) : Prop :=
 R (Value.bool false) H
theorem pack_Pacer_Go_nil_eq (now1 : Int) (H : Heap) (R : Value → Heap → Prop) : pack_Pacer_Go_nil_p now1 H R = CodeW Try.prog hplan_pack_Pacer_Go (bodyOf Try.f15) (env0 [(Value.pointer none), (Value.int .i64 now1)]) H (RetW Try.prog Try.f15.results.toList R) := by kernel_rfl
theorem pack_Pacer_Go_nil_sh (now1 : Int) {H : Heap} {R : Value → Heap → Prop} (h : pack_Pacer_Go_nil_p now1 H fun v H1 => ∀ H2, Shut H H1 H2 → R v H2) : FnW Try.prog f_pack_Pacer_Go ⟨[(Value.pointer none), (Value.int .i64 now1)]⟩ H R := FnW.of_code hk_pack_Pacer_Go (by kernel_rfl) (Eq.mp (pack_Pacer_Go_nil_eq now1 H _) h)
def hplan_pack_Pacer_Next : Plan := ⟨[], [], [], []⟩
theorem hk_pack_Pacer_Next : Known Try.prog f_pack_Pacer_Next Try.f16 hplan_pack_Pacer_Next (bodyOf Try.f16) := by refine ⟨Try.func16, ?_, ?_, ?_, ?_, ?_⟩ <;> kernel_rfl
def pack_Pacer_Next_p (p0b : Nat) (H : Heap) (R : Value → Heap → Prop) : Prop :=
 ∃ x8 : Int, H.cell ⟨p0b, 1, none⟩ = some (Value.int .i64 x8) ∧
 R (Value.int .i64 x8) H
theorem pack_Pacer_Next_eq (p0b : Nat) (H : Heap) (R : Value → Heap → Prop) : pack_Pacer_Next_p p0b H R = CodeW Try.prog hplan_pack_Pacer_Next (bodyOf Try.f16) (env0 [(Value.pointer (some ⟨p0b, 0, none⟩))]) H (RetW Try.prog Try.f16.results.toList R) := by kernel_rfl
theorem pack_Pacer_Next_sh (p0b : Nat) {H : Heap} {R : Value → Heap → Prop} (h : pack_Pacer_Next_p p0b H fun v H1 => ∀ H2, Shut H H1 H2 → R v H2) : FnW Try.prog f_pack_Pacer_Next ⟨[(Value.pointer (some ⟨p0b, 0, none⟩))]⟩ H R := FnW.of_code hk_pack_Pacer_Next (by kernel_rfl) (Eq.mp (pack_Pacer_Next_eq p0b H _) h)
def pack_Pacer_Next_nil_p (H : Heap) (R : Value → Heap → Prop) : Prop :=
 R (Value.int .i64 0) H
theorem pack_Pacer_Next_nil_eq  (H : Heap) (R : Value → Heap → Prop) : pack_Pacer_Next_nil_p  H R = CodeW Try.prog hplan_pack_Pacer_Next (bodyOf Try.f16) (env0 [(Value.pointer none)]) H (RetW Try.prog Try.f16.results.toList R) := by kernel_rfl
theorem pack_Pacer_Next_nil_sh  {H : Heap} {R : Value → Heap → Prop} (h : pack_Pacer_Next_nil_p  H fun v H1 => ∀ H2, Shut H H1 H2 → R v H2) : FnW Try.prog f_pack_Pacer_Next ⟨[(Value.pointer none)]⟩ H R := FnW.of_code hk_pack_Pacer_Next (by kernel_rfl) (Eq.mp (pack_Pacer_Next_nil_eq  H _) h)
end Go.Proofs.Ytgdkenndkhnkdaa
