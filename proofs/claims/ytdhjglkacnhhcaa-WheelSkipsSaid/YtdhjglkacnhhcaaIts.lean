/-
  SOME FUNCTIONS IN PLAIN LOGIC: printed by a program of ours over this translation.
-/
import Derived.Test.YtdhjglkacnhhcaaNum
import Derived.Test.YtdhjglkacnhhcaaRows
set_option maxRecDepth 100000
set_option linter.unusedVariables false
namespace Go.Proofs.Ytdhjglkacnhhcaa
open Go.Sh
noncomputable def zl_T_wheel_Wheel : List Value := (zeroL Try.prog T_wheel_Wheel).getD []
def hplan_law04_WheelFull : Plan := ⟨[], [(7, [7], [.int .i64], [1, 5, 6])], [], []⟩
theorem hk_law04_WheelFull : Known Try.prog f_law04_WheelFull Try.f3 hplan_law04_WheelFull (bodyOf Try.f3) := ⟨Try.func3, by kernel_rfl, by kernel_rfl, by kernel_rfl, by kernel_rfl, by kernel_rfl⟩
def law04_WheelFull_l7 (x12 : Int) (x10 : Option Addr) (x15 : Int) (i7 : Int) (H5 : Heap) (next7 : (Int × Unit) → Heap → Prop) (R : Value → Heap → Prop) : Prop :=
 IfB (decide ((i7 : Int) < (IntKind.wrap .i64 (256 + x15))))
 (FnW Try.prog f_wheel_Wheel_Set ⟨[(Value.pointer x10), (Value.int .i64 i7), (Value.int .i64 (IntKind.wrap .i64 (1 + x12)))]⟩ H5 fun x25v H6 =>
 ∃ x25 : Int, x25v = (Value.int .i64 x25) ∧
 IfB (!(((x25 : Int) == 0) == (decide ((i7 : Int) < 256))))
 (R (Value.bool false) H6)
 (next7 ((IntKind.wrap .i64 (i7 + 1)), ()) H6))
 (FnW Try.prog f_wheel_Wheel_Len ⟨[(Value.pointer x10)]⟩ H5 fun x31v H7 =>
 ∃ x31 : Int, x31v = (Value.int .i64 x31) ∧
 IfB ((x31 : Int) == 256)
 (FnW Try.prog f_wheel_Wheel_Set ⟨[(Value.pointer x10), (Value.int .i64 5), (Value.int .i64 (IntKind.wrap .i64 ((IntKind.wrap .i64 (1 + x12)) + 1)))]⟩ H7 fun x37v H8 =>
 ∃ x37 : Int, x37v = (Value.int .i64 x37) ∧
 IfB ((x37 : Int) == 0)
 (FnW Try.prog f_wheel_Wheel_Set ⟨[(Value.pointer x10), (Value.int .i64 (IntKind.wrap .i64 (256 + x15))), (Value.int .i64 1)]⟩ H8 fun x43v H9 =>
 ∃ x43 : Int, x43v = (Value.int .i64 x43) ∧
 R (Value.bool ((x43 : Int) == 4)) H9)
 (R (Value.bool false) H8))
 (R (Value.bool false) H7))
def law04_WheelFull_p (more0 : Int) (after1 : Int) (H : Heap) (R : Value → Heap → Prop) : Prop :=
 FnW Try.prog f_law04_works ⟨[]⟩ H fun x8v H1 =>
 ∃ x8 : Bool, x8v = (Value.bool x8) ∧
 IfB (!x8)
 (R (Value.bool false) H1)
 (FnW Try.prog f_wheel_New ⟨[]⟩ H1 fun x10v H2 =>
 ∃ x10 : Option Addr, x10v = (Value.pointer x10) ∧
 FnW Try.prog f_base_Among ⟨[(Value.int .i64 after1), (Value.int .i64 1000)]⟩ H2 fun x12v H3 =>
 ∃ x12 : Int, x12v = (Value.int .i64 x12) ∧
 FnW Try.prog f_base_Among ⟨[(Value.int .i64 more0), (Value.int .i64 3)]⟩ H3 fun x15v H4 =>
 ∃ x15 : Int, x15v = (Value.int .i64 x15) ∧
 LoopI (Int × Unit) (0, ()) H4 fun x H next => ∀ _g : Env, law04_WheelFull_l7 x12 x10 x15 x.1 H next R)
theorem law04_WheelFull_heq (more0 : Int) (after1 : Int) (H : Heap) (R : Value → Heap → Prop) : law04_WheelFull_p more0 after1 H R = CodeW Try.prog hplan_law04_WheelFull (bodyOf Try.f3) (env0 [(Value.int .i64 more0), (Value.int .i64 after1)]) H (RetW Try.prog Try.f3.results.toList R) := by kernel_rfl
theorem law04_WheelFull_sh (more0 : Int) (after1 : Int) {H : Heap} {R : Value → Heap → Prop} (h : law04_WheelFull_p more0 after1 H fun v H1 => ∀ H2, Shut H H1 H2 → R v H2) : FnW Try.prog f_law04_WheelFull ⟨[(Value.int .i64 more0), (Value.int .i64 after1)]⟩ H R := FnW.of_code hk_law04_WheelFull (by kernel_rfl) (Eq.mp (law04_WheelFull_heq more0 after1 H _) h)
def hplan_law04_WheelSkips : Plan := ⟨[], [(5, [8], [.int .i64], [0, 1, 5, 6, 7]), (10, [9], [.int .i64], [0, 1, 5, 6, 7]), (19, [12, 13], [.slice, .int .i64], [1, 5, 6, 10, 11])], [], []⟩
theorem hk_law04_WheelSkips : Known Try.prog f_law04_WheelSkips Try.f4 hplan_law04_WheelSkips (bodyOf Try.f4) := ⟨Try.func4, by kernel_rfl, by kernel_rfl, by kernel_rfl, by kernel_rfl, by kernel_rfl⟩
def law04_WheelSkips_l19 (x59 : Int) (x18 : Option Addr) (x19 : Option Addr) (x67r0a : Option Addr) (x67r0n : Nat) (x67r0c : Nat) (x67r1 : Int) (next5 : (Int × Unit) → Heap → Prop) (next10 : (Int × Unit) → Heap → Prop) (m12a : Option Addr) (m12n : Nat) (m12c : Nat) (i13 : Int) (H16 : Heap) (next19 : ((Option Addr × Nat × Nat) × Int × Unit) → Heap → Prop) (R : Value → Heap → Prop) : Prop :=
 IfB (decide ((i13 : Int) < (IntKind.wrap .i64 (1 + x59))))
 (FnW Try.prog f_wheel_Wheel_Tick ⟨[(Value.pointer x19)]⟩ H16 fun x78v H17 =>
 ∃ (x78r0a : Option Addr) (x78r0n x78r0c : Nat), ∃ x78r1 : Int, x78v = (Value.tuple ⟨[(Value.slice x78r0a x78r0n x78r0c), (Value.int .i64 x78r1)]⟩) ∧
 IfB ((x78r1 : Int) != 0)
 (R (Value.bool false) H17)
 (AppW Try.prog #[T_sl_int, T_sl_int] T_sl_int [(Value.slice m12a m12n m12c), (Value.slice x78r0a x78r0n x78r0c)] H17 fun x85v H18 =>
 ∃ (x85a : Option Addr) (x85n x85c : Nat), x85v = (Value.slice x85a x85n x85c) ∧
 next19 ((x85a, x85n, x85c), ((IntKind.wrap .i64 (i13 + 1)), ())) H18))
 (IfB ((x67r1 : Int) == 0)
 (FnW Try.prog f_base_SameInts ⟨[(Value.slice x67r0a x67r0n x67r0c), (Value.slice m12a m12n m12c)]⟩ H16 fun x91v H19 =>
 ∃ x91 : Bool, x91v = (Value.bool x91) ∧
 IfB x91
 (FnW Try.prog f_wheel_Wheel_Now ⟨[(Value.pointer x18)]⟩ H19 fun x95v H20 =>
 ∃ x95 : Int, x95v = (Value.int .i64 x95) ∧
 FnW Try.prog f_wheel_Wheel_Now ⟨[(Value.pointer x19)]⟩ H20 fun x97v H21 =>
 ∃ x97 : Int, x97v = (Value.int .i64 x97) ∧
 IfB ((x95 : Int) == x97)
 (FnW Try.prog f_wheel_Wheel_Len ⟨[(Value.pointer x18)]⟩ H21 fun x102v H22 =>
 ∃ x102 : Int, x102v = (Value.int .i64 x102) ∧
 FnW Try.prog f_wheel_Wheel_Len ⟨[(Value.pointer x19)]⟩ H22 fun x104v H23 =>
 ∃ x104 : Int, x104v = (Value.int .i64 x104) ∧
 R (Value.bool ((x102 : Int) == x104)) H23)
 (R (Value.bool false) H21))
 (R (Value.bool false) H19))
 (R (Value.bool false) H16))
def law04_WheelSkips_j1 (acts0a : Option Addr) (acts0n : Nat) (acts0c : Nat) (n1 : Int) (x18 : Option Addr) (x19 : Option Addr) (x40b : Nat) (i9 : Int) (next5 : (Int × Unit) → Heap → Prop) (next10 : (Int × Unit) → Heap → Prop) (x48 : Bool) (H10 : Heap) (R : Value → Heap → Prop) : Prop :=
 IfB x48
 (NilP acts0a fun x55q =>
 InB i9 acts0n fun x55i =>
 elemAt x55q x55i 3 fun x55p =>
 ∃ x56c0 : Int, H10.cell x55p = some (Value.int .i64 x56c0) ∧ ∃ x56c1 : Int, H10.cell ⟨x55p.block, x55p.off + 1, none⟩ = some (Value.int .i64 x56c1) ∧ ∃ x56c2 : Int, H10.cell ⟨x55p.block, x55p.off + 2, none⟩ = some (Value.int .i64 x56c2) ∧ FnW Try.prog f_law04_do ⟨[(Value.pointer x19), (Value.pointer (some ⟨x40b, 0, none⟩)), (Value.agg ⟨[(Value.int .i64 x56c0), (Value.int .i64 x56c1), (Value.int .i64 x56c2)]⟩)]⟩ H10 fun x57v H11 =>
 ∃ x57 : Bool, x57v = (Value.bool x57) ∧
 next10 ((IntKind.wrap .i64 (i9 + 1)), ()) H11)
 (FnW Try.prog f_base_Among ⟨[(Value.int .i64 n1), (Value.int .i64 200)]⟩ H10 fun x59v H12 =>
 ∃ x59 : Int, x59v = (Value.int .i64 x59) ∧
 FnW Try.prog f_wheel_Wheel_Now ⟨[(Value.pointer x18)]⟩ H12 fun x62v H13 =>
 ∃ x62 : Int, x62v = (Value.int .i64 x62) ∧
 IfB (decide ((x62 : Int) > 1099511627476))
 (R (Value.bool true) H13)
 (FnW Try.prog f_wheel_Wheel_Skip ⟨[(Value.pointer x18), (Value.int .i64 (IntKind.wrap .i64 (1 + x59)))]⟩ H13 fun x67v H14 =>
 ∃ (x67r0a : Option Addr) (x67r0n x67r0c : Nat), ∃ x67r1 : Int, x67v = (Value.tuple ⟨[(Value.slice x67r0a x67r0n x67r0c), (Value.int .i64 x67r1)]⟩) ∧
 NewW H14 (Obj.cells ⟨[]⟩ T_int) fun x70b H15 =>
 LoopI ((Option Addr × Nat × Nat) × Int × Unit) (((some ⟨x70b, 0, none⟩), 0, 0), (0, ())) H15 fun x H next => ∀ _g : Env, law04_WheelSkips_l19 x59 x18 x19 x67r0a x67r0n x67r0c x67r1 next5 next10 x.1.1 x.1.2.1 x.1.2.2 x.2.1 H next R))
def law04_WheelSkips_l10 (acts0a : Option Addr) (acts0n : Nat) (acts0c : Nat) (n1 : Int) (x18 : Option Addr) (x19 : Option Addr) (x40b : Nat) (next5 : (Int × Unit) → Heap → Prop) (i9 : Int) (H9 : Heap) (next10 : (Int × Unit) → Heap → Prop) (R : Value → Heap → Prop) : Prop :=
 IfB (decide ((i9 : Int) < (acts0n : Int)))
 (law04_WheelSkips_j1 acts0a acts0n acts0c n1 x18 x19 x40b i9 next5 next10 (decide ((i9 : Int) < 60)) H9 R)
 (law04_WheelSkips_j1 acts0a acts0n acts0c n1 x18 x19 x40b i9 next5 next10 false H9 R)
def law04_WheelSkips_j0 (acts0a : Option Addr) (acts0n : Nat) (acts0c : Nat) (n1 : Int) (x18 : Option Addr) (x19 : Option Addr) (x21b : Nat) (i8 : Int) (next5 : (Int × Unit) → Heap → Prop) (x29 : Bool) (H6 : Heap) (R : Value → Heap → Prop) : Prop :=
 IfB x29
 (NilP acts0a fun x36q =>
 InB i8 acts0n fun x36i =>
 elemAt x36q x36i 3 fun x36p =>
 ∃ x37c0 : Int, H6.cell x36p = some (Value.int .i64 x37c0) ∧ ∃ x37c1 : Int, H6.cell ⟨x36p.block, x36p.off + 1, none⟩ = some (Value.int .i64 x37c1) ∧ ∃ x37c2 : Int, H6.cell ⟨x36p.block, x36p.off + 2, none⟩ = some (Value.int .i64 x37c2) ∧ FnW Try.prog f_law04_do ⟨[(Value.pointer x18), (Value.pointer (some ⟨x21b, 0, none⟩)), (Value.agg ⟨[(Value.int .i64 x37c0), (Value.int .i64 x37c1), (Value.int .i64 x37c2)]⟩)]⟩ H6 fun x38v H7 =>
 ∃ x38 : Bool, x38v = (Value.bool x38) ∧
 next5 ((IntKind.wrap .i64 (i8 + 1)), ()) H7)
 (NewW H6 (Obj.cells ⟨[(Value.slice none 0 0), (Value.int .i64 0)]⟩ T_ref04_Wheel) fun x40b H8 =>
 LoopI (Int × Unit) (0, ()) H8 fun x H next => ∀ _g : Env, law04_WheelSkips_l10 acts0a acts0n acts0c n1 x18 x19 x40b next5 x.1 H next R)
def law04_WheelSkips_l5 (acts0a : Option Addr) (acts0n : Nat) (acts0c : Nat) (n1 : Int) (x18 : Option Addr) (x19 : Option Addr) (x21b : Nat) (i8 : Int) (H5 : Heap) (next5 : (Int × Unit) → Heap → Prop) (R : Value → Heap → Prop) : Prop :=
 IfB (decide ((i8 : Int) < (acts0n : Int)))
 (law04_WheelSkips_j0 acts0a acts0n acts0c n1 x18 x19 x21b i8 next5 (decide ((i8 : Int) < 60)) H5 R)
 (law04_WheelSkips_j0 acts0a acts0n acts0c n1 x18 x19 x21b i8 next5 false H5 R)
def law04_WheelSkips_p (acts0a : Option Addr) (acts0n : Nat) (acts0c : Nat) (n1 : Int) (H : Heap) (R : Value → Heap → Prop) : Prop :=
 FnW Try.prog f_law04_works ⟨[]⟩ H fun x16v H1 =>
 ∃ x16 : Bool, x16v = (Value.bool x16) ∧
 IfB (!x16)
 (R (Value.bool false) H1)
 (FnW Try.prog f_wheel_New ⟨[]⟩ H1 fun x18v H2 =>
 ∃ x18 : Option Addr, x18v = (Value.pointer x18) ∧
 FnW Try.prog f_wheel_New ⟨[]⟩ H2 fun x19v H3 =>
 ∃ x19 : Option Addr, x19v = (Value.pointer x19) ∧
 NewW H3 (Obj.cells ⟨[(Value.slice none 0 0), (Value.int .i64 0)]⟩ T_ref04_Wheel) fun x21b H4 =>
 LoopI (Int × Unit) (0, ()) H4 fun x H next => ∀ _g : Env, law04_WheelSkips_l5 acts0a acts0n acts0c n1 x18 x19 x21b x.1 H next R)
theorem law04_WheelSkips_heq (acts0a : Option Addr) (acts0n : Nat) (acts0c : Nat) (n1 : Int) (H : Heap) (R : Value → Heap → Prop) : law04_WheelSkips_p acts0a acts0n acts0c n1 H R = CodeW Try.prog hplan_law04_WheelSkips (bodyOf Try.f4) (env0 [(Value.slice acts0a acts0n acts0c), (Value.int .i64 n1)]) H (RetW Try.prog Try.f4.results.toList R) := by kernel_rfl
theorem law04_WheelSkips_sh (acts0a : Option Addr) (acts0n : Nat) (acts0c : Nat) (n1 : Int) {H : Heap} {R : Value → Heap → Prop} (h : law04_WheelSkips_p acts0a acts0n acts0c n1 H fun v H1 => ∀ H2, Shut H H1 H2 → R v H2) : FnW Try.prog f_law04_WheelSkips ⟨[(Value.slice acts0a acts0n acts0c), (Value.int .i64 n1)]⟩ H R := FnW.of_code hk_law04_WheelSkips (by kernel_rfl) (Eq.mp (law04_WheelSkips_heq acts0a acts0n acts0c n1 H _) h)
def hplan_law04_WheelOnce : Plan := ⟨[], [(12, [8, 9], [.int .i64, .int .i64], [0, 1, 5, 6, 7])], [], []⟩
theorem hk_law04_WheelOnce : Known Try.prog f_law04_WheelOnce Try.f5 hplan_law04_WheelOnce (bodyOf Try.f5) := ⟨Try.func5, by kernel_rfl, by kernel_rfl, by kernel_rfl, by kernel_rfl, by kernel_rfl⟩
def law04_WheelOnce_j1 (acts0a : Option Addr) (acts0n : Nat) (acts0c : Nat) (x21 : Int) (x17 : Option Addr) (x19b : Nat) (i9 : Int) (next12 : (Int × Int × Unit) → Heap → Prop) (came8_1 : Int) (H15 : Heap) (R : Value → Heap → Prop) : Prop :=
 next12 (came8_1, ((IntKind.wrap .i64 (i9 + 1)), ())) H15
def law04_WheelOnce_j3 (acts0a : Option Addr) (acts0n : Nat) (acts0c : Nat) (x21 : Int) (x17 : Option Addr) (x19b : Nat) (came8_2 : Int) (i9 : Int) (next12 : (Int × Int × Unit) → Heap → Prop) (x93 : Bool) (H23 : Heap) (R : Value → Heap → Prop) : Prop :=
 IfB x93
 (R (Value.bool false) H23)
 (law04_WheelOnce_j1 acts0a acts0n acts0c x21 x17 x19b i9 next12 came8_2 H23 R)
def law04_WheelOnce_j2 (acts0a : Option Addr) (acts0n : Nat) (acts0c : Nat) (x21 : Int) (x17 : Option Addr) (x19b : Nat) (i9 : Int) (next12 : (Int × Int × Unit) → Heap → Prop) (came8_2 : Int) (H20 : Heap) (R : Value → Heap → Prop) : Prop :=
 FnW Try.prog f_wheel_Wheel_Due ⟨[(Value.pointer x17), (Value.int .i64 1125899906842624)]⟩ H20 fun x77v H21 =>
 ∃ x77r0 : Int, ∃ x77r1 : Bool, x77v = (Value.tuple ⟨[(Value.int .i64 x77r0), (Value.bool x77r1)]⟩) ∧
 FnW Try.prog f_wheel_Wheel_Now ⟨[(Value.pointer x17)]⟩ H21 fun x82v H22 =>
 ∃ x82 : Int, x82v = (Value.int .i64 x82) ∧
 IfB (!(x77r1 == (decide ((x82 : Int) < (IntKind.wrap .i64 (1 + x21))))))
 (law04_WheelOnce_j3 acts0a acts0n acts0c x21 x17 x19b came8_2 i9 next12 true H22 R)
 (IfB x77r1
 (law04_WheelOnce_j3 acts0a acts0n acts0c x21 x17 x19b came8_2 i9 next12 ((x77r0 : Int) != (IntKind.wrap .i64 (1 + x21))) H22 R)
 (law04_WheelOnce_j3 acts0a acts0n acts0c x21 x17 x19b came8_2 i9 next12 false H22 R))
def law04_WheelOnce_j0 (acts0a : Option Addr) (acts0n : Nat) (acts0c : Nat) (x21 : Int) (x17 : Option Addr) (x19b : Nat) (came8 : Int) (i9 : Int) (next12 : (Int × Int × Unit) → Heap → Prop) (x39 : Bool) (H8 : Heap) (R : Value → Heap → Prop) : Prop :=
 IfB x39
 (NilP acts0a fun x44q =>
 InB i9 acts0n fun x44i =>
 elemAt x44q x44i 3 fun x44p =>
 ∃ x45c0 : Int, H8.cell x44p = some (Value.int .i64 x45c0) ∧ ∃ x45c1 : Int, H8.cell ⟨x44p.block, x44p.off + 1, none⟩ = some (Value.int .i64 x45c1) ∧ ∃ x45c2 : Int, H8.cell ⟨x44p.block, x44p.off + 2, none⟩ = some (Value.int .i64 x45c2) ∧ NewW H8 (Obj.cells ⟨[(Value.int .i64 0), (Value.int .i64 0), (Value.int .i64 0)]⟩ T_law04_Act) fun a10b H9 =>
 StCell H9 ⟨a10b, 0, none⟩ (Value.int .i64 x45c0) fun H10 =>
 StCell H10 ⟨a10b, 1, none⟩ (Value.int .i64 x45c1) fun H11 =>
 StCell H11 ⟨a10b, 2, none⟩ (Value.int .i64 x45c2) fun H12 =>
 ∃ x47 : Int, H12.cell ⟨a10b, 0, none⟩ = some (Value.int .i64 x47) ∧
 FnW Try.prog f_base_Among ⟨[(Value.int .i64 x47), (Value.int .i64 7)]⟩ H12 fun x48v H13 =>
 ∃ x48 : Int, x48v = (Value.int .i64 x48) ∧
 IfB (decide ((x48 : Int) < 4))
 (∃ x51 : Int, H13.cell ⟨a10b, 1, none⟩ = some (Value.int .i64 x51) ∧
 IfB ((x51 : Int) != 1125899906842624)
 (∃ x56c0 : Int, H13.cell ⟨a10b, 0, none⟩ = some (Value.int .i64 x56c0) ∧ ∃ x56c1 : Int, H13.cell ⟨a10b, 1, none⟩ = some (Value.int .i64 x56c1) ∧ ∃ x56c2 : Int, H13.cell ⟨a10b, 2, none⟩ = some (Value.int .i64 x56c2) ∧ FnW Try.prog f_law04_do ⟨[(Value.pointer x17), (Value.pointer (some ⟨x19b, 0, none⟩)), (Value.agg ⟨[(Value.int .i64 x56c0), (Value.int .i64 x56c1), (Value.int .i64 x56c2)]⟩)]⟩ H13 fun x57v H14 =>
 ∃ x57 : Bool, x57v = (Value.bool x57) ∧
 law04_WheelOnce_j1 acts0a acts0n acts0c x21 x17 x19b i9 next12 came8 H14 R)
 (law04_WheelOnce_j1 acts0a acts0n acts0c x21 x17 x19b i9 next12 came8 H13 R))
 (FnW Try.prog f_wheel_Wheel_Tick ⟨[(Value.pointer x17)]⟩ H13 fun x60v H16 =>
 ∃ (x60r0a : Option Addr) (x60r0n x60r0c : Nat), ∃ x60r1 : Int, x60v = (Value.tuple ⟨[(Value.slice x60r0a x60r0n x60r0c), (Value.int .i64 x60r1)]⟩) ∧
 FnW Try.prog f_ref04_Wheel_Tick ⟨[(Value.pointer (some ⟨x19b, 0, none⟩))]⟩ H16 fun x64v H17 =>
 ∃ (x64r0a : Option Addr) (x64r0n x64r0c : Nat), ∃ x64r1 : Int, x64v = (Value.tuple ⟨[(Value.slice x64r0a x64r0n x64r0c), (Value.int .i64 x64r1)]⟩) ∧
 FnW Try.prog f_base_HasInt ⟨[(Value.slice x60r0a x60r0n x60r0c), (Value.int .i64 1125899906842624)]⟩ H17 fun x67v H18 =>
 ∃ x67 : Bool, x67v = (Value.bool x67) ∧
 IfB x67
 (FnW Try.prog f_wheel_Wheel_Now ⟨[(Value.pointer x17)]⟩ H18 fun x71v H19 =>
 ∃ x71 : Int, x71v = (Value.int .i64 x71) ∧
 IfB ((x71 : Int) != (IntKind.wrap .i64 (1 + x21)))
 (R (Value.bool false) H19)
 (law04_WheelOnce_j2 acts0a acts0n acts0c x21 x17 x19b i9 next12 (IntKind.wrap .i64 (came8 + 1)) H19 R))
 (law04_WheelOnce_j2 acts0a acts0n acts0c x21 x17 x19b i9 next12 came8 H18 R)))
 (FnW Try.prog f_wheel_Wheel_Now ⟨[(Value.pointer x17)]⟩ H8 fun x96v H24 =>
 ∃ x96 : Int, x96v = (Value.int .i64 x96) ∧
 ((IntKind.wrap .i64 (1 + x21)) : Int) ≠ 0 ∧
 IfB ((came8 : Int) == (min 1 (IntKind.wrap .i64 (Int.tdiv x96 (IntKind.wrap .i64 (1 + x21))))))
 (FnW Try.prog f_wheel_Wheel_Now ⟨[(Value.pointer x17)]⟩ H24 fun x105v H25 =>
 ∃ x105 : Int, x105v = (Value.int .i64 x105) ∧
 R (Value.bool (((came8 : Int) == 1) == (decide ((x105 : Int) ≥ (IntKind.wrap .i64 (1 + x21)))))) H25)
 (R (Value.bool false) H24))
def law04_WheelOnce_l12 (acts0a : Option Addr) (acts0n : Nat) (acts0c : Nat) (x21 : Int) (x17 : Option Addr) (x19b : Nat) (came8 : Int) (i9 : Int) (H7 : Heap) (next12 : (Int × Int × Unit) → Heap → Prop) (R : Value → Heap → Prop) : Prop :=
 IfB (decide ((i9 : Int) < (acts0n : Int)))
 (law04_WheelOnce_j0 acts0a acts0n acts0c x21 x17 x19b came8 i9 next12 (decide ((i9 : Int) < 100)) H7 R)
 (law04_WheelOnce_j0 acts0a acts0n acts0c x21 x17 x19b came8 i9 next12 false H7 R)
def law04_WheelOnce_p (acts0a : Option Addr) (acts0n : Nat) (acts0c : Nat) (after1 : Int) (H : Heap) (R : Value → Heap → Prop) : Prop :=
 FnW Try.prog f_law04_works ⟨[]⟩ H fun x15v H1 =>
 ∃ x15 : Bool, x15v = (Value.bool x15) ∧
 IfB (!x15)
 (R (Value.bool false) H1)
 (FnW Try.prog f_wheel_New ⟨[]⟩ H1 fun x17v H2 =>
 ∃ x17 : Option Addr, x17v = (Value.pointer x17) ∧
 NewW H2 (Obj.cells ⟨[(Value.slice none 0 0), (Value.int .i64 0)]⟩ T_ref04_Wheel) fun x19b H3 =>
 FnW Try.prog f_base_Among ⟨[(Value.int .i64 after1), (Value.int .i64 60)]⟩ H3 fun x21v H4 =>
 ∃ x21 : Int, x21v = (Value.int .i64 x21) ∧
 FnW Try.prog f_wheel_Wheel_Set ⟨[(Value.pointer x17), (Value.int .i64 1125899906842624), (Value.int .i64 (IntKind.wrap .i64 (1 + x21)))]⟩ H4 fun x26v H5 =>
 ∃ x26 : Int, x26v = (Value.int .i64 x26) ∧
 IfB ((x26 : Int) != 0)
 (R (Value.bool false) H5)
 (FnW Try.prog f_ref04_Wheel_Set ⟨[(Value.pointer (some ⟨x19b, 0, none⟩)), (Value.int .i64 1125899906842624), (Value.int .i64 (IntKind.wrap .i64 (1 + x21)))]⟩ H5 fun x31v H6 =>
 ∃ x31 : Int, x31v = (Value.int .i64 x31) ∧
 LoopI (Int × Int × Unit) (0, (0, ())) H6 fun x H next => ∀ _g : Env, law04_WheelOnce_l12 acts0a acts0n acts0c x21 x17 x19b x.1 x.2.1 H next R))
theorem law04_WheelOnce_heq (acts0a : Option Addr) (acts0n : Nat) (acts0c : Nat) (after1 : Int) (H : Heap) (R : Value → Heap → Prop) : law04_WheelOnce_p acts0a acts0n acts0c after1 H R = CodeW Try.prog hplan_law04_WheelOnce (bodyOf Try.f5) (env0 [(Value.slice acts0a acts0n acts0c), (Value.int .i64 after1)]) H (RetW Try.prog Try.f5.results.toList R) := by kernel_rfl
theorem law04_WheelOnce_sh (acts0a : Option Addr) (acts0n : Nat) (acts0c : Nat) (after1 : Int) {H : Heap} {R : Value → Heap → Prop} (h : law04_WheelOnce_p acts0a acts0n acts0c after1 H fun v H1 => ∀ H2, Shut H H1 H2 → R v H2) : FnW Try.prog f_law04_WheelOnce ⟨[(Value.slice acts0a acts0n acts0c), (Value.int .i64 after1)]⟩ H R := FnW.of_code hk_law04_WheelOnce (by kernel_rfl) (Eq.mp (law04_WheelOnce_heq acts0a acts0n acts0c after1 H _) h)
def hplan_law04_WheelPlays : Plan := ⟨[], [(5, [5], [.int .i64], [0, 3, 4])], [], []⟩
theorem hk_law04_WheelPlays : Known Try.prog f_law04_WheelPlays Try.f6 hplan_law04_WheelPlays (bodyOf Try.f6) := ⟨Try.func6, by kernel_rfl, by kernel_rfl, by kernel_rfl, by kernel_rfl, by kernel_rfl⟩
def law04_WheelPlays_j2 (acts0a : Option Addr) (acts0n : Nat) (acts0c : Nat) (x10 : Option Addr) (x12b : Nat) (i5 : Int) (next5 : (Int × Unit) → Heap → Prop) (x66 : Bool) (H9 : Heap) (R : Value → Heap → Prop) : Prop :=
 IfB x66
 (R (Value.bool false) H9)
 (next5 ((IntKind.wrap .i64 (i5 + 1)), ()) H9)
def law04_WheelPlays_j1 (acts0a : Option Addr) (acts0n : Nat) (acts0c : Nat) (x10 : Option Addr) (x12b : Nat) (i5 : Int) (next5 : (Int × Unit) → Heap → Prop) (x38 : Bool) (H6 : Heap) (R : Value → Heap → Prop) : Prop :=
 IfB x38
 (R (Value.bool false) H6)
 (NilP acts0a fun x43q =>
 InB i5 acts0n fun x43i =>
 elemAt x43q x43i 3 fun x43p =>
 ∃ x45 : Int, H6.cell ⟨x43p.block, x43p.off + 1, none⟩ = some (Value.int .i64 x45) ∧
 FnW Try.prog f_wheel_Wheel_Due ⟨[(Value.pointer x10), (Value.int .i64 x45)]⟩ H6 fun x46v H7 =>
 ∃ x46r0 : Int, ∃ x46r1 : Bool, x46v = (Value.tuple ⟨[(Value.int .i64 x46r0), (Value.bool x46r1)]⟩) ∧
 NilP acts0a fun x53q =>
 InB i5 acts0n fun x53i =>
 elemAt x53q x53i 3 fun x53p =>
 ∃ x55 : Int, H7.cell ⟨x53p.block, x53p.off + 1, none⟩ = some (Value.int .i64 x55) ∧
 FnW Try.prog f_ref04_Wheel_Due ⟨[(Value.pointer (some ⟨x12b, 0, none⟩)), (Value.int .i64 x55)]⟩ H7 fun x56v H8 =>
 ∃ x56r0 : Int, ∃ x56r1 : Bool, x56v = (Value.tuple ⟨[(Value.int .i64 x56r0), (Value.bool x56r1)]⟩) ∧
 IfB ((x46r0 : Int) != x56r0)
 (law04_WheelPlays_j2 acts0a acts0n acts0c x10 x12b i5 next5 true H8 R)
 (law04_WheelPlays_j2 acts0a acts0n acts0c x10 x12b i5 next5 (!(x46r1 == x56r1)) H8 R))
def law04_WheelPlays_j0 (acts0a : Option Addr) (acts0n : Nat) (acts0c : Nat) (x10 : Option Addr) (x12b : Nat) (i5 : Int) (next5 : (Int × Unit) → Heap → Prop) (x22 : Bool) (H4 : Heap) (R : Value → Heap → Prop) : Prop :=
 IfB x22
 (NilP acts0a fun x29q =>
 InB i5 acts0n fun x29i =>
 elemAt x29q x29i 3 fun x29p =>
 ∃ x30c0 : Int, H4.cell x29p = some (Value.int .i64 x30c0) ∧ ∃ x30c1 : Int, H4.cell ⟨x29p.block, x29p.off + 1, none⟩ = some (Value.int .i64 x30c1) ∧ ∃ x30c2 : Int, H4.cell ⟨x29p.block, x29p.off + 2, none⟩ = some (Value.int .i64 x30c2) ∧ FnW Try.prog f_law04_do ⟨[(Value.pointer x10), (Value.pointer (some ⟨x12b, 0, none⟩)), (Value.agg ⟨[(Value.int .i64 x30c0), (Value.int .i64 x30c1), (Value.int .i64 x30c2)]⟩)]⟩ H4 fun x31v H5 =>
 ∃ x31 : Bool, x31v = (Value.bool x31) ∧
 IfB (!x31)
 (law04_WheelPlays_j1 acts0a acts0n acts0c x10 x12b i5 next5 true H5 R)
 (FnW Try.prog f_law04_same ⟨[(Value.pointer x10), (Value.pointer (some ⟨x12b, 0, none⟩))]⟩ H5 fun x36v H10 =>
 ∃ x36 : Bool, x36v = (Value.bool x36) ∧
 law04_WheelPlays_j1 acts0a acts0n acts0c x10 x12b i5 next5 (!x36) H10 R))
 (FnW Try.prog f_law04_works ⟨[]⟩ H4 fun x67v H11 =>
 ∃ x67 : Bool, x67v = (Value.bool x67) ∧
 R (Value.bool x67) H11)
def law04_WheelPlays_l5 (acts0a : Option Addr) (acts0n : Nat) (acts0c : Nat) (x10 : Option Addr) (x12b : Nat) (i5 : Int) (H3 : Heap) (next5 : (Int × Unit) → Heap → Prop) (R : Value → Heap → Prop) : Prop :=
 IfB (decide ((i5 : Int) < (acts0n : Int)))
 (law04_WheelPlays_j0 acts0a acts0n acts0c x10 x12b i5 next5 (decide ((i5 : Int) < 100)) H3 R)
 (law04_WheelPlays_j0 acts0a acts0n acts0c x10 x12b i5 next5 false H3 R)
def law04_WheelPlays_p (acts0a : Option Addr) (acts0n : Nat) (acts0c : Nat) (H : Heap) (R : Value → Heap → Prop) : Prop :=
 FnW Try.prog f_wheel_New ⟨[]⟩ H fun x10v H1 =>
 ∃ x10 : Option Addr, x10v = (Value.pointer x10) ∧
 NewW H1 (Obj.cells ⟨[(Value.slice none 0 0), (Value.int .i64 0)]⟩ T_ref04_Wheel) fun x12b H2 =>
 IfB x10.isNone
 (R (Value.bool false) H2)
 (LoopI (Int × Unit) (0, ()) H2 fun x H next => ∀ _g : Env, law04_WheelPlays_l5 acts0a acts0n acts0c x10 x12b x.1 H next R)
theorem law04_WheelPlays_heq (acts0a : Option Addr) (acts0n : Nat) (acts0c : Nat) (H : Heap) (R : Value → Heap → Prop) : law04_WheelPlays_p acts0a acts0n acts0c H R = CodeW Try.prog hplan_law04_WheelPlays (bodyOf Try.f6) (env0 [(Value.slice acts0a acts0n acts0c)]) H (RetW Try.prog Try.f6.results.toList R) := by kernel_rfl
theorem law04_WheelPlays_sh (acts0a : Option Addr) (acts0n : Nat) (acts0c : Nat) {H : Heap} {R : Value → Heap → Prop} (h : law04_WheelPlays_p acts0a acts0n acts0c H fun v H1 => ∀ H2, Shut H H1 H2 → R v H2) : FnW Try.prog f_law04_WheelPlays ⟨[(Value.slice acts0a acts0n acts0c)]⟩ H R := FnW.of_code hk_law04_WheelPlays (by kernel_rfl) (Eq.mp (law04_WheelPlays_heq acts0a acts0n acts0c H _) h)
def hplan_law04_works : Plan := ⟨[], [], [], []⟩
theorem hk_law04_works : Known Try.prog f_law04_works Try.f8 hplan_law04_works (bodyOf Try.f8) := ⟨Try.func8, by kernel_rfl, by kernel_rfl, by kernel_rfl, by kernel_rfl, by kernel_rfl⟩
def law04_works_p (H : Heap) (R : Value → Heap → Prop) : Prop :=
 FnW Try.prog f_wheel_New ⟨[]⟩ H fun x6v H1 =>
 ∃ x6 : Option Addr, x6v = (Value.pointer x6) ∧
 IfB x6.isNone
 (R (Value.bool false) H1)
 (FnW Try.prog f_wheel_Wheel_Set ⟨[(Value.pointer x6), (Value.int .i64 7), (Value.int .i64 2)]⟩ H1 fun x10v H2 =>
 ∃ x10 : Int, x10v = (Value.int .i64 x10) ∧
 FnW Try.prog f_wheel_Wheel_Set ⟨[(Value.pointer x6), (Value.int .i64 3), (Value.int .i64 2)]⟩ H2 fun x12v H3 =>
 ∃ x12 : Int, x12v = (Value.int .i64 x12) ∧
 FnW Try.prog f_wheel_Wheel_Tick ⟨[(Value.pointer x6)]⟩ H3 fun x15v H4 =>
 ∃ (x15r0a : Option Addr) (x15r0n x15r0c : Nat), ∃ x15r1 : Int, x15v = (Value.tuple ⟨[(Value.slice x15r0a x15r0n x15r0c), (Value.int .i64 x15r1)]⟩) ∧
 FnW Try.prog f_wheel_Wheel_Tick ⟨[(Value.pointer x6)]⟩ H4 fun x20v H5 =>
 ∃ (x20r0a : Option Addr) (x20r0n x20r0c : Nat), ∃ x20r1 : Int, x20v = (Value.tuple ⟨[(Value.slice x20r0a x20r0n x20r0c), (Value.int .i64 x20r1)]⟩) ∧
 IfB (((x15r0n : Int) : Int) == 0)
 (IfB ((x15r1 : Int) == 0)
 (NewW H5 (Obj.cells ⟨[(Value.int .i64 3), (Value.int .i64 7)]⟩ T_int) fun x32b H6 =>
 FnW Try.prog f_base_SameInts ⟨[(Value.slice x20r0a x20r0n x20r0c), (Value.slice (some ⟨x32b, 0, none⟩) 2 2)]⟩ H6 fun x33v H7 =>
 ∃ x33 : Bool, x33v = (Value.bool x33) ∧
 IfB x33
 (IfB ((x20r1 : Int) == 0)
 (FnW Try.prog f_wheel_Wheel_Now ⟨[(Value.pointer x6)]⟩ H7 fun x41v H8 =>
 ∃ x41 : Int, x41v = (Value.int .i64 x41) ∧
 R (Value.bool ((x41 : Int) == 2)) H8)
 (R (Value.bool false) H7))
 (R (Value.bool false) H7))
 (R (Value.bool false) H5))
 (R (Value.bool false) H5))
theorem law04_works_heq  (H : Heap) (R : Value → Heap → Prop) : law04_works_p  H R = CodeW Try.prog hplan_law04_works (bodyOf Try.f8) (env0 []) H (RetW Try.prog Try.f8.results.toList R) := by kernel_rfl
theorem law04_works_sh  {H : Heap} {R : Value → Heap → Prop} (h : law04_works_p  H fun v H1 => ∀ H2, Shut H H1 H2 → R v H2) : FnW Try.prog f_law04_works ⟨[]⟩ H R := FnW.of_code hk_law04_works (by kernel_rfl) (Eq.mp (law04_works_heq  H _) h)
def hplan_wheel_New : Plan := ⟨[], [], [], []⟩
theorem hk_wheel_New : Known Try.prog f_wheel_New Try.f9 hplan_wheel_New (bodyOf Try.f9) := ⟨Try.func9, by kernel_rfl, by kernel_rfl, by kernel_rfl, by kernel_rfl, by kernel_rfl⟩
def wheel_New_p (H : Heap) (R : Value → Heap → Prop) : Prop :=
 MkW Try.prog T_mapaint_int H fun x1v H1 =>
 NewW H1 (Obj.cells ⟨(setL (setL zl_T_wheel_Wheel 64 [x1v]) 66 [(Value.bool true)])⟩ T_wheel_Wheel) fun x3b H2 =>
 R (Value.pointer (some ⟨x3b, 0, none⟩)) H2
theorem wheel_New_heq  (H : Heap) (R : Value → Heap → Prop) : wheel_New_p  H R = CodeW Try.prog hplan_wheel_New (bodyOf Try.f9) (env0 []) H (RetW Try.prog Try.f9.results.toList R) := by kernel_rfl
theorem wheel_New_sh  {H : Heap} {R : Value → Heap → Prop} (h : wheel_New_p  H fun v H1 => ∀ H2, Shut H H1 H2 → R v H2) : FnW Try.prog f_wheel_New ⟨[]⟩ H R := FnW.of_code hk_wheel_New (by kernel_rfl) (Eq.mp (wheel_New_heq  H _) h)
def hplan_base_Among : Plan := ⟨[], [], [], []⟩
theorem hk_base_Among : Known Try.prog f_base_Among Try.f10 hplan_base_Among (bodyOf Try.f10) := ⟨Try.func10, by kernel_rfl, by kernel_rfl, by kernel_rfl, by kernel_rfl, by kernel_rfl⟩
def base_Among_p (x0 : Int) (n1 : Int) (H : Heap) (R : Value → Heap → Prop) : Prop :=
 IfB (decide ((n1 : Int) < 1))
 (R (Value.int .i64 0) H)
 (((IntKind.wrap .u64 n1) : Int) ≠ 0 ∧
 R (Value.int .i64 (IntKind.wrap .i64 (Int.tmod (IntKind.wrap .u64 x0) (IntKind.wrap .u64 n1)))) H)
theorem base_Among_heq (x0 : Int) (n1 : Int) (H : Heap) (R : Value → Heap → Prop) : base_Among_p x0 n1 H R = CodeW Try.prog hplan_base_Among (bodyOf Try.f10) (env0 [(Value.int .i64 x0), (Value.int .i64 n1)]) H (RetW Try.prog Try.f10.results.toList R) := by kernel_rfl
theorem base_Among_sh (x0 : Int) (n1 : Int) {H : Heap} {R : Value → Heap → Prop} (h : base_Among_p x0 n1 H fun v H1 => ∀ H2, Shut H H1 H2 → R v H2) : FnW Try.prog f_base_Among ⟨[(Value.int .i64 x0), (Value.int .i64 n1)]⟩ H R := FnW.of_code hk_base_Among (by kernel_rfl) (Eq.mp (base_Among_heq x0 n1 H _) h)
def hplan_wheel_Wheel_Set : Plan := ⟨[], [], [], []⟩
theorem hk_wheel_Wheel_Set : Known Try.prog f_wheel_Wheel_Set Try.f11 hplan_wheel_Wheel_Set (bodyOf Try.f11) := ⟨Try.func11, by kernel_rfl, by kernel_rfl, by kernel_rfl, by kernel_rfl, by kernel_rfl⟩
def wheel_Wheel_Set_j0 (w0b : Nat) (key1 : Int) (after2 : Int) (H4 : Heap) (R : Value → Heap → Prop) : Prop :=
 ∃ x42 : Int, H4.cell ⟨w0b, 65, none⟩ = some (Value.int .i64 x42) ∧
 FnW Try.prog f_wheel_Wheel_spoke ⟨[(Value.pointer (some ⟨w0b, 0, none⟩)), (Value.int .i64 (IntKind.wrap .i64 (x42 + after2)))]⟩ H4 fun x47v H5 =>
 ∃ x47 : Option Addr, x47v = (Value.pointer x47) ∧
 NilP x47 fun x50p =>
 ∃ (x51a : Option Addr) (x51n x51c : Nat), H5.cell x50p = some (Value.slice x51a x51n x51c) ∧
 NewW H5 (Obj.cells ⟨[(Value.int .i64 key1), (Value.int .i64 (IntKind.wrap .i64 (x42 + after2)))]⟩ T_wheel_timer) fun x55b H6 =>
 AppW Try.prog #[T_sl_wheel_timer, T_sl_wheel_timer] T_sl_wheel_timer [(Value.slice x51a x51n x51c), (Value.slice (some ⟨x55b, 0, none⟩) 1 1)] H6 fun x56v H7 =>
 ∃ (x56a : Option Addr) (x56n x56c : Nat), x56v = (Value.slice x56a x56n x56c) ∧
 NilP x47 fun x57p =>
 StCell H7 x57p (Value.slice x56a x56n x56c) fun H8 =>
 ∃ x61 : Value, H8.cell ⟨w0b, 64, none⟩ = some x61 ∧
 MuW Try.prog T_mapaint_int x61 (Value.int .i64 key1) (Value.int .i64 (IntKind.wrap .i64 (x42 + after2))) H8 fun x0v H9 =>
 R (Value.int .i64 0) H9
def wheel_Wheel_Set_p (w0b : Nat) (key1 : Int) (after2 : Int) (H : Heap) (R : Value → Heap → Prop) : Prop :=
 FnW Try.prog f_wheel_Wheel_may ⟨[(Value.pointer (some ⟨w0b, 0, none⟩)), (Value.int .i64 after2)]⟩ H fun x14v H1 =>
 ∃ x14 : Int, x14v = (Value.int .i64 x14) ∧
 IfB ((x14 : Int) != 0)
 (R (Value.int .i64 x14) H1)
 (∃ x22 : Value, H1.cell ⟨w0b, 64, none⟩ = some x22 ∧
 SemW Try.prog (Instr.lookup T_mapaint_int x22 (Value.int .i64 key1) true) H1 fun x24v H2 =>
 ∃ x24r0 : Int, ∃ x24r1 : Bool, x24v = (Value.tuple ⟨[(Value.int .i64 x24r0), (Value.bool x24r1)]⟩) ∧
 IfB x24r1
 (FnW Try.prog f_wheel_Wheel_drop ⟨[(Value.pointer (some ⟨w0b, 0, none⟩)), (Value.int .i64 key1)]⟩ H2 fun x31v H3 =>
 x31v = (Value.tuple ⟨[]⟩) ∧
 wheel_Wheel_Set_j0 w0b key1 after2 H3 R)
 (∃ x36 : Value, H2.cell ⟨w0b, 64, none⟩ = some x36 ∧
 SemW Try.prog (Builtin.len_ #[T_mapaint_int] T_int ⟨[x36]⟩) H2 fun x37v H10 =>
 ∃ x37 : Int, x37v = (Value.int .i64 x37) ∧
 IfB ((x37 : Int) == 256)
 (R (Value.int .i64 4) H10)
 (wheel_Wheel_Set_j0 w0b key1 after2 H10 R)))
theorem wheel_Wheel_Set_heq (w0b : Nat) (key1 : Int) (after2 : Int) (H : Heap) (R : Value → Heap → Prop) : wheel_Wheel_Set_p w0b key1 after2 H R = CodeW Try.prog hplan_wheel_Wheel_Set (bodyOf Try.f11) (env0 [(Value.pointer (some ⟨w0b, 0, none⟩)), (Value.int .i64 key1), (Value.int .i64 after2)]) H (RetW Try.prog Try.f11.results.toList R) := by kernel_rfl
theorem wheel_Wheel_Set_sh (w0b : Nat) (key1 : Int) (after2 : Int) {H : Heap} {R : Value → Heap → Prop} (h : wheel_Wheel_Set_p w0b key1 after2 H fun v H1 => ∀ H2, Shut H H1 H2 → R v H2) : FnW Try.prog f_wheel_Wheel_Set ⟨[(Value.pointer (some ⟨w0b, 0, none⟩)), (Value.int .i64 key1), (Value.int .i64 after2)]⟩ H R := FnW.of_code hk_wheel_Wheel_Set (by kernel_rfl) (Eq.mp (wheel_Wheel_Set_heq w0b key1 after2 H _) h)
def hplan_wheel_Wheel_Len : Plan := ⟨[], [], [], []⟩
theorem hk_wheel_Wheel_Len : Known Try.prog f_wheel_Wheel_Len Try.f12 hplan_wheel_Wheel_Len (bodyOf Try.f12) := ⟨Try.func12, by kernel_rfl, by kernel_rfl, by kernel_rfl, by kernel_rfl, by kernel_rfl⟩
def wheel_Wheel_Len_p (w0b : Nat) (H : Heap) (R : Value → Heap → Prop) : Prop :=
 FnW Try.prog f_wheel_Wheel_is ⟨[(Value.pointer (some ⟨w0b, 0, none⟩))]⟩ H fun x4v H1 =>
 ∃ x4 : Bool, x4v = (Value.bool x4) ∧
 IfB (!x4)
 (R (Value.int .i64 0) H1)
 (∃ x9 : Value, H1.cell ⟨w0b, 64, none⟩ = some x9 ∧
 SemW Try.prog (Builtin.len_ #[T_mapaint_int] T_int ⟨[x9]⟩) H1 fun x10v H2 =>
 ∃ x10 : Int, x10v = (Value.int .i64 x10) ∧
 R (Value.int .i64 x10) H2)
theorem wheel_Wheel_Len_heq (w0b : Nat) (H : Heap) (R : Value → Heap → Prop) : wheel_Wheel_Len_p w0b H R = CodeW Try.prog hplan_wheel_Wheel_Len (bodyOf Try.f12) (env0 [(Value.pointer (some ⟨w0b, 0, none⟩))]) H (RetW Try.prog Try.f12.results.toList R) := by kernel_rfl
theorem wheel_Wheel_Len_sh (w0b : Nat) {H : Heap} {R : Value → Heap → Prop} (h : wheel_Wheel_Len_p w0b H fun v H1 => ∀ H2, Shut H H1 H2 → R v H2) : FnW Try.prog f_wheel_Wheel_Len ⟨[(Value.pointer (some ⟨w0b, 0, none⟩))]⟩ H R := FnW.of_code hk_wheel_Wheel_Len (by kernel_rfl) (Eq.mp (wheel_Wheel_Len_heq w0b H _) h)
def hplan_law04_do : Plan := ⟨[(3, [0, 1, 2, 4, 5, 6, 3, 7, 8, 9], [26]), (13, [0, 1, 2, 3, 4, 6, 7, 8, 9, 10, 5, 11, 12, 13], [82, 84])], [], [], []⟩
theorem hk_law04_do : Known Try.prog f_law04_do Try.f13 hplan_law04_do (bodyOf Try.f13) := ⟨Try.func13, by kernel_rfl, by kernel_rfl, by kernel_rfl, by kernel_rfl, by kernel_rfl⟩
def law04_do_j0 (x0b : Nat) (y1b : Nat) (a5b : Nat) (x17 : Int) (x29 : Bool) (H5 : Heap) (R : Value → Heap → Prop) : Prop :=
 IfB x29
 (FnW Try.prog f_wheel_Wheel_Tick ⟨[(Value.pointer (some ⟨x0b, 0, none⟩))]⟩ H5 fun x34v H6 =>
 ∃ (x34r0a : Option Addr) (x34r0n x34r0c : Nat), ∃ x34r1 : Int, x34v = (Value.tuple ⟨[(Value.slice x34r0a x34r0n x34r0c), (Value.int .i64 x34r1)]⟩) ∧
 FnW Try.prog f_ref04_Wheel_Tick ⟨[(Value.pointer (some ⟨y1b, 0, none⟩))]⟩ H6 fun x39v H7 =>
 ∃ (x39r0a : Option Addr) (x39r0n x39r0c : Nat), ∃ x39r1 : Int, x39v = (Value.tuple ⟨[(Value.slice x39r0a x39r0n x39r0c), (Value.int .i64 x39r1)]⟩) ∧
 FnW Try.prog f_base_SameInts ⟨[(Value.slice x34r0a x34r0n x34r0c), (Value.slice x39r0a x39r0n x39r0c)]⟩ H7 fun x44v H8 =>
 ∃ x44 : Bool, x44v = (Value.bool x44) ∧
 IfB x44
 (R (Value.bool ((x34r1 : Int) == x39r1)) H8)
 (R (Value.bool false) H8))
 (IfB ((x17 : Int) == 6)
 (∃ x55 : Int, H5.cell ⟨a5b, 2, none⟩ = some (Value.int .i64 x55) ∧
 FnW Try.prog f_wheel_Wheel_Skip ⟨[(Value.pointer (some ⟨x0b, 0, none⟩)), (Value.int .i64 x55)]⟩ H5 fun x56v H9 =>
 ∃ (x56r0a : Option Addr) (x56r0n x56r0c : Nat), ∃ x56r1 : Int, x56v = (Value.tuple ⟨[(Value.slice x56r0a x56r0n x56r0c), (Value.int .i64 x56r1)]⟩) ∧
 ∃ x62 : Int, H9.cell ⟨a5b, 2, none⟩ = some (Value.int .i64 x62) ∧
 FnW Try.prog f_ref04_Wheel_Skip ⟨[(Value.pointer (some ⟨y1b, 0, none⟩)), (Value.int .i64 x62)]⟩ H9 fun x63v H10 =>
 ∃ (x63r0a : Option Addr) (x63r0n x63r0c : Nat), ∃ x63r1 : Int, x63v = (Value.tuple ⟨[(Value.slice x63r0a x63r0n x63r0c), (Value.int .i64 x63r1)]⟩) ∧
 FnW Try.prog f_base_SameInts ⟨[(Value.slice x56r0a x56r0n x56r0c), (Value.slice x63r0a x63r0n x63r0c)]⟩ H10 fun x68v H11 =>
 ∃ x68 : Bool, x68v = (Value.bool x68) ∧
 IfB x68
 (R (Value.bool ((x56r1 : Int) == x63r1)) H11)
 (R (Value.bool false) H11))
 (∃ bs : List Nat, (∀ b ∈ bs, ∃ o, H5 b = some o) ∧
 ∃ x76 : Int, H5.cell ⟨a5b, 1, none⟩ = some (Value.int .i64 x76) ∧
 ∃ x78 : Int, H5.cell ⟨a5b, 2, none⟩ = some (Value.int .i64 x78) ∧
 a5b ∈ bs ∧ ∃ x82 : Int, H5.cell ⟨a5b, 1, none⟩ = some (Value.int .i64 x82) ∧
 a5b ∈ bs ∧ ∃ x84 : Int, H5.cell ⟨a5b, 2, none⟩ = some (Value.int .i64 x84) ∧
 FnW Try.prog f_wheel_Wheel_Set ⟨[(Value.pointer (some ⟨x0b, 0, none⟩)), (Value.int .i64 x76), (Value.int .i64 x78)]⟩ H5 fun x79v H12 =>
 ∃ x79 : Int, x79v = (Value.int .i64 x79) ∧
 KeptIn bs H5 H12 ∧ FnW Try.prog f_ref04_Wheel_Set ⟨[(Value.pointer (some ⟨y1b, 0, none⟩)), (Value.int .i64 x82), (Value.int .i64 x84)]⟩ H12 fun x85v H13 =>
 ∃ x85 : Int, x85v = (Value.int .i64 x85) ∧
 R (Value.bool ((x79 : Int) == x85)) H13))
def law04_do_p (x0b : Nat) (y1b : Nat) (a2c0 : Int) (a2c1 : Int) (a2c2 : Int) (H : Heap) (R : Value → Heap → Prop) : Prop :=
 NewW H (Obj.cells ⟨[(Value.int .i64 a2c0), (Value.int .i64 a2c1), (Value.int .i64 a2c2)]⟩ T_law04_Act) fun a5b H1 =>
 ∃ x16 : Int, H1.cell ⟨a5b, 0, none⟩ = some (Value.int .i64 x16) ∧
 FnW Try.prog f_base_Among ⟨[(Value.int .i64 x16), (Value.int .i64 7)]⟩ H1 fun x17v H2 =>
 ∃ x17 : Int, x17v = (Value.int .i64 x17) ∧
 IfB ((x17 : Int) == 3)
 (∃ bs : List Nat, (∀ b ∈ bs, ∃ o, H2 b = some o) ∧
 ∃ x22 : Int, H2.cell ⟨a5b, 1, none⟩ = some (Value.int .i64 x22) ∧
 a5b ∈ bs ∧ ∃ x26 : Int, H2.cell ⟨a5b, 1, none⟩ = some (Value.int .i64 x26) ∧
 FnW Try.prog f_wheel_Wheel_Stop ⟨[(Value.pointer (some ⟨x0b, 0, none⟩)), (Value.int .i64 x22)]⟩ H2 fun x23v H3 =>
 ∃ x23 : Int, x23v = (Value.int .i64 x23) ∧
 KeptIn bs H2 H3 ∧ FnW Try.prog f_ref04_Wheel_Stop ⟨[(Value.pointer (some ⟨y1b, 0, none⟩)), (Value.int .i64 x26)]⟩ H3 fun x27v H4 =>
 ∃ x27 : Int, x27v = (Value.int .i64 x27) ∧
 R (Value.bool ((x23 : Int) == x27)) H4)
 (IfB ((x17 : Int) == 4)
 (law04_do_j0 x0b y1b a5b x17 ((x17 : Int) == 4) H2 R)
 (law04_do_j0 x0b y1b a5b x17 ((x17 : Int) == 5) H2 R))
theorem law04_do_heq (x0b : Nat) (y1b : Nat) (a2c0 : Int) (a2c1 : Int) (a2c2 : Int) (H : Heap) (R : Value → Heap → Prop) : law04_do_p x0b y1b a2c0 a2c1 a2c2 H R = CodeW Try.prog hplan_law04_do (bodyOf Try.f13) (env0 [(Value.pointer (some ⟨x0b, 0, none⟩)), (Value.pointer (some ⟨y1b, 0, none⟩)), (Value.agg ⟨[(Value.int .i64 a2c0), (Value.int .i64 a2c1), (Value.int .i64 a2c2)]⟩)]) H (RetW Try.prog Try.f13.results.toList R) := by kernel_rfl
theorem law04_do_sh (x0b : Nat) (y1b : Nat) (a2c0 : Int) (a2c1 : Int) (a2c2 : Int) {H : Heap} {R : Value → Heap → Prop} (h : law04_do_p x0b y1b a2c0 a2c1 a2c2 H fun v H1 => ∀ H2, Shut H H1 H2 → R v H2) : FnW Try.prog f_law04_do ⟨[(Value.pointer (some ⟨x0b, 0, none⟩)), (Value.pointer (some ⟨y1b, 0, none⟩)), (Value.agg ⟨[(Value.int .i64 a2c0), (Value.int .i64 a2c1), (Value.int .i64 a2c2)]⟩)]⟩ H R := FnW.of_code hk_law04_do (by kernel_rfl) (Eq.mp (law04_do_heq x0b y1b a2c0 a2c1 a2c2 H _) h)
def hplan_wheel_Wheel_Now : Plan := ⟨[], [], [], []⟩
theorem hk_wheel_Wheel_Now : Known Try.prog f_wheel_Wheel_Now Try.f14 hplan_wheel_Wheel_Now (bodyOf Try.f14) := ⟨Try.func14, by kernel_rfl, by kernel_rfl, by kernel_rfl, by kernel_rfl, by kernel_rfl⟩
def wheel_Wheel_Now_p (w0b : Nat) (H : Heap) (R : Value → Heap → Prop) : Prop :=
 FnW Try.prog f_wheel_Wheel_is ⟨[(Value.pointer (some ⟨w0b, 0, none⟩))]⟩ H fun x4v H1 =>
 ∃ x4 : Bool, x4v = (Value.bool x4) ∧
 IfB (!x4)
 (R (Value.int .i64 0) H1)
 (∃ x9 : Int, H1.cell ⟨w0b, 65, none⟩ = some (Value.int .i64 x9) ∧
 R (Value.int .i64 x9) H1)
theorem wheel_Wheel_Now_heq (w0b : Nat) (H : Heap) (R : Value → Heap → Prop) : wheel_Wheel_Now_p w0b H R = CodeW Try.prog hplan_wheel_Wheel_Now (bodyOf Try.f14) (env0 [(Value.pointer (some ⟨w0b, 0, none⟩))]) H (RetW Try.prog Try.f14.results.toList R) := by kernel_rfl
theorem wheel_Wheel_Now_sh (w0b : Nat) {H : Heap} {R : Value → Heap → Prop} (h : wheel_Wheel_Now_p w0b H fun v H1 => ∀ H2, Shut H H1 H2 → R v H2) : FnW Try.prog f_wheel_Wheel_Now ⟨[(Value.pointer (some ⟨w0b, 0, none⟩))]⟩ H R := FnW.of_code hk_wheel_Wheel_Now (by kernel_rfl) (Eq.mp (wheel_Wheel_Now_heq w0b H _) h)
def hplan_wheel_Wheel_Skip : Plan := ⟨[], [(6, [8], [.slice], [0, 7])], [], []⟩
theorem hk_wheel_Wheel_Skip : Known Try.prog f_wheel_Wheel_Skip Try.f15 hplan_wheel_Wheel_Skip (bodyOf Try.f15) := ⟨Try.func15, by kernel_rfl, by kernel_rfl, by kernel_rfl, by kernel_rfl, by kernel_rfl⟩
def wheel_Wheel_Skip_j0 (w0b : Nat) (x20 : Int) (n1 : Int) (l8a : Option Addr) (l8n : Nat) (l8c : Nat) (x25r0 : Int) (next6 : ((Option Addr × Nat × Nat) × Unit) → Heap → Prop) (x34 : Bool) (H4 : Heap) (R : Value → Heap → Prop) : Prop :=
 IfB x34
 (StCell H4 ⟨w0b, 65, none⟩ (Value.int .i64 (IntKind.wrap .i64 (x20 + n1))) fun H5 =>
 R (Value.tuple ⟨[(Value.slice l8a l8n l8c), (Value.int .i64 0)]⟩) H5)
 (StCell H4 ⟨w0b, 65, none⟩ (Value.int .i64 x25r0) fun H6 =>
 FnW Try.prog f_wheel_Wheel_take ⟨[(Value.pointer (some ⟨w0b, 0, none⟩))]⟩ H6 fun x41v H7 =>
 ∃ (x41a : Option Addr) (x41n x41c : Nat), x41v = (Value.slice x41a x41n x41c) ∧
 AppW Try.prog #[T_sl_int, T_sl_int] T_sl_int [(Value.slice l8a l8n l8c), (Value.slice x41a x41n x41c)] H7 fun x42v H8 =>
 ∃ (x42a : Option Addr) (x42n x42c : Nat), x42v = (Value.slice x42a x42n x42c) ∧
 next6 ((x42a, x42n, x42c), ()) H8)
def wheel_Wheel_Skip_l6 (w0b : Nat) (x20 : Int) (n1 : Int) (l8a : Option Addr) (l8n : Nat) (l8c : Nat) (H2 : Heap) (next6 : ((Option Addr × Nat × Nat) × Unit) → Heap → Prop) (R : Value → Heap → Prop) : Prop :=
 FnW Try.prog f_wheel_Wheel_Next ⟨[(Value.pointer (some ⟨w0b, 0, none⟩))]⟩ H2 fun x25v H3 =>
 ∃ x25r0 : Int, ∃ x25r1 : Bool, x25v = (Value.tuple ⟨[(Value.int .i64 x25r0), (Value.bool x25r1)]⟩) ∧
 IfB (!x25r1)
 (wheel_Wheel_Skip_j0 w0b x20 n1 l8a l8n l8c x25r0 next6 true H3 R)
 (wheel_Wheel_Skip_j0 w0b x20 n1 l8a l8n l8c x25r0 next6 (decide ((x25r0 : Int) > (IntKind.wrap .i64 (x20 + n1)))) H3 R)
def wheel_Wheel_Skip_p (w0b : Nat) (n1 : Int) (H : Heap) (R : Value → Heap → Prop) : Prop :=
 FnW Try.prog f_wheel_Wheel_may ⟨[(Value.pointer (some ⟨w0b, 0, none⟩)), (Value.int .i64 n1)]⟩ H fun x13v H1 =>
 ∃ x13 : Int, x13v = (Value.int .i64 x13) ∧
 IfB ((x13 : Int) != 0)
 (R (Value.tuple ⟨[(Value.slice none 0 0), (Value.int .i64 x13)]⟩) H1)
 (∃ x20 : Int, H1.cell ⟨w0b, 65, none⟩ = some (Value.int .i64 x20) ∧
 LoopI ((Option Addr × Nat × Nat) × Unit) ((none, 0, 0), ()) H1 fun x H next => ∀ _g : Env, wheel_Wheel_Skip_l6 w0b x20 n1 x.1.1 x.1.2.1 x.1.2.2 H next R)
theorem wheel_Wheel_Skip_heq (w0b : Nat) (n1 : Int) (H : Heap) (R : Value → Heap → Prop) : wheel_Wheel_Skip_p w0b n1 H R = CodeW Try.prog hplan_wheel_Wheel_Skip (bodyOf Try.f15) (env0 [(Value.pointer (some ⟨w0b, 0, none⟩)), (Value.int .i64 n1)]) H (RetW Try.prog Try.f15.results.toList R) := by kernel_rfl
theorem wheel_Wheel_Skip_sh (w0b : Nat) (n1 : Int) {H : Heap} {R : Value → Heap → Prop} (h : wheel_Wheel_Skip_p w0b n1 H fun v H1 => ∀ H2, Shut H H1 H2 → R v H2) : FnW Try.prog f_wheel_Wheel_Skip ⟨[(Value.pointer (some ⟨w0b, 0, none⟩)), (Value.int .i64 n1)]⟩ H R := FnW.of_code hk_wheel_Wheel_Skip (by kernel_rfl) (Eq.mp (wheel_Wheel_Skip_heq w0b n1 H _) h)
def hplan_wheel_Wheel_Tick : Plan := ⟨[], [], [], []⟩
theorem hk_wheel_Wheel_Tick : Known Try.prog f_wheel_Wheel_Tick Try.f16 hplan_wheel_Wheel_Tick (bodyOf Try.f16) := ⟨Try.func16, by kernel_rfl, by kernel_rfl, by kernel_rfl, by kernel_rfl, by kernel_rfl⟩
def wheel_Wheel_Tick_p (w0b : Nat) (H : Heap) (R : Value → Heap → Prop) : Prop :=
 FnW Try.prog f_wheel_Wheel_may ⟨[(Value.pointer (some ⟨w0b, 0, none⟩)), (Value.int .i64 1)]⟩ H fun x6v H1 =>
 ∃ x6 : Int, x6v = (Value.int .i64 x6) ∧
 IfB ((x6 : Int) != 0)
 (R (Value.tuple ⟨[(Value.slice none 0 0), (Value.int .i64 x6)]⟩) H1)
 (∃ x13 : Int, H1.cell ⟨w0b, 65, none⟩ = some (Value.int .i64 x13) ∧
 StCell H1 ⟨w0b, 65, none⟩ (Value.int .i64 (IntKind.wrap .i64 (x13 + 1))) fun H2 =>
 FnW Try.prog f_wheel_Wheel_take ⟨[(Value.pointer (some ⟨w0b, 0, none⟩))]⟩ H2 fun x18v H3 =>
 ∃ (x18a : Option Addr) (x18n x18c : Nat), x18v = (Value.slice x18a x18n x18c) ∧
 R (Value.tuple ⟨[(Value.slice x18a x18n x18c), (Value.int .i64 0)]⟩) H3)
theorem wheel_Wheel_Tick_heq (w0b : Nat) (H : Heap) (R : Value → Heap → Prop) : wheel_Wheel_Tick_p w0b H R = CodeW Try.prog hplan_wheel_Wheel_Tick (bodyOf Try.f16) (env0 [(Value.pointer (some ⟨w0b, 0, none⟩))]) H (RetW Try.prog Try.f16.results.toList R) := by kernel_rfl
theorem wheel_Wheel_Tick_sh (w0b : Nat) {H : Heap} {R : Value → Heap → Prop} (h : wheel_Wheel_Tick_p w0b H fun v H1 => ∀ H2, Shut H H1 H2 → R v H2) : FnW Try.prog f_wheel_Wheel_Tick ⟨[(Value.pointer (some ⟨w0b, 0, none⟩))]⟩ H R := FnW.of_code hk_wheel_Wheel_Tick (by kernel_rfl) (Eq.mp (wheel_Wheel_Tick_heq w0b H _) h)
def hplan_base_SameInts : Plan := ⟨[], [(4, [5], [.int .i64], [0, 1])], [], []⟩
theorem hk_base_SameInts : Known Try.prog f_base_SameInts Try.f17 hplan_base_SameInts (bodyOf Try.f17) := ⟨Try.func17, by kernel_rfl, by kernel_rfl, by kernel_rfl, by kernel_rfl, by kernel_rfl⟩
def base_SameInts_l4 (a0a : Option Addr) (a0n : Nat) (a0c : Nat) (b1a : Option Addr) (b1n : Nat) (b1c : Nat) (i5 : Int) (H1 : Heap) (next4 : (Int × Unit) → Heap → Prop) (R : Value → Heap → Prop) : Prop :=
 IfB (decide ((i5 : Int) < (a0n : Int)))
 (NilP a0a fun x19q =>
 InB i5 a0n fun x19i =>
 elemAt x19q x19i 1 fun x19p =>
 ∃ x20 : Int, H1.cell x19p = some (Value.int .i64 x20) ∧
 NilP b1a fun x23q =>
 InB i5 b1n fun x23i =>
 elemAt x23q x23i 1 fun x23p =>
 ∃ x24 : Int, H1.cell x23p = some (Value.int .i64 x24) ∧
 IfB ((x20 : Int) != x24)
 (R (Value.bool false) H1)
 (next4 ((IntKind.wrap .i64 (i5 + 1)), ()) H1))
 (R (Value.bool true) H1)
def base_SameInts_p (a0a : Option Addr) (a0n : Nat) (a0c : Nat) (b1a : Option Addr) (b1n : Nat) (b1c : Nat) (H : Heap) (R : Value → Heap → Prop) : Prop :=
 IfB (((a0n : Int) : Int) != (b1n : Int))
 (R (Value.bool false) H)
 (LoopI (Int × Unit) (0, ()) H fun x H next => ∀ _g : Env, base_SameInts_l4 a0a a0n a0c b1a b1n b1c x.1 H next R)
theorem base_SameInts_heq (a0a : Option Addr) (a0n : Nat) (a0c : Nat) (b1a : Option Addr) (b1n : Nat) (b1c : Nat) (H : Heap) (R : Value → Heap → Prop) : base_SameInts_p a0a a0n a0c b1a b1n b1c H R = CodeW Try.prog hplan_base_SameInts (bodyOf Try.f17) (env0 [(Value.slice a0a a0n a0c), (Value.slice b1a b1n b1c)]) H (RetW Try.prog Try.f17.results.toList R) := by kernel_rfl
theorem base_SameInts_sh (a0a : Option Addr) (a0n : Nat) (a0c : Nat) (b1a : Option Addr) (b1n : Nat) (b1c : Nat) {H : Heap} {R : Value → Heap → Prop} (h : base_SameInts_p a0a a0n a0c b1a b1n b1c H fun v H1 => ∀ H2, Shut H H1 H2 → R v H2) : FnW Try.prog f_base_SameInts ⟨[(Value.slice a0a a0n a0c), (Value.slice b1a b1n b1c)]⟩ H R := FnW.of_code hk_base_SameInts (by kernel_rfl) (Eq.mp (base_SameInts_heq a0a a0n a0c b1a b1n b1c H _) h)
def hplan_ref04_Wheel_Set : Plan := ⟨[(10, [0, 2, 3, 4, 6, 7, 8, 9, 10, 11, 12, 13, 16, 17, 18, 1, 14, 5, 15, 19, 20, 21, 22], [66])], [(8, [10], [.int .i64], [0, 1, 2, 9])], [], []⟩
theorem hk_ref04_Wheel_Set : Known Try.prog f_ref04_Wheel_Set Try.f18 hplan_ref04_Wheel_Set (bodyOf Try.f18) := ⟨Try.func18, by kernel_rfl, by kernel_rfl, by kernel_rfl, by kernel_rfl, by kernel_rfl⟩
def ref04_Wheel_Set_j2 (w0b : Nat) (key1 : Int) (after2 : Int) (x40a : Option Addr) (x40n : Nat) (x40c : Nat) (k10 : Int) (next8 : (Int × Unit) → Heap → Prop) (x53 : Bool) (H6 : Heap) (R : Value → Heap → Prop) : Prop :=
 IfB x53
 (next8 ((IntKind.wrap .i64 (k10 + 1)), ()) H6)
 (∃ bs : List Nat, (∀ b ∈ bs, ∃ o, H6 b = some o) ∧
 InC k10 x40c fun x60h =>
 w0b ∈ bs ∧ ∃ x66 : Int, H6.cell ⟨w0b, 1, none⟩ = some (Value.int .i64 x66) ∧
 InC k10 x40n fun x74l =>
 NewW H6 (Obj.cells ⟨[]⟩ T_ref04_Timer) fun x57b H7 =>
 NewW H7 (Obj.cells ⟨[(Value.int .i64 key1), (Value.int .i64 (IntKind.wrap .i64 (x66 + after2)))]⟩ T_ref04_Timer) fun x70b H8 =>
 AppW Try.prog #[T_sl_pointsmanref04_Timer, T_sl_pointsmanref04_Timer] T_sl_pointsmanref04_Timer [(Value.slice (some ⟨x57b, 0, none⟩) 0 0), (Value.slice x40a x60h x40c)] H8 fun x61v H9 =>
 ∃ (x61a : Option Addr) (x61n x61c : Nat), x61v = (Value.slice x61a x61n x61c) ∧
 KeptIn bs H6 H9 ∧ AppW Try.prog #[T_sl_pointsmanref04_Timer, T_sl_pointsmanref04_Timer] T_sl_pointsmanref04_Timer [(Value.slice x61a x61n x61c), (Value.slice (some ⟨x70b, 0, none⟩) 1 1)] H9 fun x71v H10 =>
 ∃ (x71a : Option Addr) (x71n x71c : Nat), x71v = (Value.slice x71a x71n x71c) ∧
 KeptIn bs H6 H10 ∧ AppW Try.prog #[T_sl_pointsmanref04_Timer, T_sl_pointsmanref04_Timer] T_sl_pointsmanref04_Timer [(Value.slice x71a x71n x71c), (Value.slice (if x40c = x74l then x40a else Option.map (fun a => Addr.add a (x74l * 2)) x40a) (x40n - x74l) (x40c - x74l))] H10 fun x75v H11 =>
 ∃ (x75a : Option Addr) (x75n x75c : Nat), x75v = (Value.slice x75a x75n x75c) ∧
 KeptIn bs H6 H11 ∧ StCell H11 ⟨w0b, 0, none⟩ (Value.slice x75a x75n x75c) fun H12 =>
 R (Value.int .i64 0) H12)
def ref04_Wheel_Set_l8 (w0b : Nat) (key1 : Int) (after2 : Int) (x40a : Option Addr) (x40n : Nat) (x40c : Nat) (k10 : Int) (H5 : Heap) (next8 : (Int × Unit) → Heap → Prop) (R : Value → Heap → Prop) : Prop :=
 IfB (decide ((k10 : Int) < (x40n : Int)))
 (NilP x40a fun x48q =>
 InB k10 x40n fun x48i =>
 elemAt x48q x48i 2 fun x48p =>
 ∃ x50 : Int, H5.cell x48p = some (Value.int .i64 x50) ∧
 ref04_Wheel_Set_j2 w0b key1 after2 x40a x40n x40c k10 next8 (decide ((x50 : Int) < key1)) H5 R)
 (ref04_Wheel_Set_j2 w0b key1 after2 x40a x40n x40c k10 next8 false H5 R)
def ref04_Wheel_Set_j1 (w0b : Nat) (key1 : Int) (after2 : Int) (x37 : Bool) (H3 : Heap) (R : Value → Heap → Prop) : Prop :=
 IfB x37
 (R (Value.int .i64 4) H3)
 (FnW Try.prog f_ref04_Wheel_without ⟨[(Value.pointer (some ⟨w0b, 0, none⟩)), (Value.int .i64 key1)]⟩ H3 fun x40v H4 =>
 ∃ (x40a : Option Addr) (x40n x40c : Nat), x40v = (Value.slice x40a x40n x40c) ∧
 LoopI (Int × Unit) (0, ()) H4 fun x H next => ∀ _g : Env, ref04_Wheel_Set_l8 w0b key1 after2 x40a x40n x40c x.1 H next R)
def ref04_Wheel_Set_j0 (w0b : Nat) (key1 : Int) (after2 : Int) (x21 : Bool) (H1 : Heap) (R : Value → Heap → Prop) : Prop :=
 IfB x21
 (R (Value.int .i64 2) H1)
 (FnW Try.prog f_ref04_Wheel_Due ⟨[(Value.pointer (some ⟨w0b, 0, none⟩)), (Value.int .i64 key1)]⟩ H1 fun x25v H2 =>
 ∃ x25r0 : Int, ∃ x25r1 : Bool, x25v = (Value.tuple ⟨[(Value.int .i64 x25r0), (Value.bool x25r1)]⟩) ∧
 IfB (!x25r1)
 (∃ (x34a : Option Addr) (x34n x34c : Nat), H2.cell ⟨w0b, 0, none⟩ = some (Value.slice x34a x34n x34c) ∧
 ref04_Wheel_Set_j1 w0b key1 after2 (decide (((x34n : Int) : Int) ≥ 256)) H2 R)
 (ref04_Wheel_Set_j1 w0b key1 after2 false H2 R))
def ref04_Wheel_Set_p (w0b : Nat) (key1 : Int) (after2 : Int) (H : Heap) (R : Value → Heap → Prop) : Prop :=
 IfB (decide ((after2 : Int) < 1))
 (ref04_Wheel_Set_j0 w0b key1 after2 true H R)
 (∃ x18 : Int, H.cell ⟨w0b, 1, none⟩ = some (Value.int .i64 x18) ∧
 ref04_Wheel_Set_j0 w0b key1 after2 (decide ((after2 : Int) > (IntKind.wrap .i64 (1099511627776 - x18)))) H R)
theorem ref04_Wheel_Set_heq (w0b : Nat) (key1 : Int) (after2 : Int) (H : Heap) (R : Value → Heap → Prop) : ref04_Wheel_Set_p w0b key1 after2 H R = CodeW Try.prog hplan_ref04_Wheel_Set (bodyOf Try.f18) (env0 [(Value.pointer (some ⟨w0b, 0, none⟩)), (Value.int .i64 key1), (Value.int .i64 after2)]) H (RetW Try.prog Try.f18.results.toList R) := by kernel_rfl
theorem ref04_Wheel_Set_sh (w0b : Nat) (key1 : Int) (after2 : Int) {H : Heap} {R : Value → Heap → Prop} (h : ref04_Wheel_Set_p w0b key1 after2 H fun v H1 => ∀ H2, Shut H H1 H2 → R v H2) : FnW Try.prog f_ref04_Wheel_Set ⟨[(Value.pointer (some ⟨w0b, 0, none⟩)), (Value.int .i64 key1), (Value.int .i64 after2)]⟩ H R := FnW.of_code hk_ref04_Wheel_Set (by kernel_rfl) (Eq.mp (ref04_Wheel_Set_heq w0b key1 after2 H _) h)
def hplan_ref04_Wheel_Tick : Plan := ⟨[], [], [], []⟩
theorem hk_ref04_Wheel_Tick : Known Try.prog f_ref04_Wheel_Tick Try.f19 hplan_ref04_Wheel_Tick (bodyOf Try.f19) := ⟨Try.func19, by kernel_rfl, by kernel_rfl, by kernel_rfl, by kernel_rfl, by kernel_rfl⟩
def ref04_Wheel_Tick_p (w0b : Nat) (H : Heap) (R : Value → Heap → Prop) : Prop :=
 FnW Try.prog f_ref04_Wheel_Skip ⟨[(Value.pointer (some ⟨w0b, 0, none⟩)), (Value.int .i64 1)]⟩ H fun x5v H1 =>
 ∃ (x5r0a : Option Addr) (x5r0n x5r0c : Nat), ∃ x5r1 : Int, x5v = (Value.tuple ⟨[(Value.slice x5r0a x5r0n x5r0c), (Value.int .i64 x5r1)]⟩) ∧
 R (Value.tuple ⟨[(Value.slice x5r0a x5r0n x5r0c), (Value.int .i64 x5r1)]⟩) H1
theorem ref04_Wheel_Tick_heq (w0b : Nat) (H : Heap) (R : Value → Heap → Prop) : ref04_Wheel_Tick_p w0b H R = CodeW Try.prog hplan_ref04_Wheel_Tick (bodyOf Try.f19) (env0 [(Value.pointer (some ⟨w0b, 0, none⟩))]) H (RetW Try.prog Try.f19.results.toList R) := by kernel_rfl
theorem ref04_Wheel_Tick_sh (w0b : Nat) {H : Heap} {R : Value → Heap → Prop} (h : ref04_Wheel_Tick_p w0b H fun v H1 => ∀ H2, Shut H H1 H2 → R v H2) : FnW Try.prog f_ref04_Wheel_Tick ⟨[(Value.pointer (some ⟨w0b, 0, none⟩))]⟩ H R := FnW.of_code hk_ref04_Wheel_Tick (by kernel_rfl) (Eq.mp (ref04_Wheel_Tick_heq w0b H _) h)
def hplan_base_HasInt : Plan := ⟨[], [(2, [5], [.int .i64], [0, 1])], [], []⟩
theorem hk_base_HasInt : Known Try.prog f_base_HasInt Try.f20 hplan_base_HasInt (bodyOf Try.f20) := ⟨Try.func20, by kernel_rfl, by kernel_rfl, by kernel_rfl, by kernel_rfl, by kernel_rfl⟩
def base_HasInt_l2 (l0a : Option Addr) (l0n : Nat) (l0c : Nat) (n1 : Int) (i5 : Int) (H1 : Heap) (next2 : (Int × Unit) → Heap → Prop) (R : Value → Heap → Prop) : Prop :=
 IfB (decide ((i5 : Int) < (l0n : Int)))
 (NilP l0a fun x14q =>
 InB i5 l0n fun x14i =>
 elemAt x14q x14i 1 fun x14p =>
 ∃ x15 : Int, H1.cell x14p = some (Value.int .i64 x15) ∧
 IfB ((x15 : Int) == n1)
 (R (Value.bool true) H1)
 (next2 ((IntKind.wrap .i64 (i5 + 1)), ()) H1))
 (R (Value.bool false) H1)
def base_HasInt_p (l0a : Option Addr) (l0n : Nat) (l0c : Nat) (n1 : Int) (H : Heap) (R : Value → Heap → Prop) : Prop :=
 LoopI (Int × Unit) (0, ()) H fun x H next => ∀ _g : Env, base_HasInt_l2 l0a l0n l0c n1 x.1 H next R
theorem base_HasInt_heq (l0a : Option Addr) (l0n : Nat) (l0c : Nat) (n1 : Int) (H : Heap) (R : Value → Heap → Prop) : base_HasInt_p l0a l0n l0c n1 H R = CodeW Try.prog hplan_base_HasInt (bodyOf Try.f20) (env0 [(Value.slice l0a l0n l0c), (Value.int .i64 n1)]) H (RetW Try.prog Try.f20.results.toList R) := by kernel_rfl
theorem base_HasInt_sh (l0a : Option Addr) (l0n : Nat) (l0c : Nat) (n1 : Int) {H : Heap} {R : Value → Heap → Prop} (h : base_HasInt_p l0a l0n l0c n1 H fun v H1 => ∀ H2, Shut H H1 H2 → R v H2) : FnW Try.prog f_base_HasInt ⟨[(Value.slice l0a l0n l0c), (Value.int .i64 n1)]⟩ H R := FnW.of_code hk_base_HasInt (by kernel_rfl) (Eq.mp (base_HasInt_heq l0a l0n l0c n1 H _) h)
def hplan_wheel_Wheel_Due : Plan := ⟨[], [], [], []⟩
theorem hk_wheel_Wheel_Due : Known Try.prog f_wheel_Wheel_Due Try.f21 hplan_wheel_Wheel_Due (bodyOf Try.f21) := ⟨Try.func21, by kernel_rfl, by kernel_rfl, by kernel_rfl, by kernel_rfl, by kernel_rfl⟩
def wheel_Wheel_Due_p (w0b : Nat) (key1 : Int) (H : Heap) (R : Value → Heap → Prop) : Prop :=
 FnW Try.prog f_wheel_Wheel_is ⟨[(Value.pointer (some ⟨w0b, 0, none⟩))]⟩ H fun x9v H1 =>
 ∃ x9 : Bool, x9v = (Value.bool x9) ∧
 IfB (!x9)
 (R (Value.tuple ⟨[(Value.int .i64 0), (Value.bool false)]⟩) H1)
 (∃ x15 : Value, H1.cell ⟨w0b, 64, none⟩ = some x15 ∧
 SemW Try.prog (Instr.lookup T_mapaint_int x15 (Value.int .i64 key1) true) H1 fun x17v H2 =>
 ∃ x17r0 : Int, ∃ x17r1 : Bool, x17v = (Value.tuple ⟨[(Value.int .i64 x17r0), (Value.bool x17r1)]⟩) ∧
 R (Value.tuple ⟨[(Value.int .i64 x17r0), (Value.bool x17r1)]⟩) H2)
theorem wheel_Wheel_Due_heq (w0b : Nat) (key1 : Int) (H : Heap) (R : Value → Heap → Prop) : wheel_Wheel_Due_p w0b key1 H R = CodeW Try.prog hplan_wheel_Wheel_Due (bodyOf Try.f21) (env0 [(Value.pointer (some ⟨w0b, 0, none⟩)), (Value.int .i64 key1)]) H (RetW Try.prog Try.f21.results.toList R) := by kernel_rfl
theorem wheel_Wheel_Due_sh (w0b : Nat) (key1 : Int) {H : Heap} {R : Value → Heap → Prop} (h : wheel_Wheel_Due_p w0b key1 H fun v H1 => ∀ H2, Shut H H1 H2 → R v H2) : FnW Try.prog f_wheel_Wheel_Due ⟨[(Value.pointer (some ⟨w0b, 0, none⟩)), (Value.int .i64 key1)]⟩ H R := FnW.of_code hk_wheel_Wheel_Due (by kernel_rfl) (Eq.mp (wheel_Wheel_Due_heq w0b key1 H _) h)
def hplan_law04_same : Plan := ⟨[(3, [0, 2, 3, 4, 5, 1, 6, 7, 8, 10, 11, 12, 13, 14, 9, 15, 16, 17, 18, 19, 20, 21, 22, 23, 24, 25, 26], [27, 35])], [(6, [9], [.int .i64], [0, 1])], [], []⟩
theorem hk_law04_same : Known Try.prog f_law04_same Try.f22 hplan_law04_same (bodyOf Try.f22) := ⟨Try.func22, by kernel_rfl, by kernel_rfl, by kernel_rfl, by kernel_rfl, by kernel_rfl⟩
def law04_same_j1 (x0b : Nat) (y1b : Nat) (i9 : Int) (next6 : (Int × Unit) → Heap → Prop) (x84 : Bool) (H7 : Heap) (R : Value → Heap → Prop) : Prop :=
 IfB x84
 (R (Value.bool false) H7)
 (next6 ((IntKind.wrap .i64 (i9 + 1)), ()) H7)
def law04_same_l6 (x0b : Nat) (y1b : Nat) (i9 : Int) (H5 : Heap) (next6 : (Int × Unit) → Heap → Prop) (R : Value → Heap → Prop) : Prop :=
 ∃ (x53a : Option Addr) (x53n x53c : Nat), H5.cell ⟨y1b, 0, none⟩ = some (Value.slice x53a x53n x53c) ∧
 IfB (decide ((i9 : Int) < (x53n : Int)))
 (∃ (x63a : Option Addr) (x63n x63c : Nat), H5.cell ⟨y1b, 0, none⟩ = some (Value.slice x63a x63n x63c) ∧
 NilP x63a fun x65q =>
 InB i9 x63n fun x65i =>
 elemAt x65q x65i 2 fun x65p =>
 ∃ x67 : Int, H5.cell x65p = some (Value.int .i64 x67) ∧
 FnW Try.prog f_wheel_Wheel_Due ⟨[(Value.pointer (some ⟨x0b, 0, none⟩)), (Value.int .i64 x67)]⟩ H5 fun x68v H6 =>
 ∃ x68r0 : Int, ∃ x68r1 : Bool, x68v = (Value.tuple ⟨[(Value.int .i64 x68r0), (Value.bool x68r1)]⟩) ∧
 ∃ (x75a : Option Addr) (x75n x75c : Nat), H6.cell ⟨y1b, 0, none⟩ = some (Value.slice x75a x75n x75c) ∧
 NilP x75a fun x77q =>
 InB i9 x75n fun x77i =>
 elemAt x77q x77i 2 fun x77p =>
 ∃ x79 : Int, H6.cell ⟨x77p.block, x77p.off + 1, none⟩ = some (Value.int .i64 x79) ∧
 IfB ((x68r0 : Int) != x79)
 (law04_same_j1 x0b y1b i9 next6 true H6 R)
 (law04_same_j1 x0b y1b i9 next6 (!x68r1) H6 R))
 (R (Value.bool true) H5)
def law04_same_j0 (x0b : Nat) (y1b : Nat) (x48 : Bool) (H4 : Heap) (R : Value → Heap → Prop) : Prop :=
 IfB x48
 (R (Value.bool false) H4)
 (LoopI (Int × Unit) (0, ()) H4 fun x H next => ∀ _g : Env, law04_same_l6 x0b y1b x.1 H next R)
def law04_same_p (x0b : Nat) (y1b : Nat) (H : Heap) (R : Value → Heap → Prop) : Prop :=
 FnW Try.prog f_wheel_Wheel_Next ⟨[(Value.pointer (some ⟨x0b, 0, none⟩))]⟩ H fun x14v H1 =>
 ∃ x14r0 : Int, ∃ x14r1 : Bool, x14v = (Value.tuple ⟨[(Value.int .i64 x14r0), (Value.bool x14r1)]⟩) ∧
 FnW Try.prog f_ref04_Wheel_Next ⟨[(Value.pointer (some ⟨y1b, 0, none⟩))]⟩ H1 fun x19v H2 =>
 ∃ x19r0 : Int, ∃ x19r1 : Bool, x19v = (Value.tuple ⟨[(Value.int .i64 x19r0), (Value.bool x19r1)]⟩) ∧
 ∃ bs : List Nat, (∀ b ∈ bs, ∃ o, H2 b = some o) ∧
 y1b ∈ bs ∧ ∃ x27 : Int, H2.cell ⟨y1b, 1, none⟩ = some (Value.int .i64 x27) ∧
 FnW Try.prog f_wheel_Wheel_Now ⟨[(Value.pointer (some ⟨x0b, 0, none⟩))]⟩ H2 fun x23v H3 =>
 ∃ x23 : Int, x23v = (Value.int .i64 x23) ∧
 KeptIn bs H2 H3 ∧ IfB ((x23 : Int) != x27)
 (law04_same_j0 x0b y1b true H3 R)
 (y1b ∈ bs ∧ ∃ (x35a : Option Addr) (x35n x35c : Nat), H2.cell ⟨y1b, 0, none⟩ = some (Value.slice x35a x35n x35c) ∧
 FnW Try.prog f_wheel_Wheel_Len ⟨[(Value.pointer (some ⟨x0b, 0, none⟩))]⟩ H3 fun x31v H8 =>
 ∃ x31 : Int, x31v = (Value.int .i64 x31) ∧
 KeptIn bs H2 H8 ∧ IfB ((x31 : Int) != (x35n : Int))
 (law04_same_j0 x0b y1b true H8 R)
 (IfB ((x14r0 : Int) != x19r0)
 (law04_same_j0 x0b y1b true H8 R)
 (law04_same_j0 x0b y1b (!(x14r1 == x19r1)) H8 R)))
theorem law04_same_heq (x0b : Nat) (y1b : Nat) (H : Heap) (R : Value → Heap → Prop) : law04_same_p x0b y1b H R = CodeW Try.prog hplan_law04_same (bodyOf Try.f22) (env0 [(Value.pointer (some ⟨x0b, 0, none⟩)), (Value.pointer (some ⟨y1b, 0, none⟩))]) H (RetW Try.prog Try.f22.results.toList R) := by kernel_rfl
theorem law04_same_sh (x0b : Nat) (y1b : Nat) {H : Heap} {R : Value → Heap → Prop} (h : law04_same_p x0b y1b H fun v H1 => ∀ H2, Shut H H1 H2 → R v H2) : FnW Try.prog f_law04_same ⟨[(Value.pointer (some ⟨x0b, 0, none⟩)), (Value.pointer (some ⟨y1b, 0, none⟩))]⟩ H R := FnW.of_code hk_law04_same (by kernel_rfl) (Eq.mp (law04_same_heq x0b y1b H _) h)
def hplan_ref04_Wheel_Due : Plan := ⟨[], [(2, [6], [.int .i64], [0, 1])], [], []⟩
theorem hk_ref04_Wheel_Due : Known Try.prog f_ref04_Wheel_Due Try.f23 hplan_ref04_Wheel_Due (bodyOf Try.f23) := ⟨Try.func23, by kernel_rfl, by kernel_rfl, by kernel_rfl, by kernel_rfl, by kernel_rfl⟩
def ref04_Wheel_Due_l2 (w0b : Nat) (key1 : Int) (i6 : Int) (H1 : Heap) (next2 : (Int × Unit) → Heap → Prop) (R : Value → Heap → Prop) : Prop :=
 ∃ (x11a : Option Addr) (x11n x11c : Nat), H1.cell ⟨w0b, 0, none⟩ = some (Value.slice x11a x11n x11c) ∧
 IfB (decide ((i6 : Int) < (x11n : Int)))
 (∃ (x19a : Option Addr) (x19n x19c : Nat), H1.cell ⟨w0b, 0, none⟩ = some (Value.slice x19a x19n x19c) ∧
 NilP x19a fun x21q =>
 InB i6 x19n fun x21i =>
 elemAt x21q x21i 2 fun x21p =>
 ∃ x23 : Int, H1.cell x21p = some (Value.int .i64 x23) ∧
 IfB ((x23 : Int) == key1)
 (∃ (x29a : Option Addr) (x29n x29c : Nat), H1.cell ⟨w0b, 0, none⟩ = some (Value.slice x29a x29n x29c) ∧
 NilP x29a fun x31q =>
 InB i6 x29n fun x31i =>
 elemAt x31q x31i 2 fun x31p =>
 ∃ x33 : Int, H1.cell ⟨x31p.block, x31p.off + 1, none⟩ = some (Value.int .i64 x33) ∧
 R (Value.tuple ⟨[(Value.int .i64 x33), (Value.bool true)]⟩) H1)
 (next2 ((IntKind.wrap .i64 (i6 + 1)), ()) H1))
 (R (Value.tuple ⟨[(Value.int .i64 0), (Value.bool false)]⟩) H1)
def ref04_Wheel_Due_p (w0b : Nat) (key1 : Int) (H : Heap) (R : Value → Heap → Prop) : Prop :=
 LoopI (Int × Unit) (0, ()) H fun x H next => ∀ _g : Env, ref04_Wheel_Due_l2 w0b key1 x.1 H next R
theorem ref04_Wheel_Due_heq (w0b : Nat) (key1 : Int) (H : Heap) (R : Value → Heap → Prop) : ref04_Wheel_Due_p w0b key1 H R = CodeW Try.prog hplan_ref04_Wheel_Due (bodyOf Try.f23) (env0 [(Value.pointer (some ⟨w0b, 0, none⟩)), (Value.int .i64 key1)]) H (RetW Try.prog Try.f23.results.toList R) := by kernel_rfl
theorem ref04_Wheel_Due_sh (w0b : Nat) (key1 : Int) {H : Heap} {R : Value → Heap → Prop} (h : ref04_Wheel_Due_p w0b key1 H fun v H1 => ∀ H2, Shut H H1 H2 → R v H2) : FnW Try.prog f_ref04_Wheel_Due ⟨[(Value.pointer (some ⟨w0b, 0, none⟩)), (Value.int .i64 key1)]⟩ H R := FnW.of_code hk_ref04_Wheel_Due (by kernel_rfl) (Eq.mp (ref04_Wheel_Due_heq w0b key1 H _) h)
def hplan_wheel_Wheel_Next : Plan := ⟨[], [(5, [4, 5], [.int .i64, .bool], [17])], [], []⟩
theorem hk_wheel_Wheel_Next : Known Try.prog f_wheel_Wheel_Next Try.f24 hplan_wheel_Wheel_Next (bodyOf Try.f24) := ⟨Try.func24, by kernel_rfl, by kernel_rfl, by kernel_rfl, by kernel_rfl, by kernel_rfl⟩
def wheel_Wheel_Next_j0 (best4 : Int) (any5 : Bool) (x20x : Int) (x17v : Value) (next5 : (Int × Bool × Unit) → Heap → Prop) (x28 : Bool) (H6 : Heap) (R : Value → Heap → Prop) : Prop :=
 IfB x28
 (next5 (x20x, (true, ())) H6)
 (next5 (best4, (any5, ())) H6)
def wheel_Wheel_Next_l5 (x17v : Value) (best4 : Int) (any5 : Bool) (H3 : Heap) (next5 : (Int × Bool × Unit) → Heap → Prop) (R : Value → Heap → Prop) : Prop :=
 SemW Try.prog (Instr.next x17v false T_) H3 fun x18v H4 =>
 ∃ (x18b : Bool) (x18l : List Value), x18v = Value.tuple ⟨Value.bool x18b :: x18l⟩ ∧
 IfB x18b
 (SemW Try.prog (Instr.entry x17v) H4 fun x20v H5 =>
 ∃ x20k x20x : Int, x20v = Value.tuple ⟨[Value.int .i64 x20k, Value.int .i64 x20x]⟩ ∧
 IfB (!any5)
 (wheel_Wheel_Next_j0 best4 any5 x20x x17v next5 true H5 R)
 (wheel_Wheel_Next_j0 best4 any5 x20x x17v next5 (decide ((x20x : Int) < best4)) H5 R))
 (R (Value.tuple ⟨[(Value.int .i64 best4), (Value.bool any5)]⟩) H4)
def wheel_Wheel_Next_p (w0b : Nat) (H : Heap) (R : Value → Heap → Prop) : Prop :=
 FnW Try.prog f_wheel_Wheel_is ⟨[(Value.pointer (some ⟨w0b, 0, none⟩))]⟩ H fun x9v H1 =>
 ∃ x9 : Bool, x9v = (Value.bool x9) ∧
 IfB (!x9)
 (R (Value.tuple ⟨[(Value.int .i64 0), (Value.bool false)]⟩) H1)
 (∃ x16 : Value, H1.cell ⟨w0b, 64, none⟩ = some x16 ∧
 RgW Try.prog T_mapaint_int x16 H1 fun x17v H2 =>
 LoopI (Int × Bool × Unit) (0, (false, ())) H2 fun x H next => ∀ _g : Env, wheel_Wheel_Next_l5 x17v x.1 x.2.1 H next R)
theorem wheel_Wheel_Next_heq (w0b : Nat) (H : Heap) (R : Value → Heap → Prop) : wheel_Wheel_Next_p w0b H R = CodeW Try.prog hplan_wheel_Wheel_Next (bodyOf Try.f24) (env0 [(Value.pointer (some ⟨w0b, 0, none⟩))]) H (RetW Try.prog Try.f24.results.toList R) := by kernel_rfl
theorem wheel_Wheel_Next_sh (w0b : Nat) {H : Heap} {R : Value → Heap → Prop} (h : wheel_Wheel_Next_p w0b H fun v H1 => ∀ H2, Shut H H1 H2 → R v H2) : FnW Try.prog f_wheel_Wheel_Next ⟨[(Value.pointer (some ⟨w0b, 0, none⟩))]⟩ H R := FnW.of_code hk_wheel_Wheel_Next (by kernel_rfl) (Eq.mp (wheel_Wheel_Next_heq w0b H _) h)
def hplan_wheel_Wheel_Stop : Plan := ⟨[], [], [], []⟩
theorem hk_wheel_Wheel_Stop : Known Try.prog f_wheel_Wheel_Stop Try.f25 hplan_wheel_Wheel_Stop (bodyOf Try.f25) := ⟨Try.func25, by kernel_rfl, by kernel_rfl, by kernel_rfl, by kernel_rfl, by kernel_rfl⟩
def wheel_Wheel_Stop_p (w0b : Nat) (key1 : Int) (H : Heap) (R : Value → Heap → Prop) : Prop :=
 FnW Try.prog f_wheel_Wheel_is ⟨[(Value.pointer (some ⟨w0b, 0, none⟩))]⟩ H fun x8v H1 =>
 ∃ x8 : Bool, x8v = (Value.bool x8) ∧
 IfB (!x8)
 (R (Value.int .i64 1) H1)
 (∃ x14 : Value, H1.cell ⟨w0b, 64, none⟩ = some x14 ∧
 SemW Try.prog (Instr.lookup T_mapaint_int x14 (Value.int .i64 key1) true) H1 fun x16v H2 =>
 ∃ x16r0 : Int, ∃ x16r1 : Bool, x16v = (Value.tuple ⟨[(Value.int .i64 x16r0), (Value.bool x16r1)]⟩) ∧
 IfB (!x16r1)
 (R (Value.int .i64 5) H2)
 (FnW Try.prog f_wheel_Wheel_drop ⟨[(Value.pointer (some ⟨w0b, 0, none⟩)), (Value.int .i64 key1)]⟩ H2 fun x23v H3 =>
 x23v = (Value.tuple ⟨[]⟩) ∧
 R (Value.int .i64 0) H3))
theorem wheel_Wheel_Stop_heq (w0b : Nat) (key1 : Int) (H : Heap) (R : Value → Heap → Prop) : wheel_Wheel_Stop_p w0b key1 H R = CodeW Try.prog hplan_wheel_Wheel_Stop (bodyOf Try.f25) (env0 [(Value.pointer (some ⟨w0b, 0, none⟩)), (Value.int .i64 key1)]) H (RetW Try.prog Try.f25.results.toList R) := by kernel_rfl
theorem wheel_Wheel_Stop_sh (w0b : Nat) (key1 : Int) {H : Heap} {R : Value → Heap → Prop} (h : wheel_Wheel_Stop_p w0b key1 H fun v H1 => ∀ H2, Shut H H1 H2 → R v H2) : FnW Try.prog f_wheel_Wheel_Stop ⟨[(Value.pointer (some ⟨w0b, 0, none⟩)), (Value.int .i64 key1)]⟩ H R := FnW.of_code hk_wheel_Wheel_Stop (by kernel_rfl) (Eq.mp (wheel_Wheel_Stop_heq w0b key1 H _) h)
def hplan_wheel_Wheel_may : Plan := ⟨[], [], [], []⟩
theorem hk_wheel_Wheel_may : Known Try.prog f_wheel_Wheel_may Try.f26 hplan_wheel_Wheel_may (bodyOf Try.f26) := ⟨Try.func26, by kernel_rfl, by kernel_rfl, by kernel_rfl, by kernel_rfl, by kernel_rfl⟩
def wheel_Wheel_may_j0 (x9 : Bool) (H2 : Heap) (R : Value → Heap → Prop) : Prop :=
 IfB x9
 (R (Value.int .i64 2) H2)
 (R (Value.int .i64 0) H2)
def wheel_Wheel_may_p (w0b : Nat) (n1 : Int) (H : Heap) (R : Value → Heap → Prop) : Prop :=
 FnW Try.prog f_wheel_Wheel_is ⟨[(Value.pointer (some ⟨w0b, 0, none⟩))]⟩ H fun x7v H1 =>
 ∃ x7 : Bool, x7v = (Value.bool x7) ∧
 IfB (!x7)
 (R (Value.int .i64 1) H1)
 (IfB (decide ((n1 : Int) < 1))
 (wheel_Wheel_may_j0 true H1 R)
 (∃ x17 : Int, H1.cell ⟨w0b, 65, none⟩ = some (Value.int .i64 x17) ∧
 wheel_Wheel_may_j0 (decide ((n1 : Int) > (IntKind.wrap .i64 (1099511627776 - x17)))) H1 R))
theorem wheel_Wheel_may_heq (w0b : Nat) (n1 : Int) (H : Heap) (R : Value → Heap → Prop) : wheel_Wheel_may_p w0b n1 H R = CodeW Try.prog hplan_wheel_Wheel_may (bodyOf Try.f26) (env0 [(Value.pointer (some ⟨w0b, 0, none⟩)), (Value.int .i64 n1)]) H (RetW Try.prog Try.f26.results.toList R) := by kernel_rfl
theorem wheel_Wheel_may_sh (w0b : Nat) (n1 : Int) {H : Heap} {R : Value → Heap → Prop} (h : wheel_Wheel_may_p w0b n1 H fun v H1 => ∀ H2, Shut H H1 H2 → R v H2) : FnW Try.prog f_wheel_Wheel_may ⟨[(Value.pointer (some ⟨w0b, 0, none⟩)), (Value.int .i64 n1)]⟩ H R := FnW.of_code hk_wheel_Wheel_may (by kernel_rfl) (Eq.mp (wheel_Wheel_may_heq w0b n1 H _) h)
def hplan_wheel_Wheel_drop : Plan := ⟨[], [], [], []⟩
theorem hk_wheel_Wheel_drop : Known Try.prog f_wheel_Wheel_drop Try.f27 hplan_wheel_Wheel_drop (bodyOf Try.f27) := ⟨Try.func27, by kernel_rfl, by kernel_rfl, by kernel_rfl, by kernel_rfl, by kernel_rfl⟩
def wheel_Wheel_drop_p (w0b : Nat) (key1 : Int) (H : Heap) (R : Value → Heap → Prop) : Prop :=
 NewW H (Obj.cells ⟨[(Value.int .i64 key1)]⟩ T_int) fun key3b H1 =>
 ∃ x9 : Value, H1.cell ⟨w0b, 64, none⟩ = some x9 ∧
 ∃ x10 : Int, H1.cell ⟨key3b, 0, none⟩ = some (Value.int .i64 x10) ∧
 SemW Try.prog (Instr.lookup T_mapaint_int x9 (Value.int .i64 x10) false) H1 fun x11v H2 =>
 ∃ x11 : Int, x11v = (Value.int .i64 x11) ∧
 FnW Try.prog f_wheel_Wheel_spoke ⟨[(Value.pointer (some ⟨w0b, 0, none⟩)), (Value.int .i64 x11)]⟩ H2 fun x12v H3 =>
 ∃ x12 : Option Addr, x12v = (Value.pointer x12) ∧
 NilP x12 fun x15p =>
 ∃ (x16a : Option Addr) (x16n x16c : Nat), H3.cell x15p = some (Value.slice x16a x16n x16c) ∧
 FnW Try.prog f_slices_DeleteFuncasl_wheel_timer_wheel_timer ⟨[(Value.slice x16a x16n x16c), (Value.func (.func f_wheel_Wheel_drop_1) #[] #[(Value.pointer (some ⟨key3b, 0, none⟩))])]⟩ H3 fun x18v H4 =>
 ∃ (x18a : Option Addr) (x18n x18c : Nat), x18v = (Value.slice x18a x18n x18c) ∧
 NilP x12 fun x19p =>
 StCell H4 x19p (Value.slice x18a x18n x18c) fun H5 =>
 ∃ x23 : Value, H5.cell ⟨w0b, 64, none⟩ = some x23 ∧
 ∃ x24 : Int, H5.cell ⟨key3b, 0, none⟩ = some (Value.int .i64 x24) ∧
 SemW Try.prog (Builtin.delete_ #[T_mapaint_int, T_int] T_ ⟨[x23, (Value.int .i64 x24)]⟩) H5 fun x0v H6 =>
 R (Value.tuple ⟨[]⟩) H6
theorem wheel_Wheel_drop_heq (w0b : Nat) (key1 : Int) (H : Heap) (R : Value → Heap → Prop) : wheel_Wheel_drop_p w0b key1 H R = CodeW Try.prog hplan_wheel_Wheel_drop (bodyOf Try.f27) (env0 [(Value.pointer (some ⟨w0b, 0, none⟩)), (Value.int .i64 key1)]) H (RetW Try.prog Try.f27.results.toList R) := by kernel_rfl
theorem wheel_Wheel_drop_sh (w0b : Nat) (key1 : Int) {H : Heap} {R : Value → Heap → Prop} (h : wheel_Wheel_drop_p w0b key1 H fun v H1 => ∀ H2, Shut H H1 H2 → R v H2) : FnW Try.prog f_wheel_Wheel_drop ⟨[(Value.pointer (some ⟨w0b, 0, none⟩)), (Value.int .i64 key1)]⟩ H R := FnW.of_code hk_wheel_Wheel_drop (by kernel_rfl) (Eq.mp (wheel_Wheel_drop_heq w0b key1 H _) h)
def hplan_wheel_Wheel_spoke : Plan := ⟨[], [], [], []⟩
theorem hk_wheel_Wheel_spoke : Known Try.prog f_wheel_Wheel_spoke Try.f28 hplan_wheel_Wheel_spoke (bodyOf Try.f28) := ⟨Try.func28, by kernel_rfl, by kernel_rfl, by kernel_rfl, by kernel_rfl, by kernel_rfl⟩
def wheel_Wheel_spoke_p (w0b : Nat) (at1 : Int) (H : Heap) (R : Value → Heap → Prop) : Prop :=
 (64 : Int) ≠ 0 ∧
 InB (Int.tmod at1 64) 64 fun x10i =>
 R (Value.pointer (some ⟨w0b, 0 + x10i * 1, none⟩)) H
theorem wheel_Wheel_spoke_heq (w0b : Nat) (at1 : Int) (H : Heap) (R : Value → Heap → Prop) : wheel_Wheel_spoke_p w0b at1 H R = CodeW Try.prog hplan_wheel_Wheel_spoke (bodyOf Try.f28) (env0 [(Value.pointer (some ⟨w0b, 0, none⟩)), (Value.int .i64 at1)]) H (RetW Try.prog Try.f28.results.toList R) := by kernel_rfl
theorem wheel_Wheel_spoke_sh (w0b : Nat) (at1 : Int) {H : Heap} {R : Value → Heap → Prop} (h : wheel_Wheel_spoke_p w0b at1 H fun v H1 => ∀ H2, Shut H H1 H2 → R v H2) : FnW Try.prog f_wheel_Wheel_spoke ⟨[(Value.pointer (some ⟨w0b, 0, none⟩)), (Value.int .i64 at1)]⟩ H R := FnW.of_code hk_wheel_Wheel_spoke (by kernel_rfl) (Eq.mp (wheel_Wheel_spoke_heq w0b at1 H _) h)
def hplan_wheel_Wheel_is : Plan := ⟨[], [], [], []⟩
theorem hk_wheel_Wheel_is : Known Try.prog f_wheel_Wheel_is Try.f29 hplan_wheel_Wheel_is (bodyOf Try.f29) := ⟨Try.func29, by kernel_rfl, by kernel_rfl, by kernel_rfl, by kernel_rfl, by kernel_rfl⟩
def wheel_Wheel_is_p (w0b : Nat) (H : Heap) (R : Value → Heap → Prop) : Prop :=
 ∃ x9 : Bool, H.cell ⟨w0b, 66, none⟩ = some (Value.bool x9) ∧
 R (Value.bool x9) H
theorem wheel_Wheel_is_heq (w0b : Nat) (H : Heap) (R : Value → Heap → Prop) : wheel_Wheel_is_p w0b H R = CodeW Try.prog hplan_wheel_Wheel_is (bodyOf Try.f29) (env0 [(Value.pointer (some ⟨w0b, 0, none⟩))]) H (RetW Try.prog Try.f29.results.toList R) := by kernel_rfl
theorem wheel_Wheel_is_sh (w0b : Nat) {H : Heap} {R : Value → Heap → Prop} (h : wheel_Wheel_is_p w0b H fun v H1 => ∀ H2, Shut H H1 H2 → R v H2) : FnW Try.prog f_wheel_Wheel_is ⟨[(Value.pointer (some ⟨w0b, 0, none⟩))]⟩ H R := FnW.of_code hk_wheel_Wheel_is (by kernel_rfl) (Eq.mp (wheel_Wheel_is_heq w0b H _) h)
def hplan_ref04_Wheel_Stop : Plan := ⟨[], [], [], []⟩
theorem hk_ref04_Wheel_Stop : Known Try.prog f_ref04_Wheel_Stop Try.f30 hplan_ref04_Wheel_Stop (bodyOf Try.f30) := ⟨Try.func30, by kernel_rfl, by kernel_rfl, by kernel_rfl, by kernel_rfl, by kernel_rfl⟩
def ref04_Wheel_Stop_p (w0b : Nat) (key1 : Int) (H : Heap) (R : Value → Heap → Prop) : Prop :=
 FnW Try.prog f_ref04_Wheel_Due ⟨[(Value.pointer (some ⟨w0b, 0, none⟩)), (Value.int .i64 key1)]⟩ H fun x10v H1 =>
 ∃ x10r0 : Int, ∃ x10r1 : Bool, x10v = (Value.tuple ⟨[(Value.int .i64 x10r0), (Value.bool x10r1)]⟩) ∧
 IfB (!x10r1)
 (R (Value.int .i64 5) H1)
 (FnW Try.prog f_ref04_Wheel_without ⟨[(Value.pointer (some ⟨w0b, 0, none⟩)), (Value.int .i64 key1)]⟩ H1 fun x18v H2 =>
 ∃ (x18a : Option Addr) (x18n x18c : Nat), x18v = (Value.slice x18a x18n x18c) ∧
 StCell H2 ⟨w0b, 0, none⟩ (Value.slice x18a x18n x18c) fun H3 =>
 R (Value.int .i64 0) H3)
theorem ref04_Wheel_Stop_heq (w0b : Nat) (key1 : Int) (H : Heap) (R : Value → Heap → Prop) : ref04_Wheel_Stop_p w0b key1 H R = CodeW Try.prog hplan_ref04_Wheel_Stop (bodyOf Try.f30) (env0 [(Value.pointer (some ⟨w0b, 0, none⟩)), (Value.int .i64 key1)]) H (RetW Try.prog Try.f30.results.toList R) := by kernel_rfl
theorem ref04_Wheel_Stop_sh (w0b : Nat) (key1 : Int) {H : Heap} {R : Value → Heap → Prop} (h : ref04_Wheel_Stop_p w0b key1 H fun v H1 => ∀ H2, Shut H H1 H2 → R v H2) : FnW Try.prog f_ref04_Wheel_Stop ⟨[(Value.pointer (some ⟨w0b, 0, none⟩)), (Value.int .i64 key1)]⟩ H R := FnW.of_code hk_ref04_Wheel_Stop (by kernel_rfl) (Eq.mp (ref04_Wheel_Stop_heq w0b key1 H _) h)
def hplan_ref04_Wheel_Skip : Plan := ⟨[], [(6, [7, 8], [.slice, .int .i64], [0, 6])], [], []⟩
theorem hk_ref04_Wheel_Skip : Known Try.prog f_ref04_Wheel_Skip Try.f31 hplan_ref04_Wheel_Skip (bodyOf Try.f31) := ⟨Try.func31, by kernel_rfl, by kernel_rfl, by kernel_rfl, by kernel_rfl, by kernel_rfl⟩
def ref04_Wheel_Skip_j2 (w0b : Nat) (x25 : Int) (n1 : Int) (out7a : Option Addr) (out7n : Nat) (out7c : Nat) (next6 : ((Option Addr × Nat × Nat) × Int × Unit) → Heap → Prop) (H6 : Heap) (R : Value → Heap → Prop) : Prop :=
 StCell H6 ⟨w0b, 1, none⟩ (Value.int .i64 (IntKind.wrap .i64 (x25 + n1))) fun H7 =>
 R (Value.tuple ⟨[(Value.slice out7a out7n out7c), (Value.int .i64 0)]⟩) H7
def ref04_Wheel_Skip_j1 (w0b : Nat) (x25 : Int) (n1 : Int) (out7a : Option Addr) (out7n : Nat) (out7c : Nat) (k8 : Int) (x35r0 : Int) (next6 : ((Option Addr × Nat × Nat) × Int × Unit) → Heap → Prop) (x44 : Bool) (H5 : Heap) (R : Value → Heap → Prop) : Prop :=
 IfB x44
 (ref04_Wheel_Skip_j2 w0b x25 n1 out7a out7n out7c next6 H5 R)
 (FnW Try.prog f_ref04_Wheel_at ⟨[(Value.pointer (some ⟨w0b, 0, none⟩)), (Value.int .i64 x35r0)]⟩ H5 fun x48v H8 =>
 ∃ (x48a : Option Addr) (x48n x48c : Nat), x48v = (Value.slice x48a x48n x48c) ∧
 AppW Try.prog #[T_sl_int, T_sl_int] T_sl_int [(Value.slice out7a out7n out7c), (Value.slice x48a x48n x48c)] H8 fun x49v H9 =>
 ∃ (x49a : Option Addr) (x49n x49c : Nat), x49v = (Value.slice x49a x49n x49c) ∧
 next6 ((x49a, x49n, x49c), ((IntKind.wrap .i64 (k8 + 1)), ())) H9)
def ref04_Wheel_Skip_l6 (w0b : Nat) (x25 : Int) (n1 : Int) (out7a : Option Addr) (out7n : Nat) (out7c : Nat) (k8 : Int) (H3 : Heap) (next6 : ((Option Addr × Nat × Nat) × Int × Unit) → Heap → Prop) (R : Value → Heap → Prop) : Prop :=
 IfB (decide ((k8 : Int) ≤ 256))
 (FnW Try.prog f_ref04_Wheel_Next ⟨[(Value.pointer (some ⟨w0b, 0, none⟩))]⟩ H3 fun x35v H4 =>
 ∃ x35r0 : Int, ∃ x35r1 : Bool, x35v = (Value.tuple ⟨[(Value.int .i64 x35r0), (Value.bool x35r1)]⟩) ∧
 IfB (!x35r1)
 (ref04_Wheel_Skip_j1 w0b x25 n1 out7a out7n out7c k8 x35r0 next6 true H4 R)
 (ref04_Wheel_Skip_j1 w0b x25 n1 out7a out7n out7c k8 x35r0 next6 (decide ((x35r0 : Int) > (IntKind.wrap .i64 (x25 + n1)))) H4 R))
 (ref04_Wheel_Skip_j2 w0b x25 n1 out7a out7n out7c next6 H3 R)
def ref04_Wheel_Skip_j0 (w0b : Nat) (n1 : Int) (x21 : Bool) (H1 : Heap) (R : Value → Heap → Prop) : Prop :=
 IfB x21
 (R (Value.tuple ⟨[(Value.slice none 0 0), (Value.int .i64 2)]⟩) H1)
 (∃ x25 : Int, H1.cell ⟨w0b, 1, none⟩ = some (Value.int .i64 x25) ∧
 NewW H1 (Obj.cells ⟨[]⟩ T_int) fun x28b H2 =>
 LoopI ((Option Addr × Nat × Nat) × Int × Unit) (((some ⟨x28b, 0, none⟩), 0, 0), (0, ())) H2 fun x H next => ∀ _g : Env, ref04_Wheel_Skip_l6 w0b x25 n1 x.1.1 x.1.2.1 x.1.2.2 x.2.1 H next R)
def ref04_Wheel_Skip_p (w0b : Nat) (n1 : Int) (H : Heap) (R : Value → Heap → Prop) : Prop :=
 IfB (decide ((n1 : Int) < 1))
 (ref04_Wheel_Skip_j0 w0b n1 true H R)
 (∃ x18 : Int, H.cell ⟨w0b, 1, none⟩ = some (Value.int .i64 x18) ∧
 ref04_Wheel_Skip_j0 w0b n1 (decide ((n1 : Int) > (IntKind.wrap .i64 (1099511627776 - x18)))) H R)
theorem ref04_Wheel_Skip_heq (w0b : Nat) (n1 : Int) (H : Heap) (R : Value → Heap → Prop) : ref04_Wheel_Skip_p w0b n1 H R = CodeW Try.prog hplan_ref04_Wheel_Skip (bodyOf Try.f31) (env0 [(Value.pointer (some ⟨w0b, 0, none⟩)), (Value.int .i64 n1)]) H (RetW Try.prog Try.f31.results.toList R) := by kernel_rfl
theorem ref04_Wheel_Skip_sh (w0b : Nat) (n1 : Int) {H : Heap} {R : Value → Heap → Prop} (h : ref04_Wheel_Skip_p w0b n1 H fun v H1 => ∀ H2, Shut H H1 H2 → R v H2) : FnW Try.prog f_ref04_Wheel_Skip ⟨[(Value.pointer (some ⟨w0b, 0, none⟩)), (Value.int .i64 n1)]⟩ H R := FnW.of_code hk_ref04_Wheel_Skip (by kernel_rfl) (Eq.mp (ref04_Wheel_Skip_heq w0b n1 H _) h)
def hplan_wheel_Wheel_take : Plan := ⟨[], [(2000000, [3, 5], [.slice, .int .i64], [0, 4])], [], []⟩
theorem hk_wheel_Wheel_take : Known Try.prog f_wheel_Wheel_take Try.f32 hplan_wheel_Wheel_take (bodyOf Try.f32) := ⟨Try.func32, by kernel_rfl, by kernel_rfl, by kernel_rfl, by kernel_rfl, by kernel_rfl⟩
def wheel_Wheel_take_l2000000 (w0b : Nat) (x12 : Option Addr) (l3a : Option Addr) (l3n : Nat) (l3c : Nat) (k5 : Int) (H2 : Heap) (next2000000 : ((Option Addr × Nat × Nat) × Int × Unit) → Heap → Prop) (R : Value → Heap → Prop) : Prop :=
 NilP x12 fun x15p =>
 ∃ (x16a : Option Addr) (x16n x16c : Nat), H2.cell x15p = some (Value.slice x16a x16n x16c) ∧
 IfB ((k5 : Int) == (x16n : Int))
 (FnW Try.prog f_slices_Sortasl_int_int ⟨[(Value.slice l3a l3n l3c)]⟩ H2 fun x20v H3 =>
 x20v = (Value.tuple ⟨[]⟩) ∧
 R (Value.slice l3a l3n l3c) H3)
 (NilP x12 fun x23p =>
 ∃ (x24a : Option Addr) (x24n x24c : Nat), H2.cell x23p = some (Value.slice x24a x24n x24c) ∧
 NilP x24a fun x26q =>
 InB k5 x24n fun x26i =>
 elemAt x26q x26i 2 fun x26p =>
 ∃ x27c0 : Int, H2.cell x26p = some (Value.int .i64 x27c0) ∧ ∃ x27c1 : Int, H2.cell ⟨x26p.block, x26p.off + 1, none⟩ = some (Value.int .i64 x27c1) ∧ NewW H2 (Obj.cells ⟨[(Value.int .i64 0), (Value.int .i64 0)]⟩ T_wheel_timer) fun t6b H4 =>
 StCell H4 ⟨t6b, 0, none⟩ (Value.int .i64 x27c0) fun H5 =>
 StCell H5 ⟨t6b, 1, none⟩ (Value.int .i64 x27c1) fun H6 =>
 ∃ x29 : Int, H6.cell ⟨t6b, 1, none⟩ = some (Value.int .i64 x29) ∧
 ∃ x33 : Int, H6.cell ⟨w0b, 65, none⟩ = some (Value.int .i64 x33) ∧
 IfB (decide ((x29 : Int) > x33))
 (next2000000 ((l3a, l3n, l3c), ((IntKind.wrap .i64 (k5 + 1)), ())) H6)
 (NilP x12 fun x39p =>
 ∃ (x40a : Option Addr) (x40n x40c : Nat), H6.cell x39p = some (Value.slice x40a x40n x40c) ∧
 FnW Try.prog f_slices_Deleteasl_wheel_timer_wheel_timer ⟨[(Value.slice x40a x40n x40c), (Value.int .i64 k5), (Value.int .i64 (IntKind.wrap .i64 (k5 + 1)))]⟩ H6 fun x44v H7 =>
 ∃ (x44a : Option Addr) (x44n x44c : Nat), x44v = (Value.slice x44a x44n x44c) ∧
 NilP x12 fun x45p =>
 StCell H7 x45p (Value.slice x44a x44n x44c) fun H8 =>
 ∃ x49 : Value, H8.cell ⟨w0b, 64, none⟩ = some x49 ∧
 ∃ x51 : Int, H8.cell ⟨t6b, 0, none⟩ = some (Value.int .i64 x51) ∧
 SemW Try.prog (Builtin.delete_ #[T_mapaint_int, T_int] T_ ⟨[x49, (Value.int .i64 x51)]⟩) H8 fun x0v H9 =>
 ∃ x54 : Int, H9.cell ⟨t6b, 0, none⟩ = some (Value.int .i64 x54) ∧
 NewW H9 (Obj.cells ⟨[(Value.int .i64 x54)]⟩ T_int) fun x55b H10 =>
 AppW Try.prog #[T_sl_int, T_sl_int] T_sl_int [(Value.slice l3a l3n l3c), (Value.slice (some ⟨x55b, 0, none⟩) 1 1)] H10 fun x56v H11 =>
 ∃ (x56a : Option Addr) (x56n x56c : Nat), x56v = (Value.slice x56a x56n x56c) ∧
 next2000000 ((x56a, x56n, x56c), (k5, ())) H11))
def wheel_Wheel_take_p (w0b : Nat) (H : Heap) (R : Value → Heap → Prop) : Prop :=
 ∃ x11 : Int, H.cell ⟨w0b, 65, none⟩ = some (Value.int .i64 x11) ∧
 FnW Try.prog f_wheel_Wheel_spoke ⟨[(Value.pointer (some ⟨w0b, 0, none⟩)), (Value.int .i64 x11)]⟩ H fun x12v H1 =>
 ∃ x12 : Option Addr, x12v = (Value.pointer x12) ∧
 LoopI ((Option Addr × Nat × Nat) × Int × Unit) ((none, 0, 0), (0, ())) H1 fun x H next => ∀ _g : Env, wheel_Wheel_take_l2000000 w0b x12 x.1.1 x.1.2.1 x.1.2.2 x.2.1 H next R
theorem wheel_Wheel_take_heq (w0b : Nat) (H : Heap) (R : Value → Heap → Prop) : wheel_Wheel_take_p w0b H R = CodeW Try.prog hplan_wheel_Wheel_take (bodyOf Try.f32) (env0 [(Value.pointer (some ⟨w0b, 0, none⟩))]) H (RetW Try.prog Try.f32.results.toList R) := by kernel_rfl
theorem wheel_Wheel_take_sh (w0b : Nat) {H : Heap} {R : Value → Heap → Prop} (h : wheel_Wheel_take_p w0b H fun v H1 => ∀ H2, Shut H H1 H2 → R v H2) : FnW Try.prog f_wheel_Wheel_take ⟨[(Value.pointer (some ⟨w0b, 0, none⟩))]⟩ H R := FnW.of_code hk_wheel_Wheel_take (by kernel_rfl) (Eq.mp (wheel_Wheel_take_heq w0b H _) h)
def hplan_ref04_Wheel_without : Plan := ⟨[], [(3, [5, 6], [.slice, .int .i64], [0, 1])], [], []⟩
theorem hk_ref04_Wheel_without : Known Try.prog f_ref04_Wheel_without Try.f33 hplan_ref04_Wheel_without (bodyOf Try.f33) := ⟨Try.func33, by kernel_rfl, by kernel_rfl, by kernel_rfl, by kernel_rfl, by kernel_rfl⟩
def ref04_Wheel_without_j0 (w0b : Nat) (key1 : Int) (i6 : Int) (next3 : ((Option Addr × Nat × Nat) × Int × Unit) → Heap → Prop) (out5a_1 : Option Addr) (out5n_1 : Nat) (out5c_1 : Nat) (H5 : Heap) (R : Value → Heap → Prop) : Prop :=
 next3 ((out5a_1, out5n_1, out5c_1), ((IntKind.wrap .i64 (i6 + 1)), ())) H5
def ref04_Wheel_without_l3 (w0b : Nat) (key1 : Int) (out5a : Option Addr) (out5n : Nat) (out5c : Nat) (i6 : Int) (H2 : Heap) (next3 : ((Option Addr × Nat × Nat) × Int × Unit) → Heap → Prop) (R : Value → Heap → Prop) : Prop :=
 ∃ (x12a : Option Addr) (x12n x12c : Nat), H2.cell ⟨w0b, 0, none⟩ = some (Value.slice x12a x12n x12c) ∧
 IfB (decide ((i6 : Int) < (x12n : Int)))
 (∃ (x20a : Option Addr) (x20n x20c : Nat), H2.cell ⟨w0b, 0, none⟩ = some (Value.slice x20a x20n x20c) ∧
 NilP x20a fun x22q =>
 InB i6 x20n fun x22i =>
 elemAt x22q x22i 2 fun x22p =>
 ∃ x24 : Int, H2.cell x22p = some (Value.int .i64 x24) ∧
 IfB ((x24 : Int) != key1)
 (∃ (x31a : Option Addr) (x31n x31c : Nat), H2.cell ⟨w0b, 0, none⟩ = some (Value.slice x31a x31n x31c) ∧
 NilP x31a fun x33q =>
 InB i6 x31n fun x33i =>
 elemAt x33q x33i 2 fun x33p =>
 ∃ x34c0 : Int, H2.cell x33p = some (Value.int .i64 x34c0) ∧ ∃ x34c1 : Int, H2.cell ⟨x33p.block, x33p.off + 1, none⟩ = some (Value.int .i64 x34c1) ∧ NewW H2 (Obj.cells ⟨[(Value.int .i64 x34c0), (Value.int .i64 x34c1)]⟩ T_ref04_Timer) fun x35b H3 =>
 AppW Try.prog #[T_sl_pointsmanref04_Timer, T_sl_pointsmanref04_Timer] T_sl_pointsmanref04_Timer [(Value.slice out5a out5n out5c), (Value.slice (some ⟨x35b, 0, none⟩) 1 1)] H3 fun x36v H4 =>
 ∃ (x36a : Option Addr) (x36n x36c : Nat), x36v = (Value.slice x36a x36n x36c) ∧
 ref04_Wheel_without_j0 w0b key1 i6 next3 x36a x36n x36c H4 R)
 (ref04_Wheel_without_j0 w0b key1 i6 next3 out5a out5n out5c H2 R))
 (R (Value.slice out5a out5n out5c) H2)
def ref04_Wheel_without_p (w0b : Nat) (key1 : Int) (H : Heap) (R : Value → Heap → Prop) : Prop :=
 NewW H (Obj.cells ⟨[]⟩ T_ref04_Timer) fun x7b H1 =>
 LoopI ((Option Addr × Nat × Nat) × Int × Unit) (((some ⟨x7b, 0, none⟩), 0, 0), (0, ())) H1 fun x H next => ∀ _g : Env, ref04_Wheel_without_l3 w0b key1 x.1.1 x.1.2.1 x.1.2.2 x.2.1 H next R
theorem ref04_Wheel_without_heq (w0b : Nat) (key1 : Int) (H : Heap) (R : Value → Heap → Prop) : ref04_Wheel_without_p w0b key1 H R = CodeW Try.prog hplan_ref04_Wheel_without (bodyOf Try.f33) (env0 [(Value.pointer (some ⟨w0b, 0, none⟩)), (Value.int .i64 key1)]) H (RetW Try.prog Try.f33.results.toList R) := by kernel_rfl
theorem ref04_Wheel_without_sh (w0b : Nat) (key1 : Int) {H : Heap} {R : Value → Heap → Prop} (h : ref04_Wheel_without_p w0b key1 H fun v H1 => ∀ H2, Shut H H1 H2 → R v H2) : FnW Try.prog f_ref04_Wheel_without ⟨[(Value.pointer (some ⟨w0b, 0, none⟩)), (Value.int .i64 key1)]⟩ H R := FnW.of_code hk_ref04_Wheel_without (by kernel_rfl) (Eq.mp (ref04_Wheel_without_heq w0b key1 H _) h)
def hplan_ref04_Wheel_Next : Plan := ⟨[], [(3, [4, 5], [.int .i64, .int .i64], [0])], [], []⟩
theorem hk_ref04_Wheel_Next : Known Try.prog f_ref04_Wheel_Next Try.f34 hplan_ref04_Wheel_Next (bodyOf Try.f34) := ⟨Try.func34, by kernel_rfl, by kernel_rfl, by kernel_rfl, by kernel_rfl, by kernel_rfl⟩
def ref04_Wheel_Next_j1 (w0b : Nat) (i5 : Int) (next3 : (Int × Int × Unit) → Heap → Prop) (best4_1 : Int) (H3 : Heap) (R : Value → Heap → Prop) : Prop :=
 next3 (best4_1, ((IntKind.wrap .i64 (i5 + 1)), ())) H3
def ref04_Wheel_Next_j0 (w0b : Nat) (best4 : Int) (i5 : Int) (next3 : (Int × Int × Unit) → Heap → Prop) (x28 : Bool) (H2 : Heap) (R : Value → Heap → Prop) : Prop :=
 IfB x28
 (∃ (x32a : Option Addr) (x32n x32c : Nat), H2.cell ⟨w0b, 0, none⟩ = some (Value.slice x32a x32n x32c) ∧
 NilP x32a fun x34q =>
 InB i5 x32n fun x34i =>
 elemAt x34q x34i 2 fun x34p =>
 ∃ x36 : Int, H2.cell ⟨x34p.block, x34p.off + 1, none⟩ = some (Value.int .i64 x36) ∧
 ref04_Wheel_Next_j1 w0b i5 next3 x36 H2 R)
 (ref04_Wheel_Next_j1 w0b i5 next3 best4 H2 R)
def ref04_Wheel_Next_l3 (w0b : Nat) (best4 : Int) (i5 : Int) (H1 : Heap) (next3 : (Int × Int × Unit) → Heap → Prop) (R : Value → Heap → Prop) : Prop :=
 ∃ (x10a : Option Addr) (x10n x10c : Nat), H1.cell ⟨w0b, 0, none⟩ = some (Value.slice x10a x10n x10c) ∧
 IfB (decide ((i5 : Int) < (x10n : Int)))
 (IfB (decide ((best4 : Int) < 0))
 (ref04_Wheel_Next_j0 w0b best4 i5 next3 true H1 R)
 (∃ (x21a : Option Addr) (x21n x21c : Nat), H1.cell ⟨w0b, 0, none⟩ = some (Value.slice x21a x21n x21c) ∧
 NilP x21a fun x23q =>
 InB i5 x21n fun x23i =>
 elemAt x23q x23i 2 fun x23p =>
 ∃ x25 : Int, H1.cell ⟨x23p.block, x23p.off + 1, none⟩ = some (Value.int .i64 x25) ∧
 ref04_Wheel_Next_j0 w0b best4 i5 next3 (decide ((x25 : Int) < best4)) H1 R))
 (R (Value.tuple ⟨[(Value.int .i64 (max 0 best4)), (Value.bool (decide ((best4 : Int) ≥ 0)))]⟩) H1)
def ref04_Wheel_Next_p (w0b : Nat) (H : Heap) (R : Value → Heap → Prop) : Prop :=
 LoopI (Int × Int × Unit) ((-1), (0, ())) H fun x H next => ∀ _g : Env, ref04_Wheel_Next_l3 w0b x.1 x.2.1 H next R
theorem ref04_Wheel_Next_heq (w0b : Nat) (H : Heap) (R : Value → Heap → Prop) : ref04_Wheel_Next_p w0b H R = CodeW Try.prog hplan_ref04_Wheel_Next (bodyOf Try.f34) (env0 [(Value.pointer (some ⟨w0b, 0, none⟩))]) H (RetW Try.prog Try.f34.results.toList R) := by kernel_rfl
theorem ref04_Wheel_Next_sh (w0b : Nat) {H : Heap} {R : Value → Heap → Prop} (h : ref04_Wheel_Next_p w0b H fun v H1 => ∀ H2, Shut H H1 H2 → R v H2) : FnW Try.prog f_ref04_Wheel_Next ⟨[(Value.pointer (some ⟨w0b, 0, none⟩))]⟩ H R := FnW.of_code hk_ref04_Wheel_Next (by kernel_rfl) (Eq.mp (ref04_Wheel_Next_heq w0b H _) h)
def hplan_slices_DeleteFuncasl_wheel_timer_wheel_timer : Plan := ⟨[], [(5, [5, 6], [.int .i64, .int .i64], [0, 1])], [], []⟩
theorem hk_slices_DeleteFuncasl_wheel_timer_wheel_timer : Known Try.prog f_slices_DeleteFuncasl_wheel_timer_wheel_timer Try.f35 hplan_slices_DeleteFuncasl_wheel_timer_wheel_timer (bodyOf Try.f35) := ⟨Try.func35, by kernel_rfl, by kernel_rfl, by kernel_rfl, by kernel_rfl, by kernel_rfl⟩
def slices_DeleteFuncasl_wheel_timer_wheel_timer_j0 (s0a : Option Addr) (s0n : Nat) (s0c : Nat) (f : FuncId) (w0 : Value) (j6 : Int) (next5 : (Int × Int × Unit) → Heap → Prop) (i5_1 : Int) (H9 : Heap) (R : Value → Heap → Prop) : Prop :=
 next5 (i5_1, ((IntKind.wrap .i64 (j6 + 1)), ())) H9
def slices_DeleteFuncasl_wheel_timer_wheel_timer_l5 (s0a : Option Addr) (s0n : Nat) (s0c : Nat) (f : FuncId) (w0 : Value) (i5 : Int) (j6 : Int) (H2 : Heap) (next5 : (Int × Int × Unit) → Heap → Prop) (R : Value → Heap → Prop) : Prop :=
 IfB (decide ((j6 : Int) < (s0n : Int)))
 (NilP s0a fun x24q =>
 InB j6 s0n fun x24i =>
 elemAt x24q x24i 2 fun x24p =>
 ∃ x25c0 : Int, H2.cell x24p = some (Value.int .i64 x25c0) ∧ ∃ x25c1 : Int, H2.cell ⟨x24p.block, x24p.off + 1, none⟩ = some (Value.int .i64 x25c1) ∧ NewW H2 (Obj.cells ⟨[(Value.int .i64 0), (Value.int .i64 0)]⟩ T_wheel_timer) fun v7b H3 =>
 StCell H3 ⟨v7b, 0, none⟩ (Value.int .i64 x25c0) fun H4 =>
 StCell H4 ⟨v7b, 1, none⟩ (Value.int .i64 x25c1) fun H5 =>
 ∃ x27c0 : Int, H5.cell ⟨v7b, 0, none⟩ = some (Value.int .i64 x27c0) ∧ ∃ x27c1 : Int, H5.cell ⟨v7b, 1, none⟩ = some (Value.int .i64 x27c1) ∧ FnW Try.prog f ⟨[(Value.agg ⟨[(Value.int .i64 x27c0), (Value.int .i64 x27c1)]⟩), w0]⟩ H5 fun x28v H6 =>
 ∃ x28 : Bool, x28v = (Value.bool x28) ∧
 IfB (!x28)
 (∃ x32c0 : Int, H6.cell ⟨v7b, 0, none⟩ = some (Value.int .i64 x32c0) ∧ ∃ x32c1 : Int, H6.cell ⟨v7b, 1, none⟩ = some (Value.int .i64 x32c1) ∧ NilP s0a fun x33q =>
 InB i5 s0n fun x33i =>
 elemAt x33q x33i 2 fun x33p =>
 StCell H6 x33p (Value.int .i64 x32c0) fun H7 =>
 StCell H7 ⟨x33p.block, x33p.off + 1, none⟩ (Value.int .i64 x32c1) fun H8 =>
 slices_DeleteFuncasl_wheel_timer_wheel_timer_j0 s0a s0n s0c f w0 j6 next5 (IntKind.wrap .i64 (i5 + 1)) H8 R)
 (slices_DeleteFuncasl_wheel_timer_wheel_timer_j0 s0a s0n s0c f w0 j6 next5 i5 H6 R))
 (InC i5 s0n fun x38l =>
 SemW Try.prog (Builtin.clear_ #[T_sl_wheel_timer] T_ ⟨[(Value.slice (if s0c = x38l then s0a else Option.map (fun a => Addr.add a (x38l * 2)) s0a) (s0n - x38l) (s0c - x38l))]⟩) H2 fun x0v H10 =>
 InC i5 s0c fun x41h =>
 R (Value.slice s0a x41h s0c) H10)
def slices_DeleteFuncasl_wheel_timer_wheel_timer_p (s0a : Option Addr) (s0n : Nat) (s0c : Nat) (f : FuncId) (w0 : Value) (H : Heap) (R : Value → Heap → Prop) : Prop :=
 FnW Try.prog f_slices_IndexFuncasl_wheel_timer_wheel_timer ⟨[(Value.slice s0a s0n s0c), (Value.func (.func f) #[] #[w0])]⟩ H fun x10v H1 =>
 ∃ x10 : Int, x10v = (Value.int .i64 x10) ∧
 IfB ((x10 : Int) == (-1))
 (R (Value.slice s0a s0n s0c) H1)
 (LoopI (Int × Int × Unit) (x10, ((IntKind.wrap .i64 (x10 + 1)), ())) H1 fun x H next => ∀ _g : Env, slices_DeleteFuncasl_wheel_timer_wheel_timer_l5 s0a s0n s0c f w0 x.1 x.2.1 H next R)
theorem slices_DeleteFuncasl_wheel_timer_wheel_timer_heq (s0a : Option Addr) (s0n : Nat) (s0c : Nat) (f : FuncId) (w0 : Value) (H : Heap) (R : Value → Heap → Prop) : slices_DeleteFuncasl_wheel_timer_wheel_timer_p s0a s0n s0c f w0 H R = CodeW Try.prog hplan_slices_DeleteFuncasl_wheel_timer_wheel_timer (bodyOf Try.f35) (env0 [(Value.slice s0a s0n s0c), (Value.func (.func f) #[] #[w0])]) H (RetW Try.prog Try.f35.results.toList R) := by kernel_rfl
theorem slices_DeleteFuncasl_wheel_timer_wheel_timer_sh (s0a : Option Addr) (s0n : Nat) (s0c : Nat) (f : FuncId) (w0 : Value) {H : Heap} {R : Value → Heap → Prop} (h : slices_DeleteFuncasl_wheel_timer_wheel_timer_p s0a s0n s0c f w0 H fun v H1 => ∀ H2, Shut H H1 H2 → R v H2) : FnW Try.prog f_slices_DeleteFuncasl_wheel_timer_wheel_timer ⟨[(Value.slice s0a s0n s0c), (Value.func (.func f) #[] #[w0])]⟩ H R := FnW.of_code hk_slices_DeleteFuncasl_wheel_timer_wheel_timer (by kernel_rfl) (Eq.mp (slices_DeleteFuncasl_wheel_timer_wheel_timer_heq s0a s0n s0c f w0 H _) h)
def hplan_wheel_Wheel_drop_1 : Plan := ⟨[], [], [], []⟩
theorem hk_wheel_Wheel_drop_1 : Known Try.prog f_wheel_Wheel_drop_1 Try.f36 hplan_wheel_Wheel_drop_1 (bodyOf Try.f36) := ⟨Try.func36, by kernel_rfl, by kernel_rfl, by kernel_rfl, by kernel_rfl, by kernel_rfl⟩
def wheel_Wheel_drop_1_p (t0c0 : Int) (t0c1 : Int) (b1 : Nat) (H : Heap) (R : Value → Heap → Prop) : Prop :=
 NewW H (Obj.cells ⟨[(Value.int .i64 t0c0), (Value.int .i64 t0c1)]⟩ T_wheel_timer) fun t2b H1 =>
 ∃ x5 : Int, H1.cell ⟨t2b, 0, none⟩ = some (Value.int .i64 x5) ∧
 ∃ x6 : Int, H1.cell ⟨b1, 0, none⟩ = some (Value.int .i64 x6) ∧
 R (Value.bool ((x5 : Int) == x6)) H1
theorem wheel_Wheel_drop_1_heq (t0c0 : Int) (t0c1 : Int) (b1 : Nat) (H : Heap) (R : Value → Heap → Prop) : wheel_Wheel_drop_1_p t0c0 t0c1 b1 H R = CodeW Try.prog hplan_wheel_Wheel_drop_1 (bodyOf Try.f36) (env0 [(Value.agg ⟨[(Value.int .i64 t0c0), (Value.int .i64 t0c1)]⟩), (Value.pointer (some ⟨b1, 0, none⟩))]) H (RetW Try.prog Try.f36.results.toList R) := by kernel_rfl
theorem wheel_Wheel_drop_1_sh (t0c0 : Int) (t0c1 : Int) (b1 : Nat) {H : Heap} {R : Value → Heap → Prop} (h : wheel_Wheel_drop_1_p t0c0 t0c1 b1 H fun v H1 => ∀ H2, Shut H H1 H2 → R v H2) : FnW Try.prog f_wheel_Wheel_drop_1 ⟨[(Value.agg ⟨[(Value.int .i64 t0c0), (Value.int .i64 t0c1)]⟩), (Value.pointer (some ⟨b1, 0, none⟩))]⟩ H R := FnW.of_code hk_wheel_Wheel_drop_1 (by kernel_rfl) (Eq.mp (wheel_Wheel_drop_1_heq t0c0 t0c1 b1 H _) h)
def hplan_ref04_Wheel_at : Plan := ⟨[], [(3, [5, 6, 7], [.slice, .slice, .int .i64], [0, 1])], [], []⟩
theorem hk_ref04_Wheel_at : Known Try.prog f_ref04_Wheel_at Try.f37 hplan_ref04_Wheel_at (bodyOf Try.f37) := ⟨Try.func37, by kernel_rfl, by kernel_rfl, by kernel_rfl, by kernel_rfl, by kernel_rfl⟩
def ref04_Wheel_at_j0 (w0b : Nat) (t1 : Int) (i7 : Int) (next3 : ((Option Addr × Nat × Nat) × (Option Addr × Nat × Nat) × Int × Unit) → Heap → Prop) (keys5a_1 : Option Addr) (keys5n_1 : Nat) (keys5c_1 : Nat) (left6a_1 : Option Addr) (left6n_1 : Nat) (left6c_1 : Nat) (H6 : Heap) (R : Value → Heap → Prop) : Prop :=
 next3 ((keys5a_1, keys5n_1, keys5c_1), ((left6a_1, left6n_1, left6c_1), ((IntKind.wrap .i64 (i7 + 1)), ()))) H6
def ref04_Wheel_at_l3 (w0b : Nat) (t1 : Int) (keys5a : Option Addr) (keys5n : Nat) (keys5c : Nat) (left6a : Option Addr) (left6n : Nat) (left6c : Nat) (i7 : Int) (H3 : Heap) (next3 : ((Option Addr × Nat × Nat) × (Option Addr × Nat × Nat) × Int × Unit) → Heap → Prop) (R : Value → Heap → Prop) : Prop :=
 ∃ (x14a : Option Addr) (x14n x14c : Nat), H3.cell ⟨w0b, 0, none⟩ = some (Value.slice x14a x14n x14c) ∧
 IfB (decide ((i7 : Int) < (x14n : Int)))
 (∃ (x22a : Option Addr) (x22n x22c : Nat), H3.cell ⟨w0b, 0, none⟩ = some (Value.slice x22a x22n x22c) ∧
 NilP x22a fun x24q =>
 InB i7 x22n fun x24i =>
 elemAt x24q x24i 2 fun x24p =>
 ∃ x26 : Int, H3.cell ⟨x24p.block, x24p.off + 1, none⟩ = some (Value.int .i64 x26) ∧
 IfB ((x26 : Int) == t1)
 (∃ (x33a : Option Addr) (x33n x33c : Nat), H3.cell ⟨w0b, 0, none⟩ = some (Value.slice x33a x33n x33c) ∧
 NilP x33a fun x35q =>
 InB i7 x33n fun x35i =>
 elemAt x35q x35i 2 fun x35p =>
 ∃ x37 : Int, H3.cell x35p = some (Value.int .i64 x37) ∧
 NewW H3 (Obj.cells ⟨[(Value.int .i64 x37)]⟩ T_int) fun x38b H4 =>
 AppW Try.prog #[T_sl_int, T_sl_int] T_sl_int [(Value.slice keys5a keys5n keys5c), (Value.slice (some ⟨x38b, 0, none⟩) 1 1)] H4 fun x39v H5 =>
 ∃ (x39a : Option Addr) (x39n x39c : Nat), x39v = (Value.slice x39a x39n x39c) ∧
 ref04_Wheel_at_j0 w0b t1 i7 next3 x39a x39n x39c left6a left6n left6c H5 R)
 (∃ (x44a : Option Addr) (x44n x44c : Nat), H3.cell ⟨w0b, 0, none⟩ = some (Value.slice x44a x44n x44c) ∧
 NilP x44a fun x46q =>
 InB i7 x44n fun x46i =>
 elemAt x46q x46i 2 fun x46p =>
 ∃ x47c0 : Int, H3.cell x46p = some (Value.int .i64 x47c0) ∧ ∃ x47c1 : Int, H3.cell ⟨x46p.block, x46p.off + 1, none⟩ = some (Value.int .i64 x47c1) ∧ NewW H3 (Obj.cells ⟨[(Value.int .i64 x47c0), (Value.int .i64 x47c1)]⟩ T_ref04_Timer) fun x48b H7 =>
 AppW Try.prog #[T_sl_pointsmanref04_Timer, T_sl_pointsmanref04_Timer] T_sl_pointsmanref04_Timer [(Value.slice left6a left6n left6c), (Value.slice (some ⟨x48b, 0, none⟩) 1 1)] H7 fun x49v H8 =>
 ∃ (x49a : Option Addr) (x49n x49c : Nat), x49v = (Value.slice x49a x49n x49c) ∧
 ref04_Wheel_at_j0 w0b t1 i7 next3 keys5a keys5n keys5c x49a x49n x49c H8 R))
 (StCell H3 ⟨w0b, 0, none⟩ (Value.slice left6a left6n left6c) fun H9 =>
 R (Value.slice keys5a keys5n keys5c) H9)
def ref04_Wheel_at_p (w0b : Nat) (t1 : Int) (H : Heap) (R : Value → Heap → Prop) : Prop :=
 NewW H (Obj.cells ⟨[]⟩ T_int) fun x8b H1 =>
 NewW H1 (Obj.cells ⟨[]⟩ T_ref04_Timer) fun x9b H2 =>
 LoopI ((Option Addr × Nat × Nat) × (Option Addr × Nat × Nat) × Int × Unit) (((some ⟨x8b, 0, none⟩), 0, 0), (((some ⟨x9b, 0, none⟩), 0, 0), (0, ()))) H2 fun x H next => ∀ _g : Env, ref04_Wheel_at_l3 w0b t1 x.1.1 x.1.2.1 x.1.2.2 x.2.1.1 x.2.1.2.1 x.2.1.2.2 x.2.2.1 H next R
theorem ref04_Wheel_at_heq (w0b : Nat) (t1 : Int) (H : Heap) (R : Value → Heap → Prop) : ref04_Wheel_at_p w0b t1 H R = CodeW Try.prog hplan_ref04_Wheel_at (bodyOf Try.f37) (env0 [(Value.pointer (some ⟨w0b, 0, none⟩)), (Value.int .i64 t1)]) H (RetW Try.prog Try.f37.results.toList R) := by kernel_rfl
theorem ref04_Wheel_at_sh (w0b : Nat) (t1 : Int) {H : Heap} {R : Value → Heap → Prop} (h : ref04_Wheel_at_p w0b t1 H fun v H1 => ∀ H2, Shut H H1 H2 → R v H2) : FnW Try.prog f_ref04_Wheel_at ⟨[(Value.pointer (some ⟨w0b, 0, none⟩)), (Value.int .i64 t1)]⟩ H R := FnW.of_code hk_ref04_Wheel_at (by kernel_rfl) (Eq.mp (ref04_Wheel_at_heq w0b t1 H _) h)
def hplan_slices_Deleteasl_wheel_timer_wheel_timer : Plan := ⟨[], [], [], []⟩
theorem hk_slices_Deleteasl_wheel_timer_wheel_timer : Known Try.prog f_slices_Deleteasl_wheel_timer_wheel_timer Try.f39 hplan_slices_Deleteasl_wheel_timer_wheel_timer (bodyOf Try.f39) := ⟨Try.func39, by kernel_rfl, by kernel_rfl, by kernel_rfl, by kernel_rfl, by kernel_rfl⟩
def slices_Deleteasl_wheel_timer_wheel_timer_p (s0a : Option Addr) (s0n : Nat) (s0c : Nat) (i1 : Int) (j2 : Int) (H : Heap) (R : Value → Heap → Prop) : Prop :=
 InC (s0n : Int) s0c fun x13m =>
 InC j2 x13m fun x13h =>
 InC i1 x13h fun x13l =>
 IfB ((i1 : Int) == j2)
 (R (Value.slice s0a s0n s0c) H)
 (InC i1 s0c fun x22h =>
 InC j2 s0n fun x25l =>
 AppW Try.prog #[T_sl_wheel_timer, T_sl_wheel_timer] T_sl_wheel_timer [(Value.slice s0a x22h s0c), (Value.slice (if s0c = x25l then s0a else Option.map (fun a => Addr.add a (x25l * 2)) s0a) (s0n - x25l) (s0c - x25l))] H fun x26v H1 =>
 ∃ (x26a : Option Addr) (x26n x26c : Nat), x26v = (Value.slice x26a x26n x26c) ∧
 InC (s0n : Int) x26c fun x31h =>
 InC (x26n : Int) x31h fun x31l =>
 SemW Try.prog (Builtin.clear_ #[T_sl_wheel_timer] T_ ⟨[(Value.slice (if x26c = x31l then x26a else Option.map (fun a => Addr.add a (x31l * 2)) x26a) (x31h - x31l) (x26c - x31l))]⟩) H1 fun x0v H2 =>
 R (Value.slice x26a x26n x26c) H2)
theorem slices_Deleteasl_wheel_timer_wheel_timer_heq (s0a : Option Addr) (s0n : Nat) (s0c : Nat) (i1 : Int) (j2 : Int) (H : Heap) (R : Value → Heap → Prop) : slices_Deleteasl_wheel_timer_wheel_timer_p s0a s0n s0c i1 j2 H R = CodeW Try.prog hplan_slices_Deleteasl_wheel_timer_wheel_timer (bodyOf Try.f39) (env0 [(Value.slice s0a s0n s0c), (Value.int .i64 i1), (Value.int .i64 j2)]) H (RetW Try.prog Try.f39.results.toList R) := by kernel_rfl
theorem slices_Deleteasl_wheel_timer_wheel_timer_sh (s0a : Option Addr) (s0n : Nat) (s0c : Nat) (i1 : Int) (j2 : Int) {H : Heap} {R : Value → Heap → Prop} (h : slices_Deleteasl_wheel_timer_wheel_timer_p s0a s0n s0c i1 j2 H fun v H1 => ∀ H2, Shut H H1 H2 → R v H2) : FnW Try.prog f_slices_Deleteasl_wheel_timer_wheel_timer ⟨[(Value.slice s0a s0n s0c), (Value.int .i64 i1), (Value.int .i64 j2)]⟩ H R := FnW.of_code hk_slices_Deleteasl_wheel_timer_wheel_timer (by kernel_rfl) (Eq.mp (slices_Deleteasl_wheel_timer_wheel_timer_heq s0a s0n s0c i1 j2 H _) h)
def hplan_slices_IndexFuncasl_wheel_timer_wheel_timer : Plan := ⟨[], [(2, [8], [.int .i64], [0, 1, 7])], [], []⟩
theorem hk_slices_IndexFuncasl_wheel_timer_wheel_timer : Known Try.prog f_slices_IndexFuncasl_wheel_timer_wheel_timer Try.f40 hplan_slices_IndexFuncasl_wheel_timer_wheel_timer (bodyOf Try.f40) := ⟨Try.func40, by kernel_rfl, by kernel_rfl, by kernel_rfl, by kernel_rfl, by kernel_rfl⟩
def slices_IndexFuncasl_wheel_timer_wheel_timer_l2 (s0a : Option Addr) (s0n : Nat) (s0c : Nat) (f : FuncId) (w0 : Value) (x8 : Int) (H1 : Heap) (next2 : (Int × Unit) → Heap → Prop) (R : Value → Heap → Prop) : Prop :=
 IfB (decide ((x8 : Int) < (s0n : Int)))
 (NilP s0a fun x14q =>
 InB x8 s0n fun x14i =>
 elemAt x14q x14i 2 fun x14p =>
 ∃ x15c0 : Int, H1.cell x14p = some (Value.int .i64 x15c0) ∧ ∃ x15c1 : Int, H1.cell ⟨x14p.block, x14p.off + 1, none⟩ = some (Value.int .i64 x15c1) ∧ FnW Try.prog f ⟨[(Value.agg ⟨[(Value.int .i64 x15c0), (Value.int .i64 x15c1)]⟩), w0]⟩ H1 fun x16v H2 =>
 ∃ x16 : Bool, x16v = (Value.bool x16) ∧
 IfB x16
 (R (Value.int .i64 x8) H2)
 (next2 ((IntKind.wrap .i64 (x8 + 1)), ()) H2))
 (R (Value.int .i64 (-1)) H1)
def slices_IndexFuncasl_wheel_timer_wheel_timer_p (s0a : Option Addr) (s0n : Nat) (s0c : Nat) (f : FuncId) (w0 : Value) (H : Heap) (R : Value → Heap → Prop) : Prop :=
 LoopI (Int × Unit) (0, ()) H fun x H next => ∀ _g : Env, slices_IndexFuncasl_wheel_timer_wheel_timer_l2 s0a s0n s0c f w0 x.1 H next R
theorem slices_IndexFuncasl_wheel_timer_wheel_timer_heq (s0a : Option Addr) (s0n : Nat) (s0c : Nat) (f : FuncId) (w0 : Value) (H : Heap) (R : Value → Heap → Prop) : slices_IndexFuncasl_wheel_timer_wheel_timer_p s0a s0n s0c f w0 H R = CodeW Try.prog hplan_slices_IndexFuncasl_wheel_timer_wheel_timer (bodyOf Try.f40) (env0 [(Value.slice s0a s0n s0c), (Value.func (.func f) #[] #[w0])]) H (RetW Try.prog Try.f40.results.toList R) := by kernel_rfl
theorem slices_IndexFuncasl_wheel_timer_wheel_timer_sh (s0a : Option Addr) (s0n : Nat) (s0c : Nat) (f : FuncId) (w0 : Value) {H : Heap} {R : Value → Heap → Prop} (h : slices_IndexFuncasl_wheel_timer_wheel_timer_p s0a s0n s0c f w0 H fun v H1 => ∀ H2, Shut H H1 H2 → R v H2) : FnW Try.prog f_slices_IndexFuncasl_wheel_timer_wheel_timer ⟨[(Value.slice s0a s0n s0c), (Value.func (.func f) #[] #[w0])]⟩ H R := FnW.of_code hk_slices_IndexFuncasl_wheel_timer_wheel_timer (by kernel_rfl) (Eq.mp (slices_IndexFuncasl_wheel_timer_wheel_timer_heq s0a s0n s0c f w0 H _) h)
end Go.Proofs.Ytdhjglkacnhhcaa
