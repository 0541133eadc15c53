/-
  SOME FUNCTIONS IN PLAIN LOGIC: printed by a program of ours over this translation.
-/
import Derived.Test.YtboagabgpcghcaaDoorNum
import Derived.Test.YtboagabgpcghcaaDoorRows
set_option maxRecDepth 100000
set_option linter.unusedVariables false
namespace Go.Proofs.YtboagabgpcghcaaDoor
open Go.Sh
noncomputable def zl_T_attr_reader : List Value := (zeroL Tryd.prog T_attr_reader).getD []
def hplan_attr_Read : Plan := ⟨[(12, [0, 1, 2, 3, 4, 5, 6, 7, 8], [76]), (14, [0, 1, 2, 3, 4, 5, 6, 7, 8, 9, 10, 11], [87])], [(2, [0], [.slice], [2, 6, 8, 9])], [], []⟩
theorem hk_attr_Read : Known Tryd.prog f_attr_Read Tryd.f16 hplan_attr_Read (bodyOf Tryd.f16) := by refine ⟨Tryd.func16, ?_, ?_, ?_, ?_, ?_⟩ <;> kernel_rfl
def attr_Read_j3 (x6b : Nat) (x8b : Nat) (x14b : Nat) (x70 : Int) (next2 : ((Option Addr × Nat × Nat) × Unit) → Heap → Prop) (H16 : Heap) (R : Value → Heap → Prop) : Prop :=
 IfB (decide ((x70 : Int) ≥ 2))
 (∃ bs : List Nat, (∀ b ∈ bs, ∃ o, H16 b = some o) ∧
 x14b ∈ bs ∧ ∃ x76 : Int, H16.cell ⟨x14b, 14, none⟩ = some (Value.int .i64 x76) ∧
 StCell H16 ⟨x6b, 0, none⟩ (Value.int .i64 0) fun H17 =>
 StCell H17 ⟨x6b, 1, none⟩ (Value.slice none 0 0) fun H18 =>
 StCell H18 ⟨x6b, 2, none⟩ (Value.int .u32 0) fun H19 =>
 StCell H19 ⟨x6b, 3, none⟩ (Value.bool false) fun H20 =>
 StCell H20 ⟨x6b, 4, none⟩ (Value.int .u32 0) fun H21 =>
 StCell H21 ⟨x6b, 5, none⟩ (Value.bool false) fun H22 =>
 StCell H22 ⟨x6b, 6, none⟩ (Value.int .u32 0) fun H23 =>
 StCell H23 ⟨x6b, 7, none⟩ (Value.bool false) fun H24 =>
 StCell H24 ⟨x6b, 8, none⟩ (Value.bool false) fun H25 =>
 StCell H25 ⟨x6b, 9, none⟩ (Value.int .u32 0) fun H26 =>
 StCell H26 ⟨x6b, 10, none⟩ (Value.int .u32 0) fun H27 =>
 StCell H27 ⟨x6b, 11, none⟩ (Value.slice none 0 0) fun H28 =>
 StCell H28 ⟨x6b, 12, none⟩ (Value.slice none 0 0) fun H29 =>
 KeptIn bs H16 H29 ∧ StCell H29 ⟨x8b, 0, none⟩ (Value.int .i64 0) fun H30 =>
 StCell H30 ⟨x8b, 1, none⟩ (Value.int .i64 0) fun H31 =>
 StCell H31 ⟨x8b, 2, none⟩ (Value.slice none 0 0) fun H32 =>
 ∃ r0c0 : Int, H32.cell ⟨x6b, 0, none⟩ = some (Value.int .i64 r0c0) ∧ ∃ (r0c1a : Option Addr) (r0c1n r0c1c : Nat), H32.cell ⟨x6b, 1, none⟩ = some (Value.slice r0c1a r0c1n r0c1c) ∧ ∃ r0c2 : Int, H32.cell ⟨x6b, 2, none⟩ = some (Value.int .u32 r0c2) ∧ ∃ r0c3 : Bool, H32.cell ⟨x6b, 3, none⟩ = some (Value.bool r0c3) ∧ ∃ r0c4 : Int, H32.cell ⟨x6b, 4, none⟩ = some (Value.int .u32 r0c4) ∧ ∃ r0c5 : Bool, H32.cell ⟨x6b, 5, none⟩ = some (Value.bool r0c5) ∧ ∃ r0c6 : Int, H32.cell ⟨x6b, 6, none⟩ = some (Value.int .u32 r0c6) ∧ ∃ r0c7 : Bool, H32.cell ⟨x6b, 7, none⟩ = some (Value.bool r0c7) ∧ ∃ r0c8 : Bool, H32.cell ⟨x6b, 8, none⟩ = some (Value.bool r0c8) ∧ ∃ r0c9 : Int, H32.cell ⟨x6b, 9, none⟩ = some (Value.int .u32 r0c9) ∧ ∃ r0c10 : Int, H32.cell ⟨x6b, 10, none⟩ = some (Value.int .u32 r0c10) ∧ ∃ (r0c11a : Option Addr) (r0c11n r0c11c : Nat), H32.cell ⟨x6b, 11, none⟩ = some (Value.slice r0c11a r0c11n r0c11c) ∧ ∃ (r0c12a : Option Addr) (r0c12n r0c12c : Nat), H32.cell ⟨x6b, 12, none⟩ = some (Value.slice r0c12a r0c12n r0c12c) ∧ ∃ r2c0 : Int, H32.cell ⟨x8b, 0, none⟩ = some (Value.int .i64 r2c0) ∧ ∃ r2c1 : Int, H32.cell ⟨x8b, 1, none⟩ = some (Value.int .i64 r2c1) ∧ ∃ (r2c2a : Option Addr) (r2c2n r2c2c : Nat), H32.cell ⟨x8b, 2, none⟩ = some (Value.slice r2c2a r2c2n r2c2c) ∧ R (Value.tuple ⟨[(Value.agg ⟨[(Value.int .i64 r0c0), (Value.slice r0c1a r0c1n r0c1c), (Value.int .u32 r0c2), (Value.bool r0c3), (Value.int .u32 r0c4), (Value.bool r0c5), (Value.int .u32 r0c6), (Value.bool r0c7), (Value.bool r0c8), (Value.int .u32 r0c9), (Value.int .u32 r0c10), (Value.slice r0c11a r0c11n r0c11c), (Value.slice r0c12a r0c12n r0c12c)]⟩), (Value.int .i64 x76), (Value.agg ⟨[(Value.int .i64 r2c0), (Value.int .i64 r2c1), (Value.slice r2c2a r2c2n r2c2c)]⟩)]⟩) H32)
 (FnW Tryd.prog f_attr_reader_merge ⟨[(Value.pointer (some ⟨x14b, 0, none⟩))]⟩ H16 fun x79v H33 =>
 x79v = (Value.tuple ⟨[]⟩) ∧
 ∃ bs : List Nat, (∀ b ∈ bs, ∃ o, H33 b = some o) ∧
 ∃ x83c0 : Int, H33.cell ⟨x14b, 0, none⟩ = some (Value.int .i64 x83c0) ∧ ∃ (x83c1a : Option Addr) (x83c1n x83c1c : Nat), H33.cell ⟨x14b, 1, none⟩ = some (Value.slice x83c1a x83c1n x83c1c) ∧ ∃ x83c2 : Int, H33.cell ⟨x14b, 2, none⟩ = some (Value.int .u32 x83c2) ∧ ∃ x83c3 : Bool, H33.cell ⟨x14b, 3, none⟩ = some (Value.bool x83c3) ∧ ∃ x83c4 : Int, H33.cell ⟨x14b, 4, none⟩ = some (Value.int .u32 x83c4) ∧ ∃ x83c5 : Bool, H33.cell ⟨x14b, 5, none⟩ = some (Value.bool x83c5) ∧ ∃ x83c6 : Int, H33.cell ⟨x14b, 6, none⟩ = some (Value.int .u32 x83c6) ∧ ∃ x83c7 : Bool, H33.cell ⟨x14b, 7, none⟩ = some (Value.bool x83c7) ∧ ∃ x83c8 : Bool, H33.cell ⟨x14b, 8, none⟩ = some (Value.bool x83c8) ∧ ∃ x83c9 : Int, H33.cell ⟨x14b, 9, none⟩ = some (Value.int .u32 x83c9) ∧ ∃ x83c10 : Int, H33.cell ⟨x14b, 10, none⟩ = some (Value.int .u32 x83c10) ∧ ∃ (x83c11a : Option Addr) (x83c11n x83c11c : Nat), H33.cell ⟨x14b, 11, none⟩ = some (Value.slice x83c11a x83c11n x83c11c) ∧ ∃ (x83c12a : Option Addr) (x83c12n x83c12c : Nat), H33.cell ⟨x14b, 12, none⟩ = some (Value.slice x83c12a x83c12n x83c12c) ∧ x14b ∈ bs ∧ ∃ x87 : Int, H33.cell ⟨x14b, 14, none⟩ = some (Value.int .i64 x87) ∧
 StCell H33 ⟨x6b, 0, none⟩ (Value.int .i64 x83c0) fun H34 =>
 StCell H34 ⟨x6b, 1, none⟩ (Value.slice x83c1a x83c1n x83c1c) fun H35 =>
 StCell H35 ⟨x6b, 2, none⟩ (Value.int .u32 x83c2) fun H36 =>
 StCell H36 ⟨x6b, 3, none⟩ (Value.bool x83c3) fun H37 =>
 StCell H37 ⟨x6b, 4, none⟩ (Value.int .u32 x83c4) fun H38 =>
 StCell H38 ⟨x6b, 5, none⟩ (Value.bool x83c5) fun H39 =>
 StCell H39 ⟨x6b, 6, none⟩ (Value.int .u32 x83c6) fun H40 =>
 StCell H40 ⟨x6b, 7, none⟩ (Value.bool x83c7) fun H41 =>
 StCell H41 ⟨x6b, 8, none⟩ (Value.bool x83c8) fun H42 =>
 StCell H42 ⟨x6b, 9, none⟩ (Value.int .u32 x83c9) fun H43 =>
 StCell H43 ⟨x6b, 10, none⟩ (Value.int .u32 x83c10) fun H44 =>
 StCell H44 ⟨x6b, 11, none⟩ (Value.slice x83c11a x83c11n x83c11c) fun H45 =>
 StCell H45 ⟨x6b, 12, none⟩ (Value.slice x83c12a x83c12n x83c12c) fun H46 =>
 KeptIn bs H33 H46 ∧ StCell H46 ⟨x8b, 0, none⟩ (Value.int .i64 0) fun H47 =>
 StCell H47 ⟨x8b, 1, none⟩ (Value.int .i64 0) fun H48 =>
 StCell H48 ⟨x8b, 2, none⟩ (Value.slice none 0 0) fun H49 =>
 ∃ r0c0_1 : Int, H49.cell ⟨x6b, 0, none⟩ = some (Value.int .i64 r0c0_1) ∧ ∃ (r0c1a_1 : Option Addr) (r0c1n_1 r0c1c_1 : Nat), H49.cell ⟨x6b, 1, none⟩ = some (Value.slice r0c1a_1 r0c1n_1 r0c1c_1) ∧ ∃ r0c2_1 : Int, H49.cell ⟨x6b, 2, none⟩ = some (Value.int .u32 r0c2_1) ∧ ∃ r0c3_1 : Bool, H49.cell ⟨x6b, 3, none⟩ = some (Value.bool r0c3_1) ∧ ∃ r0c4_1 : Int, H49.cell ⟨x6b, 4, none⟩ = some (Value.int .u32 r0c4_1) ∧ ∃ r0c5_1 : Bool, H49.cell ⟨x6b, 5, none⟩ = some (Value.bool r0c5_1) ∧ ∃ r0c6_1 : Int, H49.cell ⟨x6b, 6, none⟩ = some (Value.int .u32 r0c6_1) ∧ ∃ r0c7_1 : Bool, H49.cell ⟨x6b, 7, none⟩ = some (Value.bool r0c7_1) ∧ ∃ r0c8_1 : Bool, H49.cell ⟨x6b, 8, none⟩ = some (Value.bool r0c8_1) ∧ ∃ r0c9_1 : Int, H49.cell ⟨x6b, 9, none⟩ = some (Value.int .u32 r0c9_1) ∧ ∃ r0c10_1 : Int, H49.cell ⟨x6b, 10, none⟩ = some (Value.int .u32 r0c10_1) ∧ ∃ (r0c11a_1 : Option Addr) (r0c11n_1 r0c11c_1 : Nat), H49.cell ⟨x6b, 11, none⟩ = some (Value.slice r0c11a_1 r0c11n_1 r0c11c_1) ∧ ∃ (r0c12a_1 : Option Addr) (r0c12n_1 r0c12c_1 : Nat), H49.cell ⟨x6b, 12, none⟩ = some (Value.slice r0c12a_1 r0c12n_1 r0c12c_1) ∧ ∃ r2c0_1 : Int, H49.cell ⟨x8b, 0, none⟩ = some (Value.int .i64 r2c0_1) ∧ ∃ r2c1_1 : Int, H49.cell ⟨x8b, 1, none⟩ = some (Value.int .i64 r2c1_1) ∧ ∃ (r2c2a_1 : Option Addr) (r2c2n_1 r2c2c_1 : Nat), H49.cell ⟨x8b, 2, none⟩ = some (Value.slice r2c2a_1 r2c2n_1 r2c2c_1) ∧ R (Value.tuple ⟨[(Value.agg ⟨[(Value.int .i64 r0c0_1), (Value.slice r0c1a_1 r0c1n_1 r0c1c_1), (Value.int .u32 r0c2_1), (Value.bool r0c3_1), (Value.int .u32 r0c4_1), (Value.bool r0c5_1), (Value.int .u32 r0c6_1), (Value.bool r0c7_1), (Value.bool r0c8_1), (Value.int .u32 r0c9_1), (Value.int .u32 r0c10_1), (Value.slice r0c11a_1 r0c11n_1 r0c11c_1), (Value.slice r0c12a_1 r0c12n_1 r0c12c_1)]⟩), (Value.int .i64 x87), (Value.agg ⟨[(Value.int .i64 r2c0_1), (Value.int .i64 r2c1_1), (Value.slice r2c2a_1 r2c2n_1 r2c2c_1)]⟩)]⟩) H49)
def attr_Read_j2 (x6b : Nat) (x8b : Nat) (x14b : Nat) (next2 : ((Option Addr × Nat × Nat) × Unit) → Heap → Prop) (H15 : Heap) (R : Value → Heap → Prop) : Prop :=
 ∃ x70 : Int, H15.cell ⟨x14b, 14, none⟩ = some (Value.int .i64 x70) ∧
 attr_Read_j3 x6b x8b x14b x70 next2 H15 R
def attr_Read_j1 (x6b : Nat) (x8b : Nat) (x14b : Nat) (next2 : ((Option Addr × Nat × Nat) × Unit) → Heap → Prop) (x64 : Bool) (H13 : Heap) (R : Value → Heap → Prop) : Prop :=
 IfB x64
 (FnW Tryd.prog f_attr_reader_found ⟨[(Value.pointer (some ⟨x14b, 0, none⟩)), (Value.int .i64 2)]⟩ H13 fun x66v H14 =>
 x66v = (Value.tuple ⟨[]⟩) ∧
 attr_Read_j2 x6b x8b x14b next2 H14 R)
 (attr_Read_j2 x6b x8b x14b next2 H13 R)
def attr_Read_j0 (told2 : Bool) (x6b : Nat) (x8b : Nat) (x14b : Nat) (next2 : ((Option Addr × Nat × Nat) × Unit) → Heap → Prop) (H12 : Heap) (R : Value → Heap → Prop) : Prop :=
 IfB told2
 (InB 1 256 fun x47i =>
 ∃ x48 : Bool, H12.cell ⟨x14b, 15 + x47i * 1, none⟩ = some (Value.bool x48) ∧
 IfB x48
 (InB 2 256 fun x53i =>
 ∃ x54 : Bool, H12.cell ⟨x14b, 15 + x53i * 1, none⟩ = some (Value.bool x54) ∧
 IfB x54
 (InB 3 256 fun x60i =>
 ∃ x61 : Bool, H12.cell ⟨x14b, 15 + x60i * 1, none⟩ = some (Value.bool x61) ∧
 attr_Read_j1 x6b x8b x14b next2 (!x61) H12 R)
 (attr_Read_j1 x6b x8b x14b next2 true H12 R))
 (attr_Read_j1 x6b x8b x14b next2 true H12 R))
 (attr_Read_j1 x6b x8b x14b next2 false H12 R)
def attr_Read_l2 (told2 : Bool) (x6b : Nat) (x8b : Nat) (x14b : Nat) (b0a_1 : Option Addr) (b0n_1 : Nat) (b0c_1 : Nat) (H4 : Heap) (next2 : ((Option Addr × Nat × Nat) × Unit) → Heap → Prop) (R : Value → Heap → Prop) : Prop :=
 IfB (decide (((b0n_1 : Int) : Int) > 0))
 (FnW Tryd.prog f_attr_next ⟨[(Value.slice b0a_1 b0n_1 b0c_1)]⟩ H4 fun x20v H5 =>
 ∃ x20r0c0 : Int, ∃ x20r0c1 : Int, ∃ (x20r0c2a : Option Addr) (x20r0c2n x20r0c2c : Nat), ∃ x20r0c3 : Int, ∃ x20r1 : Bool, x20v = (Value.tuple ⟨[(Value.agg ⟨[(Value.int .u8 x20r0c0), (Value.int .i64 x20r0c1), (Value.slice x20r0c2a x20r0c2n x20r0c2c), (Value.int .i64 x20r0c3)]⟩), (Value.bool x20r1)]⟩) ∧
 NewW H5 (Obj.cells ⟨[(Value.int .u8 0), (Value.int .i64 0), (Value.slice none 0 0), (Value.int .i64 0)]⟩ T_attr_piece) fun p10b H6 =>
 StCell H6 ⟨p10b, 0, none⟩ (Value.int .u8 x20r0c0) fun H7 =>
 StCell H7 ⟨p10b, 1, none⟩ (Value.int .i64 x20r0c1) fun H8 =>
 StCell H8 ⟨p10b, 2, none⟩ (Value.slice x20r0c2a x20r0c2n x20r0c2c) fun H9 =>
 StCell H9 ⟨p10b, 3, none⟩ (Value.int .i64 x20r0c3) fun H10 =>
 IfB (!x20r1)
 (FnW Tryd.prog f_attr_reader_found ⟨[(Value.pointer (some ⟨x14b, 0, none⟩)), (Value.int .i64 2)]⟩ H10 fun x26v H11 =>
 x26v = (Value.tuple ⟨[]⟩) ∧
 attr_Read_j0 told2 x6b x8b x14b next2 H11 R)
 (∃ x28c0 : Int, H10.cell ⟨p10b, 0, none⟩ = some (Value.int .u8 x28c0) ∧ ∃ x28c1 : Int, H10.cell ⟨p10b, 1, none⟩ = some (Value.int .i64 x28c1) ∧ ∃ (x28c2a : Option Addr) (x28c2n x28c2c : Nat), H10.cell ⟨p10b, 2, none⟩ = some (Value.slice x28c2a x28c2n x28c2c) ∧ ∃ x28c3 : Int, H10.cell ⟨p10b, 3, none⟩ = some (Value.int .i64 x28c3) ∧ FnW Tryd.prog f_attr_reader_take ⟨[(Value.pointer (some ⟨x14b, 0, none⟩)), (Value.agg ⟨[(Value.int .u8 x28c0), (Value.int .i64 x28c1), (Value.slice x28c2a x28c2n x28c2c), (Value.int .i64 x28c3)]⟩)]⟩ H10 fun x29v H50 =>
 ∃ x29 : Bool, x29v = (Value.bool x29) ∧
 IfB (!x29)
 (∃ x34 : Int, H50.cell ⟨p10b, 3, none⟩ = some (Value.int .i64 x34) ∧
 InC x34 b0c_1 fun x35h =>
 FnW Tryd.prog f_slices_Cloneasl_byte_byte ⟨[(Value.slice b0a_1 x35h b0c_1)]⟩ H50 fun x36v H51 =>
 ∃ (x36a : Option Addr) (x36n x36c : Nat), x36v = (Value.slice x36a x36n x36c) ∧
 StCell H51 ⟨x6b, 0, none⟩ (Value.int .i64 0) fun H52 =>
 StCell H52 ⟨x6b, 1, none⟩ (Value.slice none 0 0) fun H53 =>
 StCell H53 ⟨x6b, 2, none⟩ (Value.int .u32 0) fun H54 =>
 StCell H54 ⟨x6b, 3, none⟩ (Value.bool false) fun H55 =>
 StCell H55 ⟨x6b, 4, none⟩ (Value.int .u32 0) fun H56 =>
 StCell H56 ⟨x6b, 5, none⟩ (Value.bool false) fun H57 =>
 StCell H57 ⟨x6b, 6, none⟩ (Value.int .u32 0) fun H58 =>
 StCell H58 ⟨x6b, 7, none⟩ (Value.bool false) fun H59 =>
 StCell H59 ⟨x6b, 8, none⟩ (Value.bool false) fun H60 =>
 StCell H60 ⟨x6b, 9, none⟩ (Value.int .u32 0) fun H61 =>
 StCell H61 ⟨x6b, 10, none⟩ (Value.int .u32 0) fun H62 =>
 StCell H62 ⟨x6b, 11, none⟩ (Value.slice none 0 0) fun H63 =>
 StCell H63 ⟨x6b, 12, none⟩ (Value.slice none 0 0) fun H64 =>
 StCell H64 ⟨x8b, 0, none⟩ (Value.int .i64 3) fun H65 =>
 StCell H65 ⟨x8b, 1, none⟩ (Value.int .i64 2) fun H66 =>
 StCell H66 ⟨x8b, 2, none⟩ (Value.slice x36a x36n x36c) fun H67 =>
 ∃ r0c0_2 : Int, H67.cell ⟨x6b, 0, none⟩ = some (Value.int .i64 r0c0_2) ∧ ∃ (r0c1a_2 : Option Addr) (r0c1n_2 r0c1c_2 : Nat), H67.cell ⟨x6b, 1, none⟩ = some (Value.slice r0c1a_2 r0c1n_2 r0c1c_2) ∧ ∃ r0c2_2 : Int, H67.cell ⟨x6b, 2, none⟩ = some (Value.int .u32 r0c2_2) ∧ ∃ r0c3_2 : Bool, H67.cell ⟨x6b, 3, none⟩ = some (Value.bool r0c3_2) ∧ ∃ r0c4_2 : Int, H67.cell ⟨x6b, 4, none⟩ = some (Value.int .u32 r0c4_2) ∧ ∃ r0c5_2 : Bool, H67.cell ⟨x6b, 5, none⟩ = some (Value.bool r0c5_2) ∧ ∃ r0c6_2 : Int, H67.cell ⟨x6b, 6, none⟩ = some (Value.int .u32 r0c6_2) ∧ ∃ r0c7_2 : Bool, H67.cell ⟨x6b, 7, none⟩ = some (Value.bool r0c7_2) ∧ ∃ r0c8_2 : Bool, H67.cell ⟨x6b, 8, none⟩ = some (Value.bool r0c8_2) ∧ ∃ r0c9_2 : Int, H67.cell ⟨x6b, 9, none⟩ = some (Value.int .u32 r0c9_2) ∧ ∃ r0c10_2 : Int, H67.cell ⟨x6b, 10, none⟩ = some (Value.int .u32 r0c10_2) ∧ ∃ (r0c11a_2 : Option Addr) (r0c11n_2 r0c11c_2 : Nat), H67.cell ⟨x6b, 11, none⟩ = some (Value.slice r0c11a_2 r0c11n_2 r0c11c_2) ∧ ∃ (r0c12a_2 : Option Addr) (r0c12n_2 r0c12c_2 : Nat), H67.cell ⟨x6b, 12, none⟩ = some (Value.slice r0c12a_2 r0c12n_2 r0c12c_2) ∧ ∃ r2c0_2 : Int, H67.cell ⟨x8b, 0, none⟩ = some (Value.int .i64 r2c0_2) ∧ ∃ r2c1_2 : Int, H67.cell ⟨x8b, 1, none⟩ = some (Value.int .i64 r2c1_2) ∧ ∃ (r2c2a_2 : Option Addr) (r2c2n_2 r2c2c_2 : Nat), H67.cell ⟨x8b, 2, none⟩ = some (Value.slice r2c2a_2 r2c2n_2 r2c2c_2) ∧ R (Value.tuple ⟨[(Value.agg ⟨[(Value.int .i64 r0c0_2), (Value.slice r0c1a_2 r0c1n_2 r0c1c_2), (Value.int .u32 r0c2_2), (Value.bool r0c3_2), (Value.int .u32 r0c4_2), (Value.bool r0c5_2), (Value.int .u32 r0c6_2), (Value.bool r0c7_2), (Value.bool r0c8_2), (Value.int .u32 r0c9_2), (Value.int .u32 r0c10_2), (Value.slice r0c11a_2 r0c11n_2 r0c11c_2), (Value.slice r0c12a_2 r0c12n_2 r0c12c_2)]⟩), (Value.int .i64 3), (Value.agg ⟨[(Value.int .i64 r2c0_2), (Value.int .i64 r2c1_2), (Value.slice r2c2a_2 r2c2n_2 r2c2c_2)]⟩)]⟩) H67)
 (∃ x40 : Int, H50.cell ⟨p10b, 3, none⟩ = some (Value.int .i64 x40) ∧
 InC x40 b0n_1 fun x41l =>
 next2 (((if b0c_1 = x41l then b0a_1 else Option.map (fun a => Addr.add a (x41l * 1)) b0a_1), b0n_1 - x41l, b0c_1 - x41l), ()) H50)))
 (attr_Read_j0 told2 x6b x8b x14b next2 H4 R)
def attr_Read_p (b0a : Option Addr) (b0n : Nat) (b0c : Nat) (four1 : Bool) (told2 : Bool) (H : Heap) (R : Value → Heap → Prop) : Prop :=
 NewW H (Obj.cells ⟨[(Value.int .i64 0), (Value.slice none 0 0), (Value.int .u32 0), (Value.bool false), (Value.int .u32 0), (Value.bool false), (Value.int .u32 0), (Value.bool false), (Value.bool false), (Value.int .u32 0), (Value.int .u32 0), (Value.slice none 0 0), (Value.slice none 0 0)]⟩ T_api_Attrs) fun x6b H1 =>
 NewW H1 (Obj.cells ⟨[(Value.int .i64 0), (Value.int .i64 0), (Value.slice none 0 0)]⟩ T_api_Fault) fun x8b H2 =>
 NewW H2 (Obj.cells ⟨(setL zl_T_attr_reader 13 [(Value.bool four1)])⟩ T_attr_reader) fun x14b H3 =>
 LoopI ((Option Addr × Nat × Nat) × Unit) ((b0a, b0n, b0c), ()) H3 fun x H next => ∀ _g : Env, attr_Read_l2 told2 x6b x8b x14b x.1.1 x.1.2.1 x.1.2.2 H next R
theorem attr_Read_heq (b0a : Option Addr) (b0n : Nat) (b0c : Nat) (four1 : Bool) (told2 : Bool) (H : Heap) (R : Value → Heap → Prop) : attr_Read_p b0a b0n b0c four1 told2 H R = CodeW Tryd.prog hplan_attr_Read (bodyOf Tryd.f16) (env0 [(Value.slice b0a b0n b0c), (Value.bool four1), (Value.bool told2)]) H (RetW Tryd.prog Tryd.f16.results.toList R) := by kernel_rfl
theorem attr_Read_sh (b0a : Option Addr) (b0n : Nat) (b0c : Nat) (four1 : Bool) (told2 : Bool) {H : Heap} {R : Value → Heap → Prop} (h : attr_Read_p b0a b0n b0c four1 told2 H fun v H1 => ∀ H2, Shut H H1 H2 → R v H2) : FnW Tryd.prog f_attr_Read ⟨[(Value.slice b0a b0n b0c), (Value.bool four1), (Value.bool told2)]⟩ H R := FnW.of_code hk_attr_Read (by kernel_rfl) (Eq.mp (attr_Read_heq b0a b0n b0c four1 told2 H _) h)
def hplan_upd_mask : Plan := ⟨[], [], [], []⟩
theorem hk_upd_mask : Known Tryd.prog f_upd_mask Tryd.f18 hplan_upd_mask (bodyOf Tryd.f18) := by refine ⟨Tryd.func18, ?_, ?_, ?_, ?_, ?_⟩ <;> kernel_rfl
def upd_mask_p (a0 : Int) (n1 : Int) (H : Heap) (R : Value → Heap → Prop) : Prop :=
 (0 : Int) ≤ (IntKind.wrap .i64 (32 - n1)) ∧
 R (Value.int .u32 (bitsAndNot .u32 a0 (IntKind.wrap .u32 (IntKind.wrap .u64 ((IntKind.wrap .u64 (1 * 2 ^ (min ((IntKind.wrap .i64 (32 - n1)) : Int).toNat (IntKind.bits .u64)))) - 1))))) H
theorem upd_mask_heq (a0 : Int) (n1 : Int) (H : Heap) (R : Value → Heap → Prop) : upd_mask_p a0 n1 H R = CodeW Tryd.prog hplan_upd_mask (bodyOf Tryd.f18) (env0 [(Value.int .u32 a0), (Value.int .i64 n1)]) H (RetW Tryd.prog Tryd.f18.results.toList R) := by kernel_rfl
theorem upd_mask_sh (a0 : Int) (n1 : Int) {H : Heap} {R : Value → Heap → Prop} (h : upd_mask_p a0 n1 H fun v H1 => ∀ H2, Shut H H1 H2 → R v H2) : FnW Tryd.prog f_upd_mask ⟨[(Value.int .u32 a0), (Value.int .i64 n1)]⟩ H R := FnW.of_code hk_upd_mask (by kernel_rfl) (Eq.mp (upd_mask_heq a0 n1 H _) h)
def hplan_attr_reader_merge : Plan := ⟨[(2, [0, 1, 2, 3, 4, 5, 7, 8, 9, 10, 11, 6, 12, 13, 14, 15, 16, 17, 18, 19, 20], [38])], [], [], []⟩
theorem hk_attr_reader_merge : Known Tryd.prog f_attr_reader_merge Tryd.f30 hplan_attr_reader_merge (bodyOf Tryd.f30) := by refine ⟨Tryd.func30, ?_, ?_, ?_, ?_, ?_⟩ <;> kernel_rfl
def attr_reader_merge_j2 (r0b : Nat) (H7 : Heap) (R : Value → Heap → Prop) : Prop :=
 ∃ x50 : Bool, H7.cell ⟨r0b, 273, none⟩ = some (Value.bool x50) ∧
 IfB (!x50)
 (R (Value.tuple ⟨[]⟩) H7)
 (∃ (x56a : Option Addr) (x56n x56c : Nat), H7.cell ⟨r0b, 1, none⟩ = some (Value.slice x56a x56n x56c) ∧
 ∃ (x60a : Option Addr) (x60n x60c : Nat), H7.cell ⟨r0b, 271, none⟩ = some (Value.slice x60a x60n x60c) ∧
 FnW Tryd.prog f_path_Merge ⟨[(Value.slice x56a x56n x56c), (Value.slice x60a x60n x60c)]⟩ H7 fun x61v H8 =>
 ∃ (x61a : Option Addr) (x61n x61c : Nat), x61v = (Value.slice x61a x61n x61c) ∧
 FnW Tryd.prog f_path_Check ⟨[(Value.slice x61a x61n x61c)]⟩ H8 fun x63v H9 =>
 ∃ x63 : Int, x63v = (Value.int .i64 x63) ∧
 IfB ((x63 : Int) == 0)
 (StCell H9 ⟨r0b, 1, none⟩ (Value.slice x61a x61n x61c) fun H10 =>
 R (Value.tuple ⟨[]⟩) H10)
 (R (Value.tuple ⟨[]⟩) H9))
def attr_reader_merge_j1 (r0b : Nat) (x27 : Bool) (H2 : Heap) (R : Value → Heap → Prop) : Prop :=
 IfB x27
 (∃ bs : List Nat, (∀ b ∈ bs, ∃ o, H2 b = some o) ∧
 ∃ (x33a : Option Addr) (x33n x33c : Nat), H2.cell ⟨r0b, 272, none⟩ = some (Value.slice x33a x33n x33c) ∧
 r0b ∈ bs ∧ ∃ (x38a : Option Addr) (x38n x38c : Nat), H2.cell ⟨r0b, 272, none⟩ = some (Value.slice x38a x38n x38c) ∧
 InC 4 x38n fun x39l =>
 FnW Tryd.prog f_attr_get ⟨[(Value.slice x33a x33n x33c)]⟩ H2 fun x34v H3 =>
 ∃ x34 : Int, x34v = (Value.int .u32 x34) ∧
 KeptIn bs H2 H3 ∧ FnW Tryd.prog f_attr_get ⟨[(Value.slice (if x38c = x39l then x38a else Option.map (fun a => Addr.add a (x39l * 1)) x38a) (x38n - x39l) (x38c - x39l))]⟩ H3 fun x40v H4 =>
 ∃ x40 : Int, x40v = (Value.int .u32 x40) ∧
 KeptIn bs H2 H4 ∧ StCell H4 ⟨r0b, 9, none⟩ (Value.int .u32 x34) fun H5 =>
 KeptIn bs H2 H5 ∧ StCell H5 ⟨r0b, 10, none⟩ (Value.int .u32 x40) fun H6 =>
 attr_reader_merge_j2 r0b H6 R)
 (attr_reader_merge_j2 r0b H2 R)
def attr_reader_merge_j0 (r0b : Nat) (x15 : Bool) (H1 : Heap) (R : Value → Heap → Prop) : Prop :=
 IfB x15
 (R (Value.tuple ⟨[]⟩) H1)
 (∃ x20 : Bool, H1.cell ⟨r0b, 8, none⟩ = some (Value.bool x20) ∧
 IfB x20
 (∃ (x25a : Option Addr) (x25n x25c : Nat), H1.cell ⟨r0b, 272, none⟩ = some (Value.slice x25a x25n x25c) ∧
 attr_reader_merge_j1 r0b (!x25a.isNone) H1 R)
 (attr_reader_merge_j1 r0b false H1 R))
def attr_reader_merge_p (r0b : Nat) (H : Heap) (R : Value → Heap → Prop) : Prop :=
 ∃ x7 : Bool, H.cell ⟨r0b, 8, none⟩ = some (Value.bool x7) ∧
 IfB x7
 (∃ x13 : Int, H.cell ⟨r0b, 9, none⟩ = some (Value.int .u32 x13) ∧
 attr_reader_merge_j0 r0b ((x13 : Int) != 23456) H R)
 (attr_reader_merge_j0 r0b false H R)
theorem attr_reader_merge_heq (r0b : Nat) (H : Heap) (R : Value → Heap → Prop) : attr_reader_merge_p r0b H R = CodeW Tryd.prog hplan_attr_reader_merge (bodyOf Tryd.f30) (env0 [(Value.pointer (some ⟨r0b, 0, none⟩))]) H (RetW Tryd.prog Tryd.f30.results.toList R) := by kernel_rfl
theorem attr_reader_merge_sh (r0b : Nat) {H : Heap} {R : Value → Heap → Prop} (h : attr_reader_merge_p r0b H fun v H1 => ∀ H2, Shut H H1 H2 → R v H2) : FnW Tryd.prog f_attr_reader_merge ⟨[(Value.pointer (some ⟨r0b, 0, none⟩))]⟩ H R := FnW.of_code hk_attr_reader_merge (by kernel_rfl) (Eq.mp (attr_reader_merge_heq r0b H _) h)
def hplan_upd_octets : Plan := ⟨[], [], [], []⟩
theorem hk_upd_octets : Known Tryd.prog f_upd_octets Tryd.f32 hplan_upd_octets (bodyOf Tryd.f32) := by refine ⟨Tryd.func32, ?_, ?_, ?_, ?_, ?_⟩ <;> kernel_rfl
def upd_octets_p (n0 : Int) (H : Heap) (R : Value → Heap → Prop) : Prop :=
 (8 : Int) ≠ 0 ∧
 R (Value.int .i64 (IntKind.wrap .i64 (Int.tdiv (IntKind.wrap .i64 ((IntKind.wrap .i64 (n0 + 8)) - 1)) 8))) H
theorem upd_octets_heq (n0 : Int) (H : Heap) (R : Value → Heap → Prop) : upd_octets_p n0 H R = CodeW Tryd.prog hplan_upd_octets (bodyOf Tryd.f32) (env0 [(Value.int .i64 n0)]) H (RetW Tryd.prog Tryd.f32.results.toList R) := by kernel_rfl
theorem upd_octets_sh (n0 : Int) {H : Heap} {R : Value → Heap → Prop} (h : upd_octets_p n0 H fun v H1 => ∀ H2, Shut H H1 H2 → R v H2) : FnW Tryd.prog f_upd_octets ⟨[(Value.int .i64 n0)]⟩ H R := FnW.of_code hk_upd_octets (by kernel_rfl) (Eq.mp (upd_octets_heq n0 H _) h)
def hplan_upd_prefixes_1 : Plan := ⟨[], [(0, [], [], [0, 1]), (7, [5, 34], [.int .u32, .int .i64], [0, 1, 3, 4, 32, 33])], [], []⟩
theorem hk_upd_prefixes_1 : Known Tryd.prog f_upd_prefixes_1 Tryd.f52 hplan_upd_prefixes_1 (bodyOf Tryd.f52) := by refine ⟨Tryd.func52, ?_, ?_, ?_, ?_, ?_⟩ <;> kernel_rfl
def upd_prefixes_1_l7 (l : Nat) (b1 : Nat) (x13 : Int) (x16 : Int) (x29c : Nat) (x32l : Nat) (x29a : Option Addr) (x32h : Nat) (next0 : (Unit) → Heap → Prop) (a5 : Int) (x34 : Int) (H5 : Heap) (next7 : (Int × Int × Unit) → Heap → Prop) (R : Value → Heap → Prop) : Prop :=
 IfB (decide ((x34 : Int) < ((x32h - x32l : Nat) : Int)))
 (NilP (if x29c = x32l then x29a else Option.map (fun a => Addr.add a (x32l * 1)) x29a) fun x37q =>
 InB x34 (x32h - x32l) fun x37i =>
 elemAt x37q x37i 1 fun x37p =>
 ∃ x38 : Int, H5.cell x37p = some (Value.int .u8 x38) ∧
 (0 : Int) ≤ (IntKind.wrap .i64 (24 - (IntKind.wrap .i64 (8 * x34)))) ∧
 next7 ((bitsOr .u32 a5 (IntKind.wrap .u32 ((IntKind.wrap .u32 x38) * 2 ^ (min ((IntKind.wrap .i64 (24 - (IntKind.wrap .i64 (8 * x34)))) : Int).toNat (IntKind.bits .u32))))), ((IntKind.wrap .i64 (x34 + 1)), ())) H5)
 (FnW Tryd.prog f_upd_mask ⟨[(Value.int .u32 a5), (Value.int .i64 (IntKind.wrap .i64 x13))]⟩ H5 fun x51v H6 =>
 ∃ x51 : Int, x51v = (Value.int .u32 x51) ∧
 YieldW Tryd.prog l [(Value.agg ⟨[(Value.int .u32 x51), (Value.int .i64 (IntKind.wrap .i64 x13))]⟩), (Value.bool true)] H6 fun x54v H7 =>
 ∃ x54 : Bool, x54v = (Value.bool x54) ∧
 IfB (!x54)
 (R (Value.tuple ⟨[]⟩) H7)
 (∃ (x56a : Option Addr) (x56n x56c : Nat), H7.cell ⟨b1, 0, none⟩ = some (Value.slice x56a x56n x56c) ∧
 InC (IntKind.wrap .i64 (1 + x16)) x56n fun x59l =>
 StCell H7 ⟨b1, 0, none⟩ (Value.slice (if x56c = x59l then x56a else Option.map (fun a => Addr.add a (x59l * 1)) x56a) (x56n - x59l) (x56c - x59l)) fun H8 =>
 next0 () H8))
def upd_prefixes_1_j0 (l : Nat) (b1 : Nat) (x13 : Int) (x16 : Int) (next0 : (Unit) → Heap → Prop) (x25 : Bool) (H3 : Heap) (R : Value → Heap → Prop) : Prop :=
 IfB x25
 (YieldW Tryd.prog l [(Value.agg ⟨[(Value.int .u32 0), (Value.int .i64 0)]⟩), (Value.bool false)] H3 fun x28v H4 =>
 ∃ x28 : Bool, x28v = (Value.bool x28) ∧
 R (Value.tuple ⟨[]⟩) H4)
 (∃ (x29a : Option Addr) (x29n x29c : Nat), H3.cell ⟨b1, 0, none⟩ = some (Value.slice x29a x29n x29c) ∧
 InC (IntKind.wrap .i64 (1 + x16)) x29c fun x32h =>
 InC 1 x32h fun x32l =>
 LoopI (Int × Int × Unit) (0, (0, ())) H3 fun x H next => ∀ _g : Env, upd_prefixes_1_l7 l b1 x13 x16 x29c x32l x29a x32h next0 x.1 x.2.1 H next R)
def upd_prefixes_1_l0 (l : Nat) (b1 : Nat) (H1 : Heap) (next0 : (Unit) → Heap → Prop) (R : Value → Heap → Prop) : Prop :=
 ∃ (x8a : Option Addr) (x8n x8c : Nat), H1.cell ⟨b1, 0, none⟩ = some (Value.slice x8a x8n x8c) ∧
 IfB (decide (((x8n : Int) : Int) > 0))
 (∃ (x11a : Option Addr) (x11n x11c : Nat), H1.cell ⟨b1, 0, none⟩ = some (Value.slice x11a x11n x11c) ∧
 NilP x11a fun x12q =>
 InB 0 x11n fun x12i =>
 elemAt x12q x12i 1 fun x12p =>
 ∃ x13 : Int, H1.cell x12p = some (Value.int .u8 x13) ∧
 FnW Tryd.prog f_upd_octets ⟨[(Value.int .i64 (IntKind.wrap .i64 x13))]⟩ H1 fun x16v H2 =>
 ∃ x16 : Int, x16v = (Value.int .i64 x16) ∧
 IfB (decide (((IntKind.wrap .i64 x13) : Int) > 32))
 (upd_prefixes_1_j0 l b1 x13 x16 next0 true H2 R)
 (∃ (x21a : Option Addr) (x21n x21c : Nat), H2.cell ⟨b1, 0, none⟩ = some (Value.slice x21a x21n x21c) ∧
 upd_prefixes_1_j0 l b1 x13 x16 next0 (decide ((x16 : Int) > (IntKind.wrap .i64 ((x21n : Int) - 1)))) H2 R))
 (R (Value.tuple ⟨[]⟩) H1)
def upd_prefixes_1_p (l : Nat) (b1 : Nat) (H : Heap) (R : Value → Heap → Prop) : Prop :=
 LoopI (Unit) () H fun x H next => ∀ _g : Env, upd_prefixes_1_l0 l b1 H next R
theorem upd_prefixes_1_heq (l : Nat) (b1 : Nat) (H : Heap) (R : Value → Heap → Prop) : upd_prefixes_1_p l b1 H R = CodeW Tryd.prog hplan_upd_prefixes_1 (bodyOf Tryd.f52) (env0 [(Value.func (.yield l) #[] #[]), (Value.pointer (some ⟨b1, 0, none⟩))]) H (RetW Tryd.prog Tryd.f52.results.toList R) := by kernel_rfl
theorem upd_prefixes_1_sh (l : Nat) (b1 : Nat) {H : Heap} {R : Value → Heap → Prop} (h : upd_prefixes_1_p l b1 H fun v H1 => ∀ H2, Shut H H1 H2 → R v H2) : FnW Tryd.prog f_upd_prefixes_1 ⟨[(Value.func (.yield l) #[] #[]), (Value.pointer (some ⟨b1, 0, none⟩))]⟩ H R := FnW.of_code hk_upd_prefixes_1 (by kernel_rfl) (Eq.mp (upd_prefixes_1_heq l b1 H _) h)
end Go.Proofs.YtboagabgpcghcaaDoor
