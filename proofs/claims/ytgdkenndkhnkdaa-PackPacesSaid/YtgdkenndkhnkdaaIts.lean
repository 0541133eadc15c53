/-
  SOME FUNCTIONS IN PLAIN LOGIC: printed by a program of ours over this translation.
-/
import Derived.Test.YtgdkenndkhnkdaaNum
import Derived.Test.YtgdkenndkhnkdaaRows
set_option maxRecDepth 100000
set_option linter.unusedVariables false
namespace Go.Proofs.Ytgdkenndkhnkdaa
open Go.Sh
def hplan_pack_groupsaview_Change : Plan := ⟨[], [(3, [5, 12], [.slice, .int .i64], [1, 10, 11]), (6, [18], [.int .i64], [1, 5, 7, 10, 11, 12, 16, 17])], [], []⟩
theorem hk_pack_groupsaview_Change : Known Try.prog f_pack_groupsaview_Change Try.f22 hplan_pack_groupsaview_Change (bodyOf Try.f22) := by refine ⟨Try.func22, ?_, ?_, ?_, ?_, ?_⟩ <;> kernel_rfl
def pack_groupsaview_Change_j0 (f : FuncId) (l0a : Option Addr) (l0n : Nat) (l0c : Nat) (x12 : Int) (next3 : ((Option Addr × Nat × Nat) × Int × Unit) → Heap → Prop) (next6 : (Int × Unit) → Heap → Prop) (out5a_1 : Option Addr) (out5n_1 : Nat) (out5c_1 : Nat) (H24 : Heap) (R : Value → Heap → Prop) : Prop :=
 next3 ((out5a_1, out5n_1, out5c_1), ((IntKind.wrap .i64 (x12 + 1)), ())) H24
def pack_groupsaview_Change_l6 (f : FuncId) (out5a : Option Addr) (out5n : Nat) (out5c : Nat) (x7b : Nat) (l0a : Option Addr) (l0n : Nat) (l0c : Nat) (x12 : Int) (next3 : ((Option Addr × Nat × Nat) × Int × Unit) → Heap → Prop) (x18 : Int) (H19 : Heap) (next6 : (Int × Unit) → Heap → Prop) (R : Value → Heap → Prop) : Prop :=
 IfB (decide ((x18 : Int) < (out5n : Int)))
 (NilP out5a fun x21q =>
 InB x18 out5n fun x21i =>
 elemAt x21q x21i 1 fun x21p =>
 ∃ (x22a : Option Addr) (x22n x22c : Nat), H19.cell x21p = some (Value.slice x22a x22n x22c) ∧
 NilP x22a fun x25q =>
 InB 0 x22n fun x25i =>
 elemAt x25q x25i 16 fun x25p =>
 ∃ x26c0 : Int, H19.cell x25p = some (Value.int .u32 x26c0) ∧ ∃ x26c1 : Int, H19.cell ⟨x25p.block, x25p.off + 1, none⟩ = some (Value.int .i64 x26c1) ∧ ∃ x26c2 : Int, H19.cell ⟨x25p.block, x25p.off + 2, none⟩ = some (Value.int .i64 x26c2) ∧ ∃ (x26c3a : Option Addr) (x26c3n x26c3c : Nat), H19.cell ⟨x25p.block, x25p.off + 3, none⟩ = some (Value.slice x26c3a x26c3n x26c3c) ∧ ∃ x26c4 : Int, H19.cell ⟨x25p.block, x25p.off + 4, none⟩ = some (Value.int .u32 x26c4) ∧ ∃ x26c5 : Bool, H19.cell ⟨x25p.block, x25p.off + 5, none⟩ = some (Value.bool x26c5) ∧ ∃ x26c6 : Int, H19.cell ⟨x25p.block, x25p.off + 6, none⟩ = some (Value.int .u32 x26c6) ∧ ∃ x26c7 : Bool, H19.cell ⟨x25p.block, x25p.off + 7, none⟩ = some (Value.bool x26c7) ∧ ∃ x26c8 : Int, H19.cell ⟨x25p.block, x25p.off + 8, none⟩ = some (Value.int .u32 x26c8) ∧ ∃ x26c9 : Bool, H19.cell ⟨x25p.block, x25p.off + 9, none⟩ = some (Value.bool x26c9) ∧ ∃ x26c10 : Bool, H19.cell ⟨x25p.block, x25p.off + 10, none⟩ = some (Value.bool x26c10) ∧ ∃ x26c11 : Int, H19.cell ⟨x25p.block, x25p.off + 11, none⟩ = some (Value.int .u32 x26c11) ∧ ∃ x26c12 : Int, H19.cell ⟨x25p.block, x25p.off + 12, none⟩ = some (Value.int .u32 x26c12) ∧ ∃ (x26c13a : Option Addr) (x26c13n x26c13c : Nat), H19.cell ⟨x25p.block, x25p.off + 13, none⟩ = some (Value.slice x26c13a x26c13n x26c13c) ∧ ∃ (x26c14a : Option Addr) (x26c14n x26c14c : Nat), H19.cell ⟨x25p.block, x25p.off + 14, none⟩ = some (Value.slice x26c14a x26c14n x26c14c) ∧ ∃ x26c15 : Bool, H19.cell ⟨x25p.block, x25p.off + 15, none⟩ = some (Value.bool x26c15) ∧ ∃ x27c0 : Int, H19.cell ⟨x7b, 0, none⟩ = some (Value.int .u32 x27c0) ∧ ∃ x27c1 : Int, H19.cell ⟨x7b, 1, none⟩ = some (Value.int .i64 x27c1) ∧ ∃ x27c2 : Int, H19.cell ⟨x7b, 2, none⟩ = some (Value.int .i64 x27c2) ∧ ∃ (x27c3a : Option Addr) (x27c3n x27c3c : Nat), H19.cell ⟨x7b, 3, none⟩ = some (Value.slice x27c3a x27c3n x27c3c) ∧ ∃ x27c4 : Int, H19.cell ⟨x7b, 4, none⟩ = some (Value.int .u32 x27c4) ∧ ∃ x27c5 : Bool, H19.cell ⟨x7b, 5, none⟩ = some (Value.bool x27c5) ∧ ∃ x27c6 : Int, H19.cell ⟨x7b, 6, none⟩ = some (Value.int .u32 x27c6) ∧ ∃ x27c7 : Bool, H19.cell ⟨x7b, 7, none⟩ = some (Value.bool x27c7) ∧ ∃ x27c8 : Int, H19.cell ⟨x7b, 8, none⟩ = some (Value.int .u32 x27c8) ∧ ∃ x27c9 : Bool, H19.cell ⟨x7b, 9, none⟩ = some (Value.bool x27c9) ∧ ∃ x27c10 : Bool, H19.cell ⟨x7b, 10, none⟩ = some (Value.bool x27c10) ∧ ∃ x27c11 : Int, H19.cell ⟨x7b, 11, none⟩ = some (Value.int .u32 x27c11) ∧ ∃ x27c12 : Int, H19.cell ⟨x7b, 12, none⟩ = some (Value.int .u32 x27c12) ∧ ∃ (x27c13a : Option Addr) (x27c13n x27c13c : Nat), H19.cell ⟨x7b, 13, none⟩ = some (Value.slice x27c13a x27c13n x27c13c) ∧ ∃ (x27c14a : Option Addr) (x27c14n x27c14c : Nat), H19.cell ⟨x7b, 14, none⟩ = some (Value.slice x27c14a x27c14n x27c14c) ∧ ∃ x27c15 : Bool, H19.cell ⟨x7b, 15, none⟩ = some (Value.bool x27c15) ∧ FnW Try.prog f ⟨[(Value.agg ⟨[(Value.int .u32 x26c0), (Value.int .i64 x26c1), (Value.int .i64 x26c2), (Value.slice x26c3a x26c3n x26c3c), (Value.int .u32 x26c4), (Value.bool x26c5), (Value.int .u32 x26c6), (Value.bool x26c7), (Value.int .u32 x26c8), (Value.bool x26c9), (Value.bool x26c10), (Value.int .u32 x26c11), (Value.int .u32 x26c12), (Value.slice x26c13a x26c13n x26c13c), (Value.slice x26c14a x26c14n x26c14c), (Value.bool x26c15)]⟩), (Value.agg ⟨[(Value.int .u32 x27c0), (Value.int .i64 x27c1), (Value.int .i64 x27c2), (Value.slice x27c3a x27c3n x27c3c), (Value.int .u32 x27c4), (Value.bool x27c5), (Value.int .u32 x27c6), (Value.bool x27c7), (Value.int .u32 x27c8), (Value.bool x27c9), (Value.bool x27c10), (Value.int .u32 x27c11), (Value.int .u32 x27c12), (Value.slice x27c13a x27c13n x27c13c), (Value.slice x27c14a x27c14n x27c14c), (Value.bool x27c15)]⟩)]⟩ H19 fun x28v H20 =>
 ∃ x28 : Bool, x28v = (Value.bool x28) ∧
 IfB x28
 (∃ x32c0 : Int, H20.cell ⟨x7b, 0, none⟩ = some (Value.int .u32 x32c0) ∧ ∃ x32c1 : Int, H20.cell ⟨x7b, 1, none⟩ = some (Value.int .i64 x32c1) ∧ ∃ x32c2 : Int, H20.cell ⟨x7b, 2, none⟩ = some (Value.int .i64 x32c2) ∧ ∃ (x32c3a : Option Addr) (x32c3n x32c3c : Nat), H20.cell ⟨x7b, 3, none⟩ = some (Value.slice x32c3a x32c3n x32c3c) ∧ ∃ x32c4 : Int, H20.cell ⟨x7b, 4, none⟩ = some (Value.int .u32 x32c4) ∧ ∃ x32c5 : Bool, H20.cell ⟨x7b, 5, none⟩ = some (Value.bool x32c5) ∧ ∃ x32c6 : Int, H20.cell ⟨x7b, 6, none⟩ = some (Value.int .u32 x32c6) ∧ ∃ x32c7 : Bool, H20.cell ⟨x7b, 7, none⟩ = some (Value.bool x32c7) ∧ ∃ x32c8 : Int, H20.cell ⟨x7b, 8, none⟩ = some (Value.int .u32 x32c8) ∧ ∃ x32c9 : Bool, H20.cell ⟨x7b, 9, none⟩ = some (Value.bool x32c9) ∧ ∃ x32c10 : Bool, H20.cell ⟨x7b, 10, none⟩ = some (Value.bool x32c10) ∧ ∃ x32c11 : Int, H20.cell ⟨x7b, 11, none⟩ = some (Value.int .u32 x32c11) ∧ ∃ x32c12 : Int, H20.cell ⟨x7b, 12, none⟩ = some (Value.int .u32 x32c12) ∧ ∃ (x32c13a : Option Addr) (x32c13n x32c13c : Nat), H20.cell ⟨x7b, 13, none⟩ = some (Value.slice x32c13a x32c13n x32c13c) ∧ ∃ (x32c14a : Option Addr) (x32c14n x32c14c : Nat), H20.cell ⟨x7b, 14, none⟩ = some (Value.slice x32c14a x32c14n x32c14c) ∧ ∃ x32c15 : Bool, H20.cell ⟨x7b, 15, none⟩ = some (Value.bool x32c15) ∧ NewW H20 (Obj.cells ⟨[(Value.int .u32 x32c0), (Value.int .i64 x32c1), (Value.int .i64 x32c2), (Value.slice x32c3a x32c3n x32c3c), (Value.int .u32 x32c4), (Value.bool x32c5), (Value.int .u32 x32c6), (Value.bool x32c7), (Value.int .u32 x32c8), (Value.bool x32c9), (Value.bool x32c10), (Value.int .u32 x32c11), (Value.int .u32 x32c12), (Value.slice x32c13a x32c13n x32c13c), (Value.slice x32c14a x32c14n x32c14c), (Value.bool x32c15)]⟩ T_view_Change) fun x33b H21 =>
 AppW Try.prog #[T_sl_view_Change, T_sl_view_Change] T_sl_view_Change [(Value.slice x22a x22n x22c), (Value.slice (some ⟨x33b, 0, none⟩) 1 1)] H21 fun x34v H22 =>
 ∃ (x34a : Option Addr) (x34n x34c : Nat), x34v = (Value.slice x34a x34n x34c) ∧
 NilP out5a fun x35q =>
 InB x18 out5n fun x35i =>
 elemAt x35q x35i 1 fun x35p =>
 StCell H22 x35p (Value.slice x34a x34n x34c) fun H23 =>
 pack_groupsaview_Change_j0 f l0a l0n l0c x12 next3 next6 out5a out5n out5c H23 R)
 (next6 ((IntKind.wrap .i64 (x18 + 1)), ()) H20))
 (∃ x38c0 : Int, H19.cell ⟨x7b, 0, none⟩ = some (Value.int .u32 x38c0) ∧ ∃ x38c1 : Int, H19.cell ⟨x7b, 1, none⟩ = some (Value.int .i64 x38c1) ∧ ∃ x38c2 : Int, H19.cell ⟨x7b, 2, none⟩ = some (Value.int .i64 x38c2) ∧ ∃ (x38c3a : Option Addr) (x38c3n x38c3c : Nat), H19.cell ⟨x7b, 3, none⟩ = some (Value.slice x38c3a x38c3n x38c3c) ∧ ∃ x38c4 : Int, H19.cell ⟨x7b, 4, none⟩ = some (Value.int .u32 x38c4) ∧ ∃ x38c5 : Bool, H19.cell ⟨x7b, 5, none⟩ = some (Value.bool x38c5) ∧ ∃ x38c6 : Int, H19.cell ⟨x7b, 6, none⟩ = some (Value.int .u32 x38c6) ∧ ∃ x38c7 : Bool, H19.cell ⟨x7b, 7, none⟩ = some (Value.bool x38c7) ∧ ∃ x38c8 : Int, H19.cell ⟨x7b, 8, none⟩ = some (Value.int .u32 x38c8) ∧ ∃ x38c9 : Bool, H19.cell ⟨x7b, 9, none⟩ = some (Value.bool x38c9) ∧ ∃ x38c10 : Bool, H19.cell ⟨x7b, 10, none⟩ = some (Value.bool x38c10) ∧ ∃ x38c11 : Int, H19.cell ⟨x7b, 11, none⟩ = some (Value.int .u32 x38c11) ∧ ∃ x38c12 : Int, H19.cell ⟨x7b, 12, none⟩ = some (Value.int .u32 x38c12) ∧ ∃ (x38c13a : Option Addr) (x38c13n x38c13c : Nat), H19.cell ⟨x7b, 13, none⟩ = some (Value.slice x38c13a x38c13n x38c13c) ∧ ∃ (x38c14a : Option Addr) (x38c14n x38c14c : Nat), H19.cell ⟨x7b, 14, none⟩ = some (Value.slice x38c14a x38c14n x38c14c) ∧ ∃ x38c15 : Bool, H19.cell ⟨x7b, 15, none⟩ = some (Value.bool x38c15) ∧ NewW H19 (Obj.cells ⟨[(Value.int .u32 x38c0), (Value.int .i64 x38c1), (Value.int .i64 x38c2), (Value.slice x38c3a x38c3n x38c3c), (Value.int .u32 x38c4), (Value.bool x38c5), (Value.int .u32 x38c6), (Value.bool x38c7), (Value.int .u32 x38c8), (Value.bool x38c9), (Value.bool x38c10), (Value.int .u32 x38c11), (Value.int .u32 x38c12), (Value.slice x38c13a x38c13n x38c13c), (Value.slice x38c14a x38c14n x38c14c), (Value.bool x38c15)]⟩ T_view_Change) fun x39b H25 =>
 NewW H25 (Obj.cells ⟨[(Value.slice (some ⟨x39b, 0, none⟩) 1 1)]⟩ T_sl_view_Change) fun x40b H26 =>
 AppW Try.prog #[T_sl_sl_view_Change, T_sl_sl_view_Change] T_sl_sl_view_Change [(Value.slice out5a out5n out5c), (Value.slice (some ⟨x40b, 0, none⟩) 1 1)] H26 fun x41v H27 =>
 ∃ (x41a : Option Addr) (x41n x41c : Nat), x41v = (Value.slice x41a x41n x41c) ∧
 pack_groupsaview_Change_j0 f l0a l0n l0c x12 next3 next6 x41a x41n x41c H27 R)
def pack_groupsaview_Change_l3 (f : FuncId) (l0a : Option Addr) (l0n : Nat) (l0c : Nat) (out5a : Option Addr) (out5n : Nat) (out5c : Nat) (x12 : Int) (H1 : Heap) (next3 : ((Option Addr × Nat × Nat) × Int × Unit) → Heap → Prop) (R : Value → Heap → Prop) : Prop :=
 IfB (decide ((x12 : Int) < (l0n : Int)))
 (NilP l0a fun x14q =>
 InB x12 l0n fun x14i =>
 elemAt x14q x14i 16 fun x14p =>
 ∃ x15c0 : Int, H1.cell x14p = some (Value.int .u32 x15c0) ∧ ∃ x15c1 : Int, H1.cell ⟨x14p.block, x14p.off + 1, none⟩ = some (Value.int .i64 x15c1) ∧ ∃ x15c2 : Int, H1.cell ⟨x14p.block, x14p.off + 2, none⟩ = some (Value.int .i64 x15c2) ∧ ∃ (x15c3a : Option Addr) (x15c3n x15c3c : Nat), H1.cell ⟨x14p.block, x14p.off + 3, none⟩ = some (Value.slice x15c3a x15c3n x15c3c) ∧ ∃ x15c4 : Int, H1.cell ⟨x14p.block, x14p.off + 4, none⟩ = some (Value.int .u32 x15c4) ∧ ∃ x15c5 : Bool, H1.cell ⟨x14p.block, x14p.off + 5, none⟩ = some (Value.bool x15c5) ∧ ∃ x15c6 : Int, H1.cell ⟨x14p.block, x14p.off + 6, none⟩ = some (Value.int .u32 x15c6) ∧ ∃ x15c7 : Bool, H1.cell ⟨x14p.block, x14p.off + 7, none⟩ = some (Value.bool x15c7) ∧ ∃ x15c8 : Int, H1.cell ⟨x14p.block, x14p.off + 8, none⟩ = some (Value.int .u32 x15c8) ∧ ∃ x15c9 : Bool, H1.cell ⟨x14p.block, x14p.off + 9, none⟩ = some (Value.bool x15c9) ∧ ∃ x15c10 : Bool, H1.cell ⟨x14p.block, x14p.off + 10, none⟩ = some (Value.bool x15c10) ∧ ∃ x15c11 : Int, H1.cell ⟨x14p.block, x14p.off + 11, none⟩ = some (Value.int .u32 x15c11) ∧ ∃ x15c12 : Int, H1.cell ⟨x14p.block, x14p.off + 12, none⟩ = some (Value.int .u32 x15c12) ∧ ∃ (x15c13a : Option Addr) (x15c13n x15c13c : Nat), H1.cell ⟨x14p.block, x14p.off + 13, none⟩ = some (Value.slice x15c13a x15c13n x15c13c) ∧ ∃ (x15c14a : Option Addr) (x15c14n x15c14c : Nat), H1.cell ⟨x14p.block, x14p.off + 14, none⟩ = some (Value.slice x15c14a x15c14n x15c14c) ∧ ∃ x15c15 : Bool, H1.cell ⟨x14p.block, x14p.off + 15, none⟩ = some (Value.bool x15c15) ∧ NewW H1 (Obj.cells ⟨[(Value.int .u32 0), (Value.int .i64 0), (Value.int .i64 0), (Value.slice none 0 0), (Value.int .u32 0), (Value.bool false), (Value.int .u32 0), (Value.bool false), (Value.int .u32 0), (Value.bool false), (Value.bool false), (Value.int .u32 0), (Value.int .u32 0), (Value.slice none 0 0), (Value.slice none 0 0), (Value.bool false)]⟩ T_view_Change) fun x7b H2 =>
 StCell H2 ⟨x7b, 0, none⟩ (Value.int .u32 x15c0) fun H3 =>
 StCell H3 ⟨x7b, 1, none⟩ (Value.int .i64 x15c1) fun H4 =>
 StCell H4 ⟨x7b, 2, none⟩ (Value.int .i64 x15c2) fun H5 =>
 StCell H5 ⟨x7b, 3, none⟩ (Value.slice x15c3a x15c3n x15c3c) fun H6 =>
 StCell H6 ⟨x7b, 4, none⟩ (Value.int .u32 x15c4) fun H7 =>
 StCell H7 ⟨x7b, 5, none⟩ (Value.bool x15c5) fun H8 =>
 StCell H8 ⟨x7b, 6, none⟩ (Value.int .u32 x15c6) fun H9 =>
 StCell H9 ⟨x7b, 7, none⟩ (Value.bool x15c7) fun H10 =>
 StCell H10 ⟨x7b, 8, none⟩ (Value.int .u32 x15c8) fun H11 =>
 StCell H11 ⟨x7b, 9, none⟩ (Value.bool x15c9) fun H12 =>
 StCell H12 ⟨x7b, 10, none⟩ (Value.bool x15c10) fun H13 =>
 StCell H13 ⟨x7b, 11, none⟩ (Value.int .u32 x15c11) fun H14 =>
 StCell H14 ⟨x7b, 12, none⟩ (Value.int .u32 x15c12) fun H15 =>
 StCell H15 ⟨x7b, 13, none⟩ (Value.slice x15c13a x15c13n x15c13c) fun H16 =>
 StCell H16 ⟨x7b, 14, none⟩ (Value.slice x15c14a x15c14n x15c14c) fun H17 =>
 StCell H17 ⟨x7b, 15, none⟩ (Value.bool x15c15) fun H18 =>
 LoopI (Int × Unit) (0, ()) H18 fun x H next => ∀ _g : Env, pack_groupsaview_Change_l6 f out5a out5n out5c x7b l0a l0n l0c x12 next3 x.1 H next R)
 (R (Value.slice out5a out5n out5c) H1)
def pack_groupsaview_Change_p (l0a : Option Addr) (l0n : Nat) (l0c : Nat) (f : FuncId) (H : Heap) (R : Value → Heap → Prop) : Prop :=
 LoopI ((Option Addr × Nat × Nat) × Int × Unit) ((none, 0, 0), (0, ())) H fun x H next => ∀ _g : Env, pack_groupsaview_Change_l3 f l0a l0n l0c x.1.1 x.1.2.1 x.1.2.2 x.2.1 H next R
theorem pack_groupsaview_Change_eq (l0a : Option Addr) (l0n : Nat) (l0c : Nat) (f : FuncId) (H : Heap) (R : Value → Heap → Prop) : pack_groupsaview_Change_p l0a l0n l0c f H R = CodeW Try.prog hplan_pack_groupsaview_Change (bodyOf Try.f22) (env0 [(Value.slice l0a l0n l0c), (Value.func (.func f) #[] #[])]) H (RetW Try.prog Try.f22.results.toList R) := by kernel_rfl
theorem pack_groupsaview_Change_sh (l0a : Option Addr) (l0n : Nat) (l0c : Nat) (f : FuncId) {H : Heap} {R : Value → Heap → Prop} (h : pack_groupsaview_Change_p l0a l0n l0c f H fun v H1 => ∀ H2, Shut H H1 H2 → R v H2) : FnW Try.prog f_pack_groupsaview_Change ⟨[(Value.slice l0a l0n l0c), (Value.func (.func f) #[] #[])]⟩ H R := FnW.of_code hk_pack_groupsaview_Change (by kernel_rfl) (Eq.mp (pack_groupsaview_Change_eq l0a l0n l0c f H _) h)
def hplan_pack_parts_1 : Plan := ⟨[(5, [0, 1, 2, 5, 3, 4, 6], [19])], [(3, [4, 5, 10], [.slice, .int .i64, .int .i64], [0, 2, 8, 9])], [], []⟩
theorem hk_pack_parts_1 : Known Try.prog f_pack_parts_1 Try.f36 hplan_pack_parts_1 (bodyOf Try.f36) := by refine ⟨Try.func36, ?_, ?_, ?_, ?_, ?_⟩ <;> kernel_rfl
def pack_parts_1_j0 (l : Nat) (b2 : Nat) (c7b : Nat) (x8a : Option Addr) (x8n : Nat) (x8c : Nat) (x10 : Int) (next3 : ((Option Addr × Nat × Nat) × Int × Int × Unit) → Heap → Prop) (now4a_1 : Option Addr) (now4n_1 : Nat) (now4c_1 : Nat) (n5_1 : Int) (H21 : Heap) (R : Value → Heap → Prop) : Prop :=
 ∃ x27c0 : Int, H21.cell ⟨c7b, 0, none⟩ = some (Value.int .u32 x27c0) ∧ ∃ x27c1 : Int, H21.cell ⟨c7b, 1, none⟩ = some (Value.int .i64 x27c1) ∧ NewW H21 (Obj.cells ⟨[(Value.int .u32 x27c0), (Value.int .i64 x27c1)]⟩ T_api_Prefix) fun x28b H22 =>
 AppW Try.prog #[T_sl_api_Prefix, T_sl_api_Prefix] T_sl_api_Prefix [(Value.slice now4a_1 now4n_1 now4c_1), (Value.slice (some ⟨x28b, 0, none⟩) 1 1)] H22 fun x29v H23 =>
 ∃ (x29a : Option Addr) (x29n x29c : Nat), x29v = (Value.slice x29a x29n x29c) ∧
 ∃ x32c0 : Int, H23.cell ⟨c7b, 0, none⟩ = some (Value.int .u32 x32c0) ∧ ∃ x32c1 : Int, H23.cell ⟨c7b, 1, none⟩ = some (Value.int .i64 x32c1) ∧ FnW Try.prog f_pack_size ⟨[(Value.agg ⟨[(Value.int .u32 x32c0), (Value.int .i64 x32c1)]⟩)]⟩ H23 fun x33v H24 =>
 ∃ x33 : Int, x33v = (Value.int .i64 x33) ∧
 next3 ((x29a, x29n, x29c), ((IntKind.wrap .i64 (n5_1 + x33)), ((IntKind.wrap .i64 (x10 + 1)), ()))) H24
def pack_parts_1_l3 (l : Nat) (b2 : Nat) (x8a : Option Addr) (x8n : Nat) (x8c : Nat) (now4a : Option Addr) (now4n : Nat) (now4c : Nat) (n5 : Int) (x10 : Int) (H1 : Heap) (next3 : ((Option Addr × Nat × Nat) × Int × Int × Unit) → Heap → Prop) (R : Value → Heap → Prop) : Prop :=
 IfB (decide ((x10 : Int) < (x8n : Int)))
 (NilP x8a fun x12q =>
 InB x10 x8n fun x12i =>
 elemAt x12q x12i 16 fun x12p =>
 ∃ x13c0 : Int, H1.cell x12p = some (Value.int .u32 x13c0) ∧ ∃ x13c1 : Int, H1.cell ⟨x12p.block, x12p.off + 1, none⟩ = some (Value.int .i64 x13c1) ∧ ∃ x13c2 : Int, H1.cell ⟨x12p.block, x12p.off + 2, none⟩ = some (Value.int .i64 x13c2) ∧ ∃ (x13c3a : Option Addr) (x13c3n x13c3c : Nat), H1.cell ⟨x12p.block, x12p.off + 3, none⟩ = some (Value.slice x13c3a x13c3n x13c3c) ∧ ∃ x13c4 : Int, H1.cell ⟨x12p.block, x12p.off + 4, none⟩ = some (Value.int .u32 x13c4) ∧ ∃ x13c5 : Bool, H1.cell ⟨x12p.block, x12p.off + 5, none⟩ = some (Value.bool x13c5) ∧ ∃ x13c6 : Int, H1.cell ⟨x12p.block, x12p.off + 6, none⟩ = some (Value.int .u32 x13c6) ∧ ∃ x13c7 : Bool, H1.cell ⟨x12p.block, x12p.off + 7, none⟩ = some (Value.bool x13c7) ∧ ∃ x13c8 : Int, H1.cell ⟨x12p.block, x12p.off + 8, none⟩ = some (Value.int .u32 x13c8) ∧ ∃ x13c9 : Bool, H1.cell ⟨x12p.block, x12p.off + 9, none⟩ = some (Value.bool x13c9) ∧ ∃ x13c10 : Bool, H1.cell ⟨x12p.block, x12p.off + 10, none⟩ = some (Value.bool x13c10) ∧ ∃ x13c11 : Int, H1.cell ⟨x12p.block, x12p.off + 11, none⟩ = some (Value.int .u32 x13c11) ∧ ∃ x13c12 : Int, H1.cell ⟨x12p.block, x12p.off + 12, none⟩ = some (Value.int .u32 x13c12) ∧ ∃ (x13c13a : Option Addr) (x13c13n x13c13c : Nat), H1.cell ⟨x12p.block, x12p.off + 13, none⟩ = some (Value.slice x13c13a x13c13n x13c13c) ∧ ∃ (x13c14a : Option Addr) (x13c14n x13c14c : Nat), H1.cell ⟨x12p.block, x12p.off + 14, none⟩ = some (Value.slice x13c14a x13c14n x13c14c) ∧ ∃ x13c15 : Bool, H1.cell ⟨x12p.block, x12p.off + 15, none⟩ = some (Value.bool x13c15) ∧ NewW H1 (Obj.cells ⟨[(Value.int .u32 0), (Value.int .i64 0), (Value.int .i64 0), (Value.slice none 0 0), (Value.int .u32 0), (Value.bool false), (Value.int .u32 0), (Value.bool false), (Value.int .u32 0), (Value.bool false), (Value.bool false), (Value.int .u32 0), (Value.int .u32 0), (Value.slice none 0 0), (Value.slice none 0 0), (Value.bool false)]⟩ T_view_Change) fun c7b H2 =>
 StCell H2 ⟨c7b, 0, none⟩ (Value.int .u32 x13c0) fun H3 =>
 StCell H3 ⟨c7b, 1, none⟩ (Value.int .i64 x13c1) fun H4 =>
 StCell H4 ⟨c7b, 2, none⟩ (Value.int .i64 x13c2) fun H5 =>
 StCell H5 ⟨c7b, 3, none⟩ (Value.slice x13c3a x13c3n x13c3c) fun H6 =>
 StCell H6 ⟨c7b, 4, none⟩ (Value.int .u32 x13c4) fun H7 =>
 StCell H7 ⟨c7b, 5, none⟩ (Value.bool x13c5) fun H8 =>
 StCell H8 ⟨c7b, 6, none⟩ (Value.int .u32 x13c6) fun H9 =>
 StCell H9 ⟨c7b, 7, none⟩ (Value.bool x13c7) fun H10 =>
 StCell H10 ⟨c7b, 8, none⟩ (Value.int .u32 x13c8) fun H11 =>
 StCell H11 ⟨c7b, 9, none⟩ (Value.bool x13c9) fun H12 =>
 StCell H12 ⟨c7b, 10, none⟩ (Value.bool x13c10) fun H13 =>
 StCell H13 ⟨c7b, 11, none⟩ (Value.int .u32 x13c11) fun H14 =>
 StCell H14 ⟨c7b, 12, none⟩ (Value.int .u32 x13c12) fun H15 =>
 StCell H15 ⟨c7b, 13, none⟩ (Value.slice x13c13a x13c13n x13c13c) fun H16 =>
 StCell H16 ⟨c7b, 14, none⟩ (Value.slice x13c14a x13c14n x13c14c) fun H17 =>
 StCell H17 ⟨c7b, 15, none⟩ (Value.bool x13c15) fun H18 =>
 ∃ bs : List Nat, (∀ b ∈ bs, ∃ o, H18 b = some o) ∧
 ∃ x16c0 : Int, H18.cell ⟨c7b, 0, none⟩ = some (Value.int .u32 x16c0) ∧ ∃ x16c1 : Int, H18.cell ⟨c7b, 1, none⟩ = some (Value.int .i64 x16c1) ∧ b2 ∈ bs ∧ ∃ x19 : Int, H18.cell ⟨b2, 0, none⟩ = some (Value.int .i64 x19) ∧
 FnW Try.prog f_pack_size ⟨[(Value.agg ⟨[(Value.int .u32 x16c0), (Value.int .i64 x16c1)]⟩)]⟩ H18 fun x17v H19 =>
 ∃ x17 : Int, x17v = (Value.int .i64 x17) ∧
 KeptIn bs H18 H19 ∧ IfB (decide (((IntKind.wrap .i64 (n5 + x17)) : Int) > x19))
 (YieldW Try.prog l [(Value.slice now4a now4n now4c)] H19 fun x23v H20 =>
 ∃ x23 : Bool, x23v = (Value.bool x23) ∧
 IfB (!x23)
 (R (Value.tuple ⟨[]⟩) H20)
 (pack_parts_1_j0 l b2 c7b x8a x8n x8c x10 next3 none 0 0 0 H20 R))
 (pack_parts_1_j0 l b2 c7b x8a x8n x8c x10 next3 now4a now4n now4c n5 H19 R))
 (IfB (decide (((now4n : Int) : Int) > 0))
 (YieldW Try.prog l [(Value.slice now4a now4n now4c)] H1 fun x41v H25 =>
 ∃ x41 : Bool, x41v = (Value.bool x41) ∧
 R (Value.tuple ⟨[]⟩) H25)
 (R (Value.tuple ⟨[]⟩) H1))
def pack_parts_1_p (l : Nat) (b1 : Nat) (b2 : Nat) (H : Heap) (R : Value → Heap → Prop) : Prop :=
 ∃ (x8a : Option Addr) (x8n x8c : Nat), H.cell ⟨b1, 0, none⟩ = some (Value.slice x8a x8n x8c) ∧
 LoopI ((Option Addr × Nat × Nat) × Int × Int × Unit) ((none, 0, 0), (0, (0, ()))) H fun x H next => ∀ _g : Env, pack_parts_1_l3 l b2 x8a x8n x8c x.1.1 x.1.2.1 x.1.2.2 x.2.1 x.2.2.1 H next R
theorem pack_parts_1_eq (l : Nat) (b1 : Nat) (b2 : Nat) (H : Heap) (R : Value → Heap → Prop) : pack_parts_1_p l b1 b2 H R = CodeW Try.prog hplan_pack_parts_1 (bodyOf Try.f36) (env0 [(Value.func (.yield l) #[] #[]), (Value.pointer (some ⟨b1, 0, none⟩)), (Value.pointer (some ⟨b2, 0, none⟩))]) H (RetW Try.prog Try.f36.results.toList R) := by kernel_rfl
theorem pack_parts_1_sh (l : Nat) (b1 : Nat) (b2 : Nat) {H : Heap} {R : Value → Heap → Prop} (h : pack_parts_1_p l b1 b2 H fun v H1 => ∀ H2, Shut H H1 H2 → R v H2) : FnW Try.prog f_pack_parts_1 ⟨[(Value.func (.yield l) #[] #[]), (Value.pointer (some ⟨b1, 0, none⟩)), (Value.pointer (some ⟨b2, 0, none⟩))]⟩ H R := FnW.of_code hk_pack_parts_1 (by kernel_rfl) (Eq.mp (pack_parts_1_eq l b1 b2 H _) h)
end Go.Proofs.Ytgdkenndkhnkdaa
