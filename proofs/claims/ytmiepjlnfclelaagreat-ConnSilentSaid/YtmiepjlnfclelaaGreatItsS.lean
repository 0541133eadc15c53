/-
  SOME FUNCTIONS IN PLAIN LOGIC: printed by a program of ours over this translation.
-/
import Derived.Test.YtmiepjlnfclelaaGreatNum
import Derived.Test.YtmiepjlnfclelaaGreatRows
set_option maxRecDepth 100000
set_option linter.unusedVariables false
namespace Go.Proofs.YtmiepjlnfclelaaGreat
open Go.Sh
def hplan_ref15_Dial : Plan := ⟨[], [], [], []⟩
theorem hk_ref15_Dial : Known Tryz.prog f_ref15_Dial Tryz.f11 hplan_ref15_Dial (bodyOf Tryz.f11) := ⟨Tryz.func11, by kernel_rfl, by kernel_rfl, by kernel_rfl, by kernel_rfl, by kernel_rfl⟩
def ref15_Dial_j0 (now0 : Int) (from1 : Int) (to2 : Int) (first3 : Int) (x24 : Bool) (H2 : Heap) (R : Value → Heap → Prop) : Prop :=
 IfB x24
 (R (Value.tuple ⟨[(Value.pointer none), (Value.slice none 0 0), (Value.int .i64 2)]⟩) H2)
 (NewW H2 (Obj.cells ⟨[(Value.int .i64 1), (Value.int .i64 from1), (Value.int .i64 to2), (Value.int .u32 first3), (Value.pointer none), (Value.pointer none), (Value.bool false), (Value.bool false), (Value.bool false), (Value.bool false), (Value.int .i64 now0), (Value.int .i64 (-1))]⟩ T_ref15_Conn) fun x30b H3 =>
 FnW Tryz.prog f_ref10_Add ⟨[(Value.int .u32 first3), (Value.int .i64 1)]⟩ H3 fun x34v H4 =>
 ∃ x34 : Int, x34v = (Value.int .u32 x34) ∧
 FnW Tryz.prog f_ref14_New ⟨[(Value.int .u32 x34), (Value.int .i64 4096), (Value.int .i64 0), (Value.int .i64 536)]⟩ H4 fun x35v H5 =>
 ∃ x35r0 : Option Addr, ∃ x35r1 : Int, x35v = (Value.tuple ⟨[(Value.pointer x35r0), (Value.int .i64 x35r1)]⟩) ∧
 StCell H5 ⟨x30b, 4, none⟩ (Value.pointer x35r0) fun H6 =>
 FnW Tryz.prog f_ref15_Conn_syn ⟨[(Value.pointer (some ⟨x30b, 0, none⟩))]⟩ H6 fun x41v H7 =>
 ∃ x41c0 : Int, ∃ x41c1 : Int, ∃ x41c2 : Int, ∃ x41c3 : Int, ∃ x41c4 : Int, ∃ x41c5 : Int, ∃ x41c6 : Int, ∃ x41c7 : Int, ∃ (x41c8a : Option Addr) (x41c8n x41c8c : Nat), x41v = (Value.agg ⟨[(Value.int .i64 x41c0), (Value.int .i64 x41c1), (Value.int .u32 x41c2), (Value.int .u32 x41c3), (Value.int .i64 x41c4), (Value.int .i64 x41c5), (Value.int .i64 x41c6), (Value.int .i64 x41c7), (Value.slice x41c8a x41c8n x41c8c)]⟩) ∧
 NewW H7 (Obj.cells ⟨[(Value.int .i64 x41c0), (Value.int .i64 x41c1), (Value.int .u32 x41c2), (Value.int .u32 x41c3), (Value.int .i64 x41c4), (Value.int .i64 x41c5), (Value.int .i64 x41c6), (Value.int .i64 x41c7), (Value.slice x41c8a x41c8n x41c8c)]⟩ T_ref11_Segment) fun x42b H8 =>
 FnW Tryz.prog f_ref15_Conn_arm ⟨[(Value.pointer (some ⟨x30b, 0, none⟩))]⟩ H8 fun x44v H9 =>
 x44v = (Value.tuple ⟨[]⟩) ∧
 R (Value.tuple ⟨[(Value.pointer (some ⟨x30b, 0, none⟩)), (Value.slice (some ⟨x42b, 0, none⟩) 1 1), (Value.int .i64 0)]⟩) H9)
def ref15_Dial_p (now0 : Int) (from1 : Int) (to2 : Int) (first3 : Int) (H : Heap) (R : Value → Heap → Prop) : Prop :=
 FnW Tryz.prog f_ref15_port ⟨[(Value.int .i64 from1)]⟩ H fun x14v H1 =>
 ∃ x14 : Bool, x14v = (Value.bool x14) ∧
 IfB (!x14)
 (ref15_Dial_j0 now0 from1 to2 first3 true H1 R)
 (FnW Tryz.prog f_ref15_port ⟨[(Value.int .i64 to2)]⟩ H1 fun x18v H10 =>
 ∃ x18 : Bool, x18v = (Value.bool x18) ∧
 IfB (!x18)
 (ref15_Dial_j0 now0 from1 to2 first3 true H10 R)
 (ref15_Dial_j0 now0 from1 to2 first3 (decide ((now0 : Int) < 0)) H10 R))
theorem ref15_Dial_heq (now0 : Int) (from1 : Int) (to2 : Int) (first3 : Int) (H : Heap) (R : Value → Heap → Prop) : ref15_Dial_p now0 from1 to2 first3 H R = CodeW Tryz.prog hplan_ref15_Dial (bodyOf Tryz.f11) (env0 [(Value.int .i64 now0), (Value.int .i64 from1), (Value.int .i64 to2), (Value.int .u32 first3)]) H (RetW Tryz.prog Tryz.f11.results.toList R) := by kernel_rfl
theorem ref15_Dial_sh (now0 : Int) (from1 : Int) (to2 : Int) (first3 : Int) {H : Heap} {R : Value → Heap → Prop} (h : ref15_Dial_p now0 from1 to2 first3 H fun v H1 => ∀ H2, Shut H H1 H2 → R v H2) : FnW Tryz.prog f_ref15_Dial ⟨[(Value.int .i64 now0), (Value.int .i64 from1), (Value.int .i64 to2), (Value.int .u32 first3)]⟩ H R := FnW.of_code hk_ref15_Dial (by kernel_rfl) (Eq.mp (ref15_Dial_heq now0 from1 to2 first3 H _) h)
def hplan_ref15_Conn_Abort : Plan := ⟨[], [], [], []⟩
theorem hk_ref15_Conn_Abort : Known Tryz.prog f_ref15_Conn_Abort Tryz.f13 hplan_ref15_Conn_Abort (bodyOf Tryz.f13) := ⟨Tryz.func13, by kernel_rfl, by kernel_rfl, by kernel_rfl, by kernel_rfl, by kernel_rfl⟩
def ref15_Conn_Abort_j1 (c0b : Nat) (out6a : Option Addr) (out6n : Nat) (out6c : Nat) (H8 : Heap) (R : Value → Heap → Prop) : Prop :=
 FnW Tryz.prog f_ref15_Conn_die ⟨[(Value.pointer (some ⟨c0b, 0, none⟩))]⟩ H8 fun x38v H9 =>
 x38v = (Value.tuple ⟨[]⟩) ∧
 R (Value.tuple ⟨[(Value.slice out6a out6n out6c), (Value.int .i64 0)]⟩) H9
def ref15_Conn_Abort_j0 (c0b : Nat) (x17b : Nat) (x29 : Bool) (H3 : Heap) (R : Value → Heap → Prop) : Prop :=
 IfB x29
 (FnW Tryz.prog f_ref15_Conn_Last ⟨[(Value.pointer (some ⟨c0b, 0, none⟩))]⟩ H3 fun x33v H4 =>
 ∃ x33 : Int, x33v = (Value.int .u32 x33) ∧
 FnW Tryz.prog f_ref15_Conn_segment ⟨[(Value.pointer (some ⟨c0b, 0, none⟩)), (Value.int .u32 x33), (Value.int .i64 20), (Value.slice none 0 0)]⟩ H4 fun x34v H5 =>
 ∃ x34c0 : Int, ∃ x34c1 : Int, ∃ x34c2 : Int, ∃ x34c3 : Int, ∃ x34c4 : Int, ∃ x34c5 : Int, ∃ x34c6 : Int, ∃ x34c7 : Int, ∃ (x34c8a : Option Addr) (x34c8n x34c8c : Nat), x34v = (Value.agg ⟨[(Value.int .i64 x34c0), (Value.int .i64 x34c1), (Value.int .u32 x34c2), (Value.int .u32 x34c3), (Value.int .i64 x34c4), (Value.int .i64 x34c5), (Value.int .i64 x34c6), (Value.int .i64 x34c7), (Value.slice x34c8a x34c8n x34c8c)]⟩) ∧
 NewW H5 (Obj.cells ⟨[(Value.int .i64 x34c0), (Value.int .i64 x34c1), (Value.int .u32 x34c2), (Value.int .u32 x34c3), (Value.int .i64 x34c4), (Value.int .i64 x34c5), (Value.int .i64 x34c6), (Value.int .i64 x34c7), (Value.slice x34c8a x34c8n x34c8c)]⟩ T_ref11_Segment) fun x35b H6 =>
 AppW Tryz.prog #[T_sl_pointsmanref11_Segment, T_sl_pointsmanref11_Segment] T_sl_pointsmanref11_Segment [(Value.slice (some ⟨x17b, 0, none⟩) 0 0), (Value.slice (some ⟨x35b, 0, none⟩) 1 1)] H6 fun x36v H7 =>
 ∃ (x36a : Option Addr) (x36n x36c : Nat), x36v = (Value.slice x36a x36n x36c) ∧
 ref15_Conn_Abort_j1 c0b x36a x36n x36c H7 R)
 (ref15_Conn_Abort_j1 c0b (some ⟨x17b, 0, none⟩) 0 0 H3 R)
def ref15_Conn_Abort_p (c0b : Nat) (now1 : Int) (H : Heap) (R : Value → Heap → Prop) : Prop :=
 ∃ x11 : Int, H.cell ⟨c0b, 10, none⟩ = some (Value.int .i64 x11) ∧
 IfB (decide ((now1 : Int) < x11))
 (R (Value.tuple ⟨[(Value.slice none 0 0), (Value.int .i64 2)]⟩) H)
 (StCell H ⟨c0b, 10, none⟩ (Value.int .i64 now1) fun H1 =>
 NewW H1 (Obj.cells ⟨[]⟩ T_ref11_Segment) fun x17b H2 =>
 ∃ x21 : Int, H2.cell ⟨c0b, 0, none⟩ = some (Value.int .i64 x21) ∧
 IfB (decide ((x21 : Int) ≥ 2))
 (∃ x27 : Int, H2.cell ⟨c0b, 0, none⟩ = some (Value.int .i64 x27) ∧
 ref15_Conn_Abort_j0 c0b x17b (decide ((x27 : Int) ≤ 8)) H2 R)
 (ref15_Conn_Abort_j0 c0b x17b false H2 R))
theorem ref15_Conn_Abort_heq (c0b : Nat) (now1 : Int) (H : Heap) (R : Value → Heap → Prop) : ref15_Conn_Abort_p c0b now1 H R = CodeW Tryz.prog hplan_ref15_Conn_Abort (bodyOf Tryz.f13) (env0 [(Value.pointer (some ⟨c0b, 0, none⟩)), (Value.int .i64 now1)]) H (RetW Tryz.prog Tryz.f13.results.toList R) := by kernel_rfl
theorem ref15_Conn_Abort_sh (c0b : Nat) (now1 : Int) {H : Heap} {R : Value → Heap → Prop} (h : ref15_Conn_Abort_p c0b now1 H fun v H1 => ∀ H2, Shut H H1 H2 → R v H2) : FnW Tryz.prog f_ref15_Conn_Abort ⟨[(Value.pointer (some ⟨c0b, 0, none⟩)), (Value.int .i64 now1)]⟩ H R := FnW.of_code hk_ref15_Conn_Abort (by kernel_rfl) (Eq.mp (ref15_Conn_Abort_heq c0b now1 H _) h)
def hplan_law15_near : Plan := ⟨[(3, [0, 1, 2, 3, 4, 5, 6], [12])], [], [], []⟩
theorem hk_law15_near : Known Tryz.prog f_law15_near Tryz.f14 hplan_law15_near (bodyOf Tryz.f14) := ⟨Tryz.func14, by kernel_rfl, by kernel_rfl, by kernel_rfl, by kernel_rfl, by kernel_rfl⟩
def law15_near_s_j0 (x4b : Nat) (s5b : Nat) (H17 : Heap) (R : Value → Heap → Prop) : Prop :=
 ∃ x28c0 : Int, H17.cell ⟨s5b, 0, none⟩ = some (Value.int .i64 x28c0) ∧ ∃ x28c1 : Int, H17.cell ⟨s5b, 1, none⟩ = some (Value.int .i64 x28c1) ∧ ∃ x28c2 : Int, H17.cell ⟨s5b, 2, none⟩ = some (Value.int .u32 x28c2) ∧ ∃ x28c3 : Int, H17.cell ⟨s5b, 3, none⟩ = some (Value.int .u32 x28c3) ∧ ∃ x28c4 : Int, H17.cell ⟨s5b, 4, none⟩ = some (Value.int .i64 x28c4) ∧ ∃ x28c5 : Int, H17.cell ⟨s5b, 5, none⟩ = some (Value.int .i64 x28c5) ∧ ∃ x28c6 : Int, H17.cell ⟨s5b, 6, none⟩ = some (Value.int .i64 x28c6) ∧ ∃ x28c7 : Int, H17.cell ⟨s5b, 7, none⟩ = some (Value.int .i64 x28c7) ∧ ∃ (x28c8a : Option Addr) (x28c8n x28c8c : Nat), H17.cell ⟨s5b, 8, none⟩ = some (Value.slice x28c8a x28c8n x28c8c) ∧ StCell H17 ⟨x4b, 0, none⟩ (Value.int .i64 x28c0) fun H18 =>
 StCell H18 ⟨x4b, 1, none⟩ (Value.int .i64 x28c1) fun H19 =>
 StCell H19 ⟨x4b, 2, none⟩ (Value.int .u32 x28c2) fun H20 =>
 StCell H20 ⟨x4b, 3, none⟩ (Value.int .u32 x28c3) fun H21 =>
 StCell H21 ⟨x4b, 4, none⟩ (Value.int .i64 x28c4) fun H22 =>
 StCell H22 ⟨x4b, 5, none⟩ (Value.int .i64 x28c5) fun H23 =>
 StCell H23 ⟨x4b, 6, none⟩ (Value.int .i64 x28c6) fun H24 =>
 StCell H24 ⟨x4b, 7, none⟩ (Value.int .i64 x28c7) fun H25 =>
 StCell H25 ⟨x4b, 8, none⟩ (Value.slice x28c8a x28c8n x28c8c) fun H26 =>
 ∃ r0c0 : Int, H26.cell ⟨x4b, 0, none⟩ = some (Value.int .i64 r0c0) ∧ ∃ r0c1 : Int, H26.cell ⟨x4b, 1, none⟩ = some (Value.int .i64 r0c1) ∧ ∃ r0c2 : Int, H26.cell ⟨x4b, 2, none⟩ = some (Value.int .u32 r0c2) ∧ ∃ r0c3 : Int, H26.cell ⟨x4b, 3, none⟩ = some (Value.int .u32 r0c3) ∧ ∃ r0c4 : Int, H26.cell ⟨x4b, 4, none⟩ = some (Value.int .i64 r0c4) ∧ ∃ r0c5 : Int, H26.cell ⟨x4b, 5, none⟩ = some (Value.int .i64 r0c5) ∧ ∃ r0c6 : Int, H26.cell ⟨x4b, 6, none⟩ = some (Value.int .i64 r0c6) ∧ ∃ r0c7 : Int, H26.cell ⟨x4b, 7, none⟩ = some (Value.int .i64 r0c7) ∧ ∃ (r0c8a : Option Addr) (r0c8n r0c8c : Nat), H26.cell ⟨x4b, 8, none⟩ = some (Value.slice r0c8a r0c8n r0c8c) ∧ R (Value.agg ⟨[(Value.int .i64 r0c0), (Value.int .i64 r0c1), (Value.int .u32 r0c2), (Value.int .u32 r0c3), (Value.int .i64 r0c4), (Value.int .i64 r0c5), (Value.int .i64 r0c6), (Value.int .i64 r0c7), (Value.slice r0c8a r0c8n r0c8c)]⟩) H26
def law15_near_s_p (y0b : Nat) (a1c0 : Int) (a1c1 : Int) (a1c2 : Int) (a1c3 : Int) (a1c4 : Int) (a1c5 : Int) (a1c6 : Int) (a1c7 : Int) (a1c8 : Int) (a1c9 : Int) (a1c10 : Int) (a1c11a : Option Addr) (a1c11n : Nat) (a1c11c : Nat) (a1c12 : Bool) (a1c13a : Option Addr) (a1c13n : Nat) (a1c13c : Nat) (H : Heap) (R : Value → Heap → Prop) : Prop :=
 NewW H (Obj.cells ⟨[(Value.int .i64 a1c0), (Value.int .i64 a1c1), (Value.int .i64 a1c2), (Value.int .i64 a1c3), (Value.int .i64 a1c4), (Value.int .u32 a1c5), (Value.int .u32 a1c6), (Value.int .i64 a1c7), (Value.int .i64 a1c8), (Value.int .i64 a1c9), (Value.int .i64 a1c10), (Value.slice a1c11a a1c11n a1c11c), (Value.bool a1c12), (Value.slice a1c13a a1c13n a1c13c)]⟩ T_law15_Act) fun a3b H1 =>
 NewW H1 (Obj.cells ⟨[(Value.int .i64 0), (Value.int .i64 0), (Value.int .u32 0), (Value.int .u32 0), (Value.int .i64 0), (Value.int .i64 0), (Value.int .i64 0), (Value.int .i64 0), (Value.slice none 0 0)]⟩ T_seg_Segment) fun x4b H2 =>
 ∃ x7c0 : Int, H2.cell ⟨a3b, 3, none⟩ = some (Value.int .i64 x7c0) ∧ ∃ x7c1 : Int, H2.cell ⟨a3b, 4, none⟩ = some (Value.int .i64 x7c1) ∧ ∃ x7c2 : Int, H2.cell ⟨a3b, 5, none⟩ = some (Value.int .u32 x7c2) ∧ ∃ x7c3 : Int, H2.cell ⟨a3b, 6, none⟩ = some (Value.int .u32 x7c3) ∧ ∃ x7c4 : Int, H2.cell ⟨a3b, 7, none⟩ = some (Value.int .i64 x7c4) ∧ ∃ x7c5 : Int, H2.cell ⟨a3b, 8, none⟩ = some (Value.int .i64 x7c5) ∧ ∃ x7c6 : Int, H2.cell ⟨a3b, 9, none⟩ = some (Value.int .i64 x7c6) ∧ ∃ x7c7 : Int, H2.cell ⟨a3b, 10, none⟩ = some (Value.int .i64 x7c7) ∧ ∃ (x7c8a : Option Addr) (x7c8n x7c8c : Nat), H2.cell ⟨a3b, 11, none⟩ = some (Value.slice x7c8a x7c8n x7c8c) ∧ FnW Tryz.prog f_law15_few ⟨[(Value.agg ⟨[(Value.int .i64 x7c0), (Value.int .i64 x7c1), (Value.int .u32 x7c2), (Value.int .u32 x7c3), (Value.int .i64 x7c4), (Value.int .i64 x7c5), (Value.int .i64 x7c6), (Value.int .i64 x7c7), (Value.slice x7c8a x7c8n x7c8c)]⟩)]⟩ H2 fun x8v H3 =>
 ∃ x8c0 : Int, ∃ x8c1 : Int, ∃ x8c2 : Int, ∃ x8c3 : Int, ∃ x8c4 : Int, ∃ x8c5 : Int, ∃ x8c6 : Int, ∃ x8c7 : Int, ∃ (x8c8a : Option Addr) (x8c8n x8c8c : Nat), x8v = (Value.agg ⟨[(Value.int .i64 x8c0), (Value.int .i64 x8c1), (Value.int .u32 x8c2), (Value.int .u32 x8c3), (Value.int .i64 x8c4), (Value.int .i64 x8c5), (Value.int .i64 x8c6), (Value.int .i64 x8c7), (Value.slice x8c8a x8c8n x8c8c)]⟩) ∧
 NewW H3 (Obj.cells ⟨[(Value.int .i64 0), (Value.int .i64 0), (Value.int .u32 0), (Value.int .u32 0), (Value.int .i64 0), (Value.int .i64 0), (Value.int .i64 0), (Value.int .i64 0), (Value.slice none 0 0)]⟩ T_seg_Segment) fun s5b H4 =>
 StCell H4 ⟨s5b, 0, none⟩ (Value.int .i64 x8c0) fun H5 =>
 StCell H5 ⟨s5b, 1, none⟩ (Value.int .i64 x8c1) fun H6 =>
 StCell H6 ⟨s5b, 2, none⟩ (Value.int .u32 x8c2) fun H7 =>
 StCell H7 ⟨s5b, 3, none⟩ (Value.int .u32 x8c3) fun H8 =>
 StCell H8 ⟨s5b, 4, none⟩ (Value.int .i64 x8c4) fun H9 =>
 StCell H9 ⟨s5b, 5, none⟩ (Value.int .i64 x8c5) fun H10 =>
 StCell H10 ⟨s5b, 6, none⟩ (Value.int .i64 x8c6) fun H11 =>
 StCell H11 ⟨s5b, 7, none⟩ (Value.int .i64 x8c7) fun H12 =>
 StCell H12 ⟨s5b, 8, none⟩ (Value.slice x8c8a x8c8n x8c8c) fun H13 =>
 ∃ x10 : Bool, H13.cell ⟨a3b, 12, none⟩ = some (Value.bool x10) ∧
 IfB x10
 (∃ bs : List Nat, (∀ b ∈ bs, ∃ o, H13 b = some o) ∧
 s5b ∈ bs ∧ ∃ x12 : Int, H13.cell ⟨s5b, 2, none⟩ = some (Value.int .u32 x12) ∧
 FnW Tryz.prog f_ref15_Conn_Wants ⟨[(Value.pointer (some ⟨y0b, 0, none⟩))]⟩ H13 fun x14v H14 =>
 ∃ x14 : Int, x14v = (Value.int .u32 x14) ∧
 KeptIn bs H13 H14 ∧ StCell H14 ⟨s5b, 2, none⟩ (Value.int .u32 (IntKind.wrap .u32 (x12 + x14))) fun H15 =>
 ∃ x18 : Int, H15.cell ⟨s5b, 3, none⟩ = some (Value.int .u32 x18) ∧
 ∃ x22 : Option Addr, H15.cell ⟨y0b, 4, none⟩ = some (Value.pointer x22) ∧
 NilP x22 fun x23p =>
 ∃ x25 : Int, H15.cell x23p = some (Value.int .u32 x25) ∧
 StCell H15 ⟨s5b, 3, none⟩ (Value.int .u32 (IntKind.wrap .u32 (x18 + x25))) fun H16 =>
 law15_near_s_j0 x4b s5b H16 R)
 (law15_near_s_j0 x4b s5b H13 R)
theorem law15_near_s_heq (y0b : Nat) (a1c0 : Int) (a1c1 : Int) (a1c2 : Int) (a1c3 : Int) (a1c4 : Int) (a1c5 : Int) (a1c6 : Int) (a1c7 : Int) (a1c8 : Int) (a1c9 : Int) (a1c10 : Int) (a1c11a : Option Addr) (a1c11n : Nat) (a1c11c : Nat) (a1c12 : Bool) (a1c13a : Option Addr) (a1c13n : Nat) (a1c13c : Nat) (H : Heap) (R : Value → Heap → Prop) : law15_near_s_p y0b a1c0 a1c1 a1c2 a1c3 a1c4 a1c5 a1c6 a1c7 a1c8 a1c9 a1c10 a1c11a a1c11n a1c11c a1c12 a1c13a a1c13n a1c13c H R = CodeW Tryz.prog hplan_law15_near (bodyOf Tryz.f14) (env0 [(Value.pointer (some ⟨y0b, 0, none⟩)), (Value.agg ⟨[(Value.int .i64 a1c0), (Value.int .i64 a1c1), (Value.int .i64 a1c2), (Value.int .i64 a1c3), (Value.int .i64 a1c4), (Value.int .u32 a1c5), (Value.int .u32 a1c6), (Value.int .i64 a1c7), (Value.int .i64 a1c8), (Value.int .i64 a1c9), (Value.int .i64 a1c10), (Value.slice a1c11a a1c11n a1c11c), (Value.bool a1c12), (Value.slice a1c13a a1c13n a1c13c)]⟩)]) H (RetW Tryz.prog Tryz.f14.results.toList R) := by kernel_rfl
theorem law15_near_s_sh (y0b : Nat) (a1c0 : Int) (a1c1 : Int) (a1c2 : Int) (a1c3 : Int) (a1c4 : Int) (a1c5 : Int) (a1c6 : Int) (a1c7 : Int) (a1c8 : Int) (a1c9 : Int) (a1c10 : Int) (a1c11a : Option Addr) (a1c11n : Nat) (a1c11c : Nat) (a1c12 : Bool) (a1c13a : Option Addr) (a1c13n : Nat) (a1c13c : Nat) {H : Heap} {R : Value → Heap → Prop} (h : law15_near_s_p y0b a1c0 a1c1 a1c2 a1c3 a1c4 a1c5 a1c6 a1c7 a1c8 a1c9 a1c10 a1c11a a1c11n a1c11c a1c12 a1c13a a1c13n a1c13c H fun v H1 => ∀ H2, Shut H H1 H2 → R v H2) : FnW Tryz.prog f_law15_near ⟨[(Value.pointer (some ⟨y0b, 0, none⟩)), (Value.agg ⟨[(Value.int .i64 a1c0), (Value.int .i64 a1c1), (Value.int .i64 a1c2), (Value.int .i64 a1c3), (Value.int .i64 a1c4), (Value.int .u32 a1c5), (Value.int .u32 a1c6), (Value.int .i64 a1c7), (Value.int .i64 a1c8), (Value.int .i64 a1c9), (Value.int .i64 a1c10), (Value.slice a1c11a a1c11n a1c11c), (Value.bool a1c12), (Value.slice a1c13a a1c13n a1c13c)]⟩)]⟩ H R := FnW.of_code hk_law15_near (by kernel_rfl) (Eq.mp (law15_near_s_heq y0b a1c0 a1c1 a1c2 a1c3 a1c4 a1c5 a1c6 a1c7 a1c8 a1c9 a1c10 a1c11a a1c11n a1c11c a1c12 a1c13a a1c13n a1c13c H _) h)
def hplan_ref15_port : Plan := ⟨[], [], [], []⟩
theorem hk_ref15_port : Known Tryz.prog f_ref15_port Tryz.f40 hplan_ref15_port (bodyOf Tryz.f40) := ⟨Tryz.func40, by kernel_rfl, by kernel_rfl, by kernel_rfl, by kernel_rfl, by kernel_rfl⟩
def ref15_port_p (n0 : Int) (H : Heap) (R : Value → Heap → Prop) : Prop :=
 IfB (decide ((n0 : Int) ≥ 1))
 (R (Value.bool (decide ((n0 : Int) ≤ 65535))) H)
 (R (Value.bool false) H)
theorem ref15_port_heq (n0 : Int) (H : Heap) (R : Value → Heap → Prop) : ref15_port_p n0 H R = CodeW Tryz.prog hplan_ref15_port (bodyOf Tryz.f40) (env0 [(Value.int .i64 n0)]) H (RetW Tryz.prog Tryz.f40.results.toList R) := by kernel_rfl
theorem ref15_port_sh (n0 : Int) {H : Heap} {R : Value → Heap → Prop} (h : ref15_port_p n0 H fun v H1 => ∀ H2, Shut H H1 H2 → R v H2) : FnW Tryz.prog f_ref15_port ⟨[(Value.int .i64 n0)]⟩ H R := FnW.of_code hk_ref15_port (by kernel_rfl) (Eq.mp (ref15_port_heq n0 H _) h)
def hplan_ref14_New : Plan := ⟨[], [], [], []⟩
theorem hk_ref14_New : Known Tryz.prog f_ref14_New Tryz.f41 hplan_ref14_New (bodyOf Tryz.f41) := ⟨Tryz.func41, by kernel_rfl, by kernel_rfl, by kernel_rfl, by kernel_rfl, by kernel_rfl⟩
def ref14_New_j0 (una0 : Int) (size1 : Int) (window2 : Int) (greatest3 : Int) (x22 : Bool) (H2 : Heap) (R : Value → Heap → Prop) : Prop :=
 IfB x22
 (R (Value.tuple ⟨[(Value.pointer none), (Value.int .i64 2)]⟩) H2)
 (NewW H2 (Obj.cells ⟨[(Value.int .u32 una0), (Value.slice none 0 0), (Value.int .i64 0), (Value.int .i64 size1), (Value.int .i64 window2), (Value.int .i64 greatest3), (Value.int .i64 0), (Value.int .i64 0), (Value.int .i64 0), (Value.int .i64 0), (Value.bool false), (Value.bool false), (Value.int .u32 0), (Value.int .i64 0)]⟩ T_ref14_Outbox) fun x28b H3 =>
 R (Value.tuple ⟨[(Value.pointer (some ⟨x28b, 0, none⟩)), (Value.int .i64 0)]⟩) H3)
def ref14_New_p (una0 : Int) (size1 : Int) (window2 : Int) (greatest3 : Int) (H : Heap) (R : Value → Heap → Prop) : Prop :=
 FnW Tryz.prog f_ref14_room ⟨[(Value.int .i64 size1), (Value.int .i64 1)]⟩ H fun x11v H1 =>
 ∃ x11 : Bool, x11v = (Value.bool x11) ∧
 IfB (!x11)
 (ref14_New_j0 una0 size1 window2 greatest3 true H1 R)
 (FnW Tryz.prog f_ref14_room ⟨[(Value.int .i64 window2), (Value.int .i64 0)]⟩ H1 fun x15v H4 =>
 ∃ x15 : Bool, x15v = (Value.bool x15) ∧
 IfB (!x15)
 (ref14_New_j0 una0 size1 window2 greatest3 true H4 R)
 (FnW Tryz.prog f_ref14_room ⟨[(Value.int .i64 greatest3), (Value.int .i64 1)]⟩ H4 fun x20v H5 =>
 ∃ x20 : Bool, x20v = (Value.bool x20) ∧
 ref14_New_j0 una0 size1 window2 greatest3 (!x20) H5 R))
theorem ref14_New_heq (una0 : Int) (size1 : Int) (window2 : Int) (greatest3 : Int) (H : Heap) (R : Value → Heap → Prop) : ref14_New_p una0 size1 window2 greatest3 H R = CodeW Tryz.prog hplan_ref14_New (bodyOf Tryz.f41) (env0 [(Value.int .u32 una0), (Value.int .i64 size1), (Value.int .i64 window2), (Value.int .i64 greatest3)]) H (RetW Tryz.prog Tryz.f41.results.toList R) := by kernel_rfl
theorem ref14_New_sh (una0 : Int) (size1 : Int) (window2 : Int) (greatest3 : Int) {H : Heap} {R : Value → Heap → Prop} (h : ref14_New_p una0 size1 window2 greatest3 H fun v H1 => ∀ H2, Shut H H1 H2 → R v H2) : FnW Tryz.prog f_ref14_New ⟨[(Value.int .u32 una0), (Value.int .i64 size1), (Value.int .i64 window2), (Value.int .i64 greatest3)]⟩ H R := FnW.of_code hk_ref14_New (by kernel_rfl) (Eq.mp (ref14_New_heq una0 size1 window2 greatest3 H _) h)
def hplan_ref10_Add : Plan := ⟨[], [], [], []⟩
theorem hk_ref10_Add : Known Tryz.prog f_ref10_Add Tryz.f42 hplan_ref10_Add (bodyOf Tryz.f42) := ⟨Tryz.func42, by kernel_rfl, by kernel_rfl, by kernel_rfl, by kernel_rfl, by kernel_rfl⟩
def ref10_Add_p (a0 : Int) (n1 : Int) (H : Heap) (R : Value → Heap → Prop) : Prop :=
 R (Value.int .u32 (IntKind.wrap .u32 (IntKind.wrap .u64 ((IntKind.wrap .u64 a0) + (IntKind.wrap .u64 n1))))) H
theorem ref10_Add_heq (a0 : Int) (n1 : Int) (H : Heap) (R : Value → Heap → Prop) : ref10_Add_p a0 n1 H R = CodeW Tryz.prog hplan_ref10_Add (bodyOf Tryz.f42) (env0 [(Value.int .u32 a0), (Value.int .i64 n1)]) H (RetW Tryz.prog Tryz.f42.results.toList R) := by kernel_rfl
theorem ref10_Add_sh (a0 : Int) (n1 : Int) {H : Heap} {R : Value → Heap → Prop} (h : ref10_Add_p a0 n1 H fun v H1 => ∀ H2, Shut H H1 H2 → R v H2) : FnW Tryz.prog f_ref10_Add ⟨[(Value.int .u32 a0), (Value.int .i64 n1)]⟩ H R := FnW.of_code hk_ref10_Add (by kernel_rfl) (Eq.mp (ref10_Add_heq a0 n1 H _) h)
def hplan_ref15_Conn_syn : Plan := ⟨[], [], [], []⟩
theorem hk_ref15_Conn_syn : Known Tryz.prog f_ref15_Conn_syn Tryz.f43 hplan_ref15_Conn_syn (bodyOf Tryz.f43) := ⟨Tryz.func43, by kernel_rfl, by kernel_rfl, by kernel_rfl, by kernel_rfl, by kernel_rfl⟩
def ref15_Conn_syn_j0 (x2b : Nat) (s3b : Nat) (H15 : Heap) (R : Value → Heap → Prop) : Prop :=
 ∃ x17c0 : Int, H15.cell ⟨s3b, 0, none⟩ = some (Value.int .i64 x17c0) ∧ ∃ x17c1 : Int, H15.cell ⟨s3b, 1, none⟩ = some (Value.int .i64 x17c1) ∧ ∃ x17c2 : Int, H15.cell ⟨s3b, 2, none⟩ = some (Value.int .u32 x17c2) ∧ ∃ x17c3 : Int, H15.cell ⟨s3b, 3, none⟩ = some (Value.int .u32 x17c3) ∧ ∃ x17c4 : Int, H15.cell ⟨s3b, 4, none⟩ = some (Value.int .i64 x17c4) ∧ ∃ x17c5 : Int, H15.cell ⟨s3b, 5, none⟩ = some (Value.int .i64 x17c5) ∧ ∃ x17c6 : Int, H15.cell ⟨s3b, 6, none⟩ = some (Value.int .i64 x17c6) ∧ ∃ x17c7 : Int, H15.cell ⟨s3b, 7, none⟩ = some (Value.int .i64 x17c7) ∧ ∃ (x17c8a : Option Addr) (x17c8n x17c8c : Nat), H15.cell ⟨s3b, 8, none⟩ = some (Value.slice x17c8a x17c8n x17c8c) ∧ StCell H15 ⟨x2b, 0, none⟩ (Value.int .i64 x17c0) fun H16 =>
 StCell H16 ⟨x2b, 1, none⟩ (Value.int .i64 x17c1) fun H17 =>
 StCell H17 ⟨x2b, 2, none⟩ (Value.int .u32 x17c2) fun H18 =>
 StCell H18 ⟨x2b, 3, none⟩ (Value.int .u32 x17c3) fun H19 =>
 StCell H19 ⟨x2b, 4, none⟩ (Value.int .i64 x17c4) fun H20 =>
 StCell H20 ⟨x2b, 5, none⟩ (Value.int .i64 x17c5) fun H21 =>
 StCell H21 ⟨x2b, 6, none⟩ (Value.int .i64 x17c6) fun H22 =>
 StCell H22 ⟨x2b, 7, none⟩ (Value.int .i64 x17c7) fun H23 =>
 StCell H23 ⟨x2b, 8, none⟩ (Value.slice x17c8a x17c8n x17c8c) fun H24 =>
 ∃ r0c0 : Int, H24.cell ⟨x2b, 0, none⟩ = some (Value.int .i64 r0c0) ∧ ∃ r0c1 : Int, H24.cell ⟨x2b, 1, none⟩ = some (Value.int .i64 r0c1) ∧ ∃ r0c2 : Int, H24.cell ⟨x2b, 2, none⟩ = some (Value.int .u32 r0c2) ∧ ∃ r0c3 : Int, H24.cell ⟨x2b, 3, none⟩ = some (Value.int .u32 r0c3) ∧ ∃ r0c4 : Int, H24.cell ⟨x2b, 4, none⟩ = some (Value.int .i64 r0c4) ∧ ∃ r0c5 : Int, H24.cell ⟨x2b, 5, none⟩ = some (Value.int .i64 r0c5) ∧ ∃ r0c6 : Int, H24.cell ⟨x2b, 6, none⟩ = some (Value.int .i64 r0c6) ∧ ∃ r0c7 : Int, H24.cell ⟨x2b, 7, none⟩ = some (Value.int .i64 r0c7) ∧ ∃ (r0c8a : Option Addr) (r0c8n r0c8c : Nat), H24.cell ⟨x2b, 8, none⟩ = some (Value.slice r0c8a r0c8n r0c8c) ∧ R (Value.agg ⟨[(Value.int .i64 r0c0), (Value.int .i64 r0c1), (Value.int .u32 r0c2), (Value.int .u32 r0c3), (Value.int .i64 r0c4), (Value.int .i64 r0c5), (Value.int .i64 r0c6), (Value.int .i64 r0c7), (Value.slice r0c8a r0c8n r0c8c)]⟩) H24
def ref15_Conn_syn_p (c0b : Nat) (H : Heap) (R : Value → Heap → Prop) : Prop :=
 NewW H (Obj.cells ⟨[(Value.int .i64 0), (Value.int .i64 0), (Value.int .u32 0), (Value.int .u32 0), (Value.int .i64 0), (Value.int .i64 0), (Value.int .i64 0), (Value.int .i64 0), (Value.slice none 0 0)]⟩ T_ref11_Segment) fun x2b H1 =>
 ∃ x8 : Int, H1.cell ⟨c0b, 3, none⟩ = some (Value.int .u32 x8) ∧
 FnW Tryz.prog f_ref15_Conn_segment ⟨[(Value.pointer (some ⟨c0b, 0, none⟩)), (Value.int .u32 x8), (Value.int .i64 2), (Value.slice none 0 0)]⟩ H1 fun x9v H2 =>
 ∃ x9c0 : Int, ∃ x9c1 : Int, ∃ x9c2 : Int, ∃ x9c3 : Int, ∃ x9c4 : Int, ∃ x9c5 : Int, ∃ x9c6 : Int, ∃ x9c7 : Int, ∃ (x9c8a : Option Addr) (x9c8n x9c8c : Nat), x9v = (Value.agg ⟨[(Value.int .i64 x9c0), (Value.int .i64 x9c1), (Value.int .u32 x9c2), (Value.int .u32 x9c3), (Value.int .i64 x9c4), (Value.int .i64 x9c5), (Value.int .i64 x9c6), (Value.int .i64 x9c7), (Value.slice x9c8a x9c8n x9c8c)]⟩) ∧
 NewW H2 (Obj.cells ⟨[(Value.int .i64 0), (Value.int .i64 0), (Value.int .u32 0), (Value.int .u32 0), (Value.int .i64 0), (Value.int .i64 0), (Value.int .i64 0), (Value.int .i64 0), (Value.slice none 0 0)]⟩ T_ref11_Segment) fun s3b H3 =>
 StCell H3 ⟨s3b, 0, none⟩ (Value.int .i64 x9c0) fun H4 =>
 StCell H4 ⟨s3b, 1, none⟩ (Value.int .i64 x9c1) fun H5 =>
 StCell H5 ⟨s3b, 2, none⟩ (Value.int .u32 x9c2) fun H6 =>
 StCell H6 ⟨s3b, 3, none⟩ (Value.int .u32 x9c3) fun H7 =>
 StCell H7 ⟨s3b, 4, none⟩ (Value.int .i64 x9c4) fun H8 =>
 StCell H8 ⟨s3b, 5, none⟩ (Value.int .i64 x9c5) fun H9 =>
 StCell H9 ⟨s3b, 6, none⟩ (Value.int .i64 x9c6) fun H10 =>
 StCell H10 ⟨s3b, 7, none⟩ (Value.int .i64 x9c7) fun H11 =>
 StCell H11 ⟨s3b, 8, none⟩ (Value.slice x9c8a x9c8n x9c8c) fun H12 =>
 StCell H12 ⟨s3b, 7, none⟩ (Value.int .i64 1460) fun H13 =>
 ∃ x14 : Int, H13.cell ⟨c0b, 0, none⟩ = some (Value.int .i64 x14) ∧
 IfB ((x14 : Int) == 2)
 (StCell H13 ⟨s3b, 4, none⟩ (Value.int .i64 18) fun H14 =>
 ref15_Conn_syn_j0 x2b s3b H14 R)
 (ref15_Conn_syn_j0 x2b s3b H13 R)
theorem ref15_Conn_syn_heq (c0b : Nat) (H : Heap) (R : Value → Heap → Prop) : ref15_Conn_syn_p c0b H R = CodeW Tryz.prog hplan_ref15_Conn_syn (bodyOf Tryz.f43) (env0 [(Value.pointer (some ⟨c0b, 0, none⟩))]) H (RetW Tryz.prog Tryz.f43.results.toList R) := by kernel_rfl
theorem ref15_Conn_syn_sh (c0b : Nat) {H : Heap} {R : Value → Heap → Prop} (h : ref15_Conn_syn_p c0b H fun v H1 => ∀ H2, Shut H H1 H2 → R v H2) : FnW Tryz.prog f_ref15_Conn_syn ⟨[(Value.pointer (some ⟨c0b, 0, none⟩))]⟩ H R := FnW.of_code hk_ref15_Conn_syn (by kernel_rfl) (Eq.mp (ref15_Conn_syn_heq c0b H _) h)
def hplan_ref15_Conn_arm : Plan := ⟨[(4, [0, 1, 2, 3, 4, 5, 6, 7, 8, 9, 10, 11, 12, 13, 14, 15], [29])], [], [], []⟩
theorem hk_ref15_Conn_arm : Known Tryz.prog f_ref15_Conn_arm Tryz.f44 hplan_ref15_Conn_arm (bodyOf Tryz.f44) := ⟨Tryz.func44, by kernel_rfl, by kernel_rfl, by kernel_rfl, by kernel_rfl, by kernel_rfl⟩
def ref15_Conn_arm_j0 (c0b : Nat) (x16 : Bool) (H1 : Heap) (R : Value → Heap → Prop) : Prop :=
 IfB x16
 (StCell H1 ⟨c0b, 11, none⟩ (Value.int .i64 (-1)) fun H2 =>
 R (Value.tuple ⟨[]⟩) H2)
 (∃ x23 : Int, H1.cell ⟨c0b, 11, none⟩ = some (Value.int .i64 x23) ∧
 IfB (decide ((x23 : Int) < 0))
 (∃ bs : List Nat, (∀ b ∈ bs, ∃ o, H1 b = some o) ∧
 c0b ∈ bs ∧ ∃ x29 : Int, H1.cell ⟨c0b, 10, none⟩ = some (Value.int .i64 x29) ∧
 ∃ x33 : Option Addr, H1.cell ⟨c0b, 4, none⟩ = some (Value.pointer x33) ∧
 NilP x33 fun x34p =>
 FnW Tryz.prog f_ref13_Estimate_Wait ⟨[(Value.pointer (some ⟨x34p.block, x34p.off + 7, none⟩))]⟩ H1 fun x36v H3 =>
 ∃ x36 : Int, x36v = (Value.int .i64 x36) ∧
 KeptIn bs H1 H3 ∧ StCell H3 ⟨c0b, 11, none⟩ (Value.int .i64 (IntKind.wrap .i64 (x29 + x36))) fun H4 =>
 R (Value.tuple ⟨[]⟩) H4)
 (R (Value.tuple ⟨[]⟩) H1))
def ref15_Conn_arm_p (c0b : Nat) (H : Heap) (R : Value → Heap → Prop) : Prop :=
 ∃ x5 : Int, H.cell ⟨c0b, 0, none⟩ = some (Value.int .i64 x5) ∧
 IfB ((x5 : Int) == 9)
 (R (Value.tuple ⟨[]⟩) H)
 (∃ x10 : Int, H.cell ⟨c0b, 0, none⟩ = some (Value.int .i64 x10) ∧
 IfB ((x10 : Int) == 0)
 (ref15_Conn_arm_j0 c0b true H R)
 (FnW Tryz.prog f_ref15_Conn_open ⟨[(Value.pointer (some ⟨c0b, 0, none⟩))]⟩ H fun x14v H5 =>
 ∃ x14 : Bool, x14v = (Value.bool x14) ∧
 ref15_Conn_arm_j0 c0b (!x14) H5 R))
theorem ref15_Conn_arm_heq (c0b : Nat) (H : Heap) (R : Value → Heap → Prop) : ref15_Conn_arm_p c0b H R = CodeW Tryz.prog hplan_ref15_Conn_arm (bodyOf Tryz.f44) (env0 [(Value.pointer (some ⟨c0b, 0, none⟩))]) H (RetW Tryz.prog Tryz.f44.results.toList R) := by kernel_rfl
theorem ref15_Conn_arm_sh (c0b : Nat) {H : Heap} {R : Value → Heap → Prop} (h : ref15_Conn_arm_p c0b H fun v H1 => ∀ H2, Shut H H1 H2 → R v H2) : FnW Tryz.prog f_ref15_Conn_arm ⟨[(Value.pointer (some ⟨c0b, 0, none⟩))]⟩ H R := FnW.of_code hk_ref15_Conn_arm (by kernel_rfl) (Eq.mp (ref15_Conn_arm_heq c0b H _) h)
def hplan_ref15_Conn_segment : Plan := ⟨[(4, [0, 1, 2, 3, 4, 5, 6, 7, 8, 9, 11, 12, 13, 10, 14, 15], [23, 27])], [], [], []⟩
theorem hk_ref15_Conn_segment : Known Tryz.prog f_ref15_Conn_segment Tryz.f49 hplan_ref15_Conn_segment (bodyOf Tryz.f49) := ⟨Tryz.func49, by kernel_rfl, by kernel_rfl, by kernel_rfl, by kernel_rfl, by kernel_rfl⟩
def ref15_Conn_segment_j0 (c0b : Nat) (at1 : Int) (flags2 : Int) (data3a : Option Addr) (data3n : Nat) (data3c : Nat) (x8b : Nat) (w9 : Int) (H3 : Heap) (R : Value → Heap → Prop) : Prop :=
 ∃ bs : List Nat, (∀ b ∈ bs, ∃ o, H3 b = some o) ∧
 c0b ∈ bs ∧ ∃ x23 : Int, H3.cell ⟨c0b, 1, none⟩ = some (Value.int .i64 x23) ∧
 c0b ∈ bs ∧ ∃ x27 : Int, H3.cell ⟨c0b, 2, none⟩ = some (Value.int .i64 x27) ∧
 FnW Tryz.prog f_ref15_Conn_Wants ⟨[(Value.pointer (some ⟨c0b, 0, none⟩))]⟩ H3 fun x30v H4 =>
 ∃ x30 : Int, x30v = (Value.int .u32 x30) ∧
 KeptIn bs H3 H4 ∧ StCell H4 ⟨x8b, 0, none⟩ (Value.int .i64 x23) fun H5 =>
 StCell H5 ⟨x8b, 1, none⟩ (Value.int .i64 x27) fun H6 =>
 StCell H6 ⟨x8b, 2, none⟩ (Value.int .u32 at1) fun H7 =>
 StCell H7 ⟨x8b, 3, none⟩ (Value.int .u32 x30) fun H8 =>
 StCell H8 ⟨x8b, 4, none⟩ (Value.int .i64 flags2) fun H9 =>
 StCell H9 ⟨x8b, 5, none⟩ (Value.int .i64 w9) fun H10 =>
 StCell H10 ⟨x8b, 6, none⟩ (Value.int .i64 0) fun H11 =>
 StCell H11 ⟨x8b, 7, none⟩ (Value.int .i64 0) fun H12 =>
 StCell H12 ⟨x8b, 8, none⟩ (Value.slice data3a data3n data3c) fun H13 =>
 ∃ r0c0 : Int, H13.cell ⟨x8b, 0, none⟩ = some (Value.int .i64 r0c0) ∧ ∃ r0c1 : Int, H13.cell ⟨x8b, 1, none⟩ = some (Value.int .i64 r0c1) ∧ ∃ r0c2 : Int, H13.cell ⟨x8b, 2, none⟩ = some (Value.int .u32 r0c2) ∧ ∃ r0c3 : Int, H13.cell ⟨x8b, 3, none⟩ = some (Value.int .u32 r0c3) ∧ ∃ r0c4 : Int, H13.cell ⟨x8b, 4, none⟩ = some (Value.int .i64 r0c4) ∧ ∃ r0c5 : Int, H13.cell ⟨x8b, 5, none⟩ = some (Value.int .i64 r0c5) ∧ ∃ r0c6 : Int, H13.cell ⟨x8b, 6, none⟩ = some (Value.int .i64 r0c6) ∧ ∃ r0c7 : Int, H13.cell ⟨x8b, 7, none⟩ = some (Value.int .i64 r0c7) ∧ ∃ (r0c8a : Option Addr) (r0c8n r0c8c : Nat), H13.cell ⟨x8b, 8, none⟩ = some (Value.slice r0c8a r0c8n r0c8c) ∧ R (Value.agg ⟨[(Value.int .i64 r0c0), (Value.int .i64 r0c1), (Value.int .u32 r0c2), (Value.int .u32 r0c3), (Value.int .i64 r0c4), (Value.int .i64 r0c5), (Value.int .i64 r0c6), (Value.int .i64 r0c7), (Value.slice r0c8a r0c8n r0c8c)]⟩) H13
def ref15_Conn_segment_p (c0b : Nat) (at1 : Int) (flags2 : Int) (data3a : Option Addr) (data3n : Nat) (data3c : Nat) (H : Heap) (R : Value → Heap → Prop) : Prop :=
 NewW H (Obj.cells ⟨[(Value.int .i64 0), (Value.int .i64 0), (Value.int .u32 0), (Value.int .u32 0), (Value.int .i64 0), (Value.int .i64 0), (Value.int .i64 0), (Value.int .i64 0), (Value.slice none 0 0)]⟩ T_ref11_Segment) fun x8b H1 =>
 ∃ x13 : Option Addr, H1.cell ⟨c0b, 5, none⟩ = some (Value.pointer x13) ∧
 IfB (!x13.isNone)
 (∃ x18 : Option Addr, H1.cell ⟨c0b, 5, none⟩ = some (Value.pointer x18) ∧
 FnW Tryz.prog f_ref12_Joint_Window ⟨[(Value.pointer x18)]⟩ H1 fun x19v H2 =>
 ∃ x19 : Int, x19v = (Value.int .i64 x19) ∧
 ref15_Conn_segment_j0 c0b at1 flags2 data3a data3n data3c x8b x19 H2 R)
 (ref15_Conn_segment_j0 c0b at1 flags2 data3a data3n data3c x8b 4096 H1 R)
theorem ref15_Conn_segment_heq (c0b : Nat) (at1 : Int) (flags2 : Int) (data3a : Option Addr) (data3n : Nat) (data3c : Nat) (H : Heap) (R : Value → Heap → Prop) : ref15_Conn_segment_p c0b at1 flags2 data3a data3n data3c H R = CodeW Tryz.prog hplan_ref15_Conn_segment (bodyOf Tryz.f49) (env0 [(Value.pointer (some ⟨c0b, 0, none⟩)), (Value.int .u32 at1), (Value.int .i64 flags2), (Value.slice data3a data3n data3c)]) H (RetW Tryz.prog Tryz.f49.results.toList R) := by kernel_rfl
theorem ref15_Conn_segment_sh (c0b : Nat) (at1 : Int) (flags2 : Int) (data3a : Option Addr) (data3n : Nat) (data3c : Nat) {H : Heap} {R : Value → Heap → Prop} (h : ref15_Conn_segment_p c0b at1 flags2 data3a data3n data3c H fun v H1 => ∀ H2, Shut H H1 H2 → R v H2) : FnW Tryz.prog f_ref15_Conn_segment ⟨[(Value.pointer (some ⟨c0b, 0, none⟩)), (Value.int .u32 at1), (Value.int .i64 flags2), (Value.slice data3a data3n data3c)]⟩ H R := FnW.of_code hk_ref15_Conn_segment (by kernel_rfl) (Eq.mp (ref15_Conn_segment_heq c0b at1 flags2 data3a data3n data3c H _) h)
def hplan_ref15_Conn_Last : Plan := ⟨[], [], [], []⟩
theorem hk_ref15_Conn_Last : Known Tryz.prog f_ref15_Conn_Last Tryz.f50 hplan_ref15_Conn_Last (bodyOf Tryz.f50) := ⟨Tryz.func50, by kernel_rfl, by kernel_rfl, by kernel_rfl, by kernel_rfl, by kernel_rfl⟩
def ref15_Conn_Last_p (c0b : Nat) (H : Heap) (R : Value → Heap → Prop) : Prop :=
 ∃ x6 : Bool, H.cell ⟨c0b, 7, none⟩ = some (Value.bool x6) ∧
 IfB x6
 (∃ x10 : Option Addr, H.cell ⟨c0b, 4, none⟩ = some (Value.pointer x10) ∧
 FnW Tryz.prog f_ref14_Outbox_Next ⟨[(Value.pointer x10)]⟩ H fun x11v H1 =>
 ∃ x11 : Int, x11v = (Value.int .u32 x11) ∧
 FnW Tryz.prog f_ref10_Add ⟨[(Value.int .u32 x11), (Value.int .i64 1)]⟩ H1 fun x12v H2 =>
 ∃ x12 : Int, x12v = (Value.int .u32 x12) ∧
 R (Value.int .u32 x12) H2)
 (∃ x16 : Option Addr, H.cell ⟨c0b, 4, none⟩ = some (Value.pointer x16) ∧
 FnW Tryz.prog f_ref14_Outbox_Next ⟨[(Value.pointer x16)]⟩ H fun x17v H3 =>
 ∃ x17 : Int, x17v = (Value.int .u32 x17) ∧
 R (Value.int .u32 x17) H3)
theorem ref15_Conn_Last_heq (c0b : Nat) (H : Heap) (R : Value → Heap → Prop) : ref15_Conn_Last_p c0b H R = CodeW Tryz.prog hplan_ref15_Conn_Last (bodyOf Tryz.f50) (env0 [(Value.pointer (some ⟨c0b, 0, none⟩))]) H (RetW Tryz.prog Tryz.f50.results.toList R) := by kernel_rfl
theorem ref15_Conn_Last_sh (c0b : Nat) {H : Heap} {R : Value → Heap → Prop} (h : ref15_Conn_Last_p c0b H fun v H1 => ∀ H2, Shut H H1 H2 → R v H2) : FnW Tryz.prog f_ref15_Conn_Last ⟨[(Value.pointer (some ⟨c0b, 0, none⟩))]⟩ H R := FnW.of_code hk_ref15_Conn_Last (by kernel_rfl) (Eq.mp (ref15_Conn_Last_heq c0b H _) h)
def hplan_ref15_Conn_die : Plan := ⟨[], [], [], []⟩
theorem hk_ref15_Conn_die : Known Tryz.prog f_ref15_Conn_die Tryz.f51 hplan_ref15_Conn_die (bodyOf Tryz.f51) := ⟨Tryz.func51, by kernel_rfl, by kernel_rfl, by kernel_rfl, by kernel_rfl, by kernel_rfl⟩
def ref15_Conn_die_p (c0b : Nat) (H : Heap) (R : Value → Heap → Prop) : Prop :=
 StCell H ⟨c0b, 0, none⟩ (Value.int .i64 0) fun H1 =>
 StCell H1 ⟨c0b, 11, none⟩ (Value.int .i64 (-1)) fun H2 =>
 R (Value.tuple ⟨[]⟩) H2
theorem ref15_Conn_die_heq (c0b : Nat) (H : Heap) (R : Value → Heap → Prop) : ref15_Conn_die_p c0b H R = CodeW Tryz.prog hplan_ref15_Conn_die (bodyOf Tryz.f51) (env0 [(Value.pointer (some ⟨c0b, 0, none⟩))]) H (RetW Tryz.prog Tryz.f51.results.toList R) := by kernel_rfl
theorem ref15_Conn_die_sh (c0b : Nat) {H : Heap} {R : Value → Heap → Prop} (h : ref15_Conn_die_p c0b H fun v H1 => ∀ H2, Shut H H1 H2 → R v H2) : FnW Tryz.prog f_ref15_Conn_die ⟨[(Value.pointer (some ⟨c0b, 0, none⟩))]⟩ H R := FnW.of_code hk_ref15_Conn_die (by kernel_rfl) (Eq.mp (ref15_Conn_die_heq c0b H _) h)
def hplan_ref15_Conn_Wants : Plan := ⟨[], [], [], []⟩
theorem hk_ref15_Conn_Wants : Known Tryz.prog f_ref15_Conn_Wants Tryz.f52 hplan_ref15_Conn_Wants (bodyOf Tryz.f52) := ⟨Tryz.func52, by kernel_rfl, by kernel_rfl, by kernel_rfl, by kernel_rfl, by kernel_rfl⟩
def ref15_Conn_Wants_p (c0b : Nat) (H : Heap) (R : Value → Heap → Prop) : Prop :=
 ∃ x6 : Option Addr, H.cell ⟨c0b, 5, none⟩ = some (Value.pointer x6) ∧
 IfB x6.isNone
 (R (Value.int .u32 0) H)
 (∃ x11 : Bool, H.cell ⟨c0b, 9, none⟩ = some (Value.bool x11) ∧
 IfB x11
 (∃ x15 : Option Addr, H.cell ⟨c0b, 5, none⟩ = some (Value.pointer x15) ∧
 NilP x15 fun x16p =>
 ∃ x18 : Int, H.cell x16p = some (Value.int .u32 x18) ∧
 FnW Tryz.prog f_ref10_Add ⟨[(Value.int .u32 x18), (Value.int .i64 1)]⟩ H fun x19v H1 =>
 ∃ x19 : Int, x19v = (Value.int .u32 x19) ∧
 R (Value.int .u32 x19) H1)
 (∃ x23 : Option Addr, H.cell ⟨c0b, 5, none⟩ = some (Value.pointer x23) ∧
 NilP x23 fun x24p =>
 ∃ x26 : Int, H.cell x24p = some (Value.int .u32 x26) ∧
 R (Value.int .u32 x26) H))
theorem ref15_Conn_Wants_heq (c0b : Nat) (H : Heap) (R : Value → Heap → Prop) : ref15_Conn_Wants_p c0b H R = CodeW Tryz.prog hplan_ref15_Conn_Wants (bodyOf Tryz.f52) (env0 [(Value.pointer (some ⟨c0b, 0, none⟩))]) H (RetW Tryz.prog Tryz.f52.results.toList R) := by kernel_rfl
theorem ref15_Conn_Wants_sh (c0b : Nat) {H : Heap} {R : Value → Heap → Prop} (h : ref15_Conn_Wants_p c0b H fun v H1 => ∀ H2, Shut H H1 H2 → R v H2) : FnW Tryz.prog f_ref15_Conn_Wants ⟨[(Value.pointer (some ⟨c0b, 0, none⟩))]⟩ H R := FnW.of_code hk_ref15_Conn_Wants (by kernel_rfl) (Eq.mp (ref15_Conn_Wants_heq c0b H _) h)
def hplan_ref14_room : Plan := ⟨[], [], [], []⟩
theorem hk_ref14_room : Known Tryz.prog f_ref14_room Tryz.f71 hplan_ref14_room (bodyOf Tryz.f71) := ⟨Tryz.func71, by kernel_rfl, by kernel_rfl, by kernel_rfl, by kernel_rfl, by kernel_rfl⟩
def ref14_room_p (n0 : Int) (least1 : Int) (H : Heap) (R : Value → Heap → Prop) : Prop :=
 IfB (decide ((n0 : Int) ≥ least1))
 (R (Value.bool (decide ((n0 : Int) ≤ 65535))) H)
 (R (Value.bool false) H)
theorem ref14_room_heq (n0 : Int) (least1 : Int) (H : Heap) (R : Value → Heap → Prop) : ref14_room_p n0 least1 H R = CodeW Tryz.prog hplan_ref14_room (bodyOf Tryz.f71) (env0 [(Value.int .i64 n0), (Value.int .i64 least1)]) H (RetW Tryz.prog Tryz.f71.results.toList R) := by kernel_rfl
theorem ref14_room_sh (n0 : Int) (least1 : Int) {H : Heap} {R : Value → Heap → Prop} (h : ref14_room_p n0 least1 H fun v H1 => ∀ H2, Shut H H1 H2 → R v H2) : FnW Tryz.prog f_ref14_room ⟨[(Value.int .i64 n0), (Value.int .i64 least1)]⟩ H R := FnW.of_code hk_ref14_room (by kernel_rfl) (Eq.mp (ref14_room_heq n0 least1 H _) h)
def hplan_ref15_Conn_open : Plan := ⟨[], [], [], []⟩
theorem hk_ref15_Conn_open : Known Tryz.prog f_ref15_Conn_open Tryz.f72 hplan_ref15_Conn_open (bodyOf Tryz.f72) := ⟨Tryz.func72, by kernel_rfl, by kernel_rfl, by kernel_rfl, by kernel_rfl, by kernel_rfl⟩
def ref15_Conn_open_p (c0b : Nat) (H : Heap) (R : Value → Heap → Prop) : Prop :=
 ∃ x6 : Int, H.cell ⟨c0b, 0, none⟩ = some (Value.int .i64 x6) ∧
 IfB ((x6 : Int) == 1)
 (R (Value.bool true) H)
 (∃ x12 : Int, H.cell ⟨c0b, 0, none⟩ = some (Value.int .i64 x12) ∧
 IfB ((x12 : Int) == 2)
 (R (Value.bool true) H)
 (∃ x19 : Option Addr, H.cell ⟨c0b, 4, none⟩ = some (Value.pointer x19) ∧
 NilP x19 fun x20p =>
 ∃ x22 : Int, H.cell ⟨x20p.block, x20p.off + 2, none⟩ = some (Value.int .i64 x22) ∧
 IfB (decide ((x22 : Int) > 0))
 (R (Value.bool true) H)
 (∃ x29 : Bool, H.cell ⟨c0b, 7, none⟩ = some (Value.bool x29) ∧
 IfB x29
 (∃ x34 : Bool, H.cell ⟨c0b, 8, none⟩ = some (Value.bool x34) ∧
 IfB (!x34)
 (R (Value.bool true) H)
 (∃ x42 : Option Addr, H.cell ⟨c0b, 4, none⟩ = some (Value.pointer x42) ∧
 NilP x42 fun x43p =>
 ∃ x45 : Int, H.cell ⟨x43p.block, x43p.off + 4, none⟩ = some (Value.int .i64 x45) ∧
 IfB ((x45 : Int) == 0)
 (∃ x51 : Option Addr, H.cell ⟨c0b, 4, none⟩ = some (Value.pointer x51) ∧
 NilP x51 fun x52p =>
 ∃ (x54a : Option Addr) (x54n x54c : Nat), H.cell ⟨x52p.block, x52p.off + 1, none⟩ = some (Value.slice x54a x54n x54c) ∧
 R (Value.bool (decide (((x54n : Int) : Int) > 0))) H)
 (R (Value.bool false) H)))
 (∃ x42_1 : Option Addr, H.cell ⟨c0b, 4, none⟩ = some (Value.pointer x42_1) ∧
 NilP x42_1 fun x43p_1 =>
 ∃ x45_1 : Int, H.cell ⟨x43p_1.block, x43p_1.off + 4, none⟩ = some (Value.int .i64 x45_1) ∧
 IfB ((x45_1 : Int) == 0)
 (∃ x51_1 : Option Addr, H.cell ⟨c0b, 4, none⟩ = some (Value.pointer x51_1) ∧
 NilP x51_1 fun x52p_1 =>
 ∃ (x54a_1 : Option Addr) (x54n_1 x54c_1 : Nat), H.cell ⟨x52p_1.block, x52p_1.off + 1, none⟩ = some (Value.slice x54a_1 x54n_1 x54c_1) ∧
 R (Value.bool (decide (((x54n_1 : Int) : Int) > 0))) H)
 (R (Value.bool false) H)))))
theorem ref15_Conn_open_heq (c0b : Nat) (H : Heap) (R : Value → Heap → Prop) : ref15_Conn_open_p c0b H R = CodeW Tryz.prog hplan_ref15_Conn_open (bodyOf Tryz.f72) (env0 [(Value.pointer (some ⟨c0b, 0, none⟩))]) H (RetW Tryz.prog Tryz.f72.results.toList R) := by kernel_rfl
theorem ref15_Conn_open_sh (c0b : Nat) {H : Heap} {R : Value → Heap → Prop} (h : ref15_Conn_open_p c0b H fun v H1 => ∀ H2, Shut H H1 H2 → R v H2) : FnW Tryz.prog f_ref15_Conn_open ⟨[(Value.pointer (some ⟨c0b, 0, none⟩))]⟩ H R := FnW.of_code hk_ref15_Conn_open (by kernel_rfl) (Eq.mp (ref15_Conn_open_heq c0b H _) h)
def hplan_ref13_Estimate_Wait : Plan := ⟨[], [(5, [3, 4], [.int .i64, .int .i64], [0])], [], []⟩
theorem hk_ref13_Estimate_Wait : Known Tryz.prog f_ref13_Estimate_Wait Tryz.f73 hplan_ref13_Estimate_Wait (bodyOf Tryz.f73) := ⟨Tryz.func73, by kernel_rfl, by kernel_rfl, by kernel_rfl, by kernel_rfl, by kernel_rfl⟩
def ref13_Estimate_Wait_l5 (e0b : Nat) (e0o : Nat) (w3_1 : Int) (i4 : Int) (H2 : Heap) (next5 : (Int × Int × Unit) → Heap → Prop) (R : Value → Heap → Prop) : Prop :=
 ∃ x24 : Int, H2.cell ⟨e0b, e0o + 2, none⟩ = some (Value.int .i64 x24) ∧
 IfB (decide ((i4 : Int) < x24))
 (next5 ((min 600 (IntKind.wrap .i64 (2 * w3_1))), ((IntKind.wrap .i64 (i4 + 1)), ())) H2)
 (R (Value.int .i64 (max 5 (min 600 w3_1))) H2)
def ref13_Estimate_Wait_j0 (e0b : Nat) (e0o : Nat) (w3 : Int) (H1 : Heap) (R : Value → Heap → Prop) : Prop :=
 LoopI (Int × Int × Unit) (w3, (0, ())) H1 fun x H next => ∀ _g : Env, ref13_Estimate_Wait_l5 e0b e0o x.1 x.2.1 H next R
def ref13_Estimate_Wait_p (e0b : Nat) (e0o : Nat) (H : Heap) (R : Value → Heap → Prop) : Prop :=
 ∃ x8 : Bool, H.cell ⟨e0b, e0o + 3, none⟩ = some (Value.bool x8) ∧
 IfB x8
 (∃ x12 : Int, H.cell ⟨e0b, e0o, none⟩ = some (Value.int .i64 x12) ∧
 (8 : Int) ≠ 0 ∧
 ∃ x17 : Int, H.cell ⟨e0b, e0o + 1, none⟩ = some (Value.int .i64 x17) ∧
 ref13_Estimate_Wait_j0 e0b e0o (IntKind.wrap .i64 ((IntKind.wrap .i64 (Int.tdiv x12 8)) + (max 1 x17))) H R)
 (ref13_Estimate_Wait_j0 e0b e0o 30 H R)
theorem ref13_Estimate_Wait_heq (e0b : Nat) (e0o : Nat) (H : Heap) (R : Value → Heap → Prop) : ref13_Estimate_Wait_p e0b e0o H R = CodeW Tryz.prog hplan_ref13_Estimate_Wait (bodyOf Tryz.f73) (env0 [(Value.pointer (some ⟨e0b, e0o, none⟩))]) H (RetW Tryz.prog Tryz.f73.results.toList R) := by kernel_rfl
theorem ref13_Estimate_Wait_sh (e0b : Nat) (e0o : Nat) {H : Heap} {R : Value → Heap → Prop} (h : ref13_Estimate_Wait_p e0b e0o H fun v H1 => ∀ H2, Shut H H1 H2 → R v H2) : FnW Tryz.prog f_ref13_Estimate_Wait ⟨[(Value.pointer (some ⟨e0b, e0o, none⟩))]⟩ H R := FnW.of_code hk_ref13_Estimate_Wait (by kernel_rfl) (Eq.mp (ref13_Estimate_Wait_heq e0b e0o H _) h)
end Go.Proofs.YtmiepjlnfclelaaGreat
