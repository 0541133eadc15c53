/-
  SOME FUNCTIONS IN PLAIN LOGIC: printed by a program of ours over this translation.
-/
import Derived.Test.YtmiepjlnfclelaaGreatNum
import Derived.Test.YtmiepjlnfclelaaGreatRows
set_option maxRecDepth 100000
set_option linter.unusedVariables false
namespace Go.Proofs.YtmiepjlnfclelaaGreat
open Go.Sh
def hplan_law15_ConnStream : Plan := ⟨[], [(7, [9], [.int .i64], [2, 7])], [], []⟩
theorem hk_law15_ConnStream : Known Tryz.prog f_law15_ConnStream Tryz.f3 hplan_law15_ConnStream (bodyOf Tryz.f3) := ⟨Tryz.func3, by kernel_rfl, by kernel_rfl, by kernel_rfl, by kernel_rfl, by kernel_rfl⟩
def law15_ConnStream_j0 (turns2a : Option Addr) (turns2n : Nat) (turns2c : Nat) (x17r0 : Option Addr) (i9 : Int) (next7 : (Int × Unit) → Heap → Prop) (x29 : Bool) (H4 : Heap) (R : Value → Heap → Prop) : Prop :=
 IfB x29
 (NilP turns2a fun x35q =>
 InB i9 turns2n fun x35i =>
 elemAt x35q x35i 14 fun x35p =>
 ∃ x36c0 : Int, H4.cell x35p = some (Value.int .i64 x36c0) ∧ ∃ x36c1 : Int, H4.cell ⟨x35p.block, x35p.off + 1, none⟩ = some (Value.int .i64 x36c1) ∧ ∃ x36c2 : Bool, H4.cell ⟨x35p.block, x35p.off + 2, none⟩ = some (Value.bool x36c2) ∧ ∃ x36c3 : Bool, H4.cell ⟨x35p.block, x35p.off + 3, none⟩ = some (Value.bool x36c3) ∧ ∃ (x36c4a : Option Addr) (x36c4n x36c4c : Nat), H4.cell ⟨x35p.block, x35p.off + 4, none⟩ = some (Value.slice x36c4a x36c4n x36c4c) ∧ ∃ x36c5 : Int, H4.cell ⟨x35p.block, x35p.off + 5, none⟩ = some (Value.int .i64 x36c5) ∧ ∃ x36c6 : Int, H4.cell ⟨x35p.block, x35p.off + 6, none⟩ = some (Value.int .i64 x36c6) ∧ ∃ x36c7 : Int, H4.cell ⟨x35p.block, x35p.off + 7, none⟩ = some (Value.int .u32 x36c7) ∧ ∃ x36c8 : Int, H4.cell ⟨x35p.block, x35p.off + 8, none⟩ = some (Value.int .u32 x36c8) ∧ ∃ x36c9 : Int, H4.cell ⟨x35p.block, x35p.off + 9, none⟩ = some (Value.int .i64 x36c9) ∧ ∃ x36c10 : Int, H4.cell ⟨x35p.block, x35p.off + 10, none⟩ = some (Value.int .i64 x36c10) ∧ ∃ x36c11 : Int, H4.cell ⟨x35p.block, x35p.off + 11, none⟩ = some (Value.int .i64 x36c11) ∧ ∃ x36c12 : Int, H4.cell ⟨x35p.block, x35p.off + 12, none⟩ = some (Value.int .i64 x36c12) ∧ ∃ (x36c13a : Option Addr) (x36c13n x36c13c : Nat), H4.cell ⟨x35p.block, x35p.off + 13, none⟩ = some (Value.slice x36c13a x36c13n x36c13c) ∧ FnW Tryz.prog f_law15_pair_play ⟨[(Value.pointer x17r0), (Value.agg ⟨[(Value.int .i64 x36c0), (Value.int .i64 x36c1), (Value.bool x36c2), (Value.bool x36c3), (Value.slice x36c4a x36c4n x36c4c), (Value.int .i64 x36c5), (Value.int .i64 x36c6), (Value.int .u32 x36c7), (Value.int .u32 x36c8), (Value.int .i64 x36c9), (Value.int .i64 x36c10), (Value.int .i64 x36c11), (Value.int .i64 x36c12), (Value.slice x36c13a x36c13n x36c13c)]⟩)]⟩ H4 fun x37v H5 =>
 x37v = (Value.tuple ⟨[]⟩) ∧
 FnW Tryz.prog f_law15_pair_fits ⟨[(Value.pointer x17r0)]⟩ H5 fun x39v H6 =>
 ∃ x39 : Bool, x39v = (Value.bool x39) ∧
 IfB (!x39)
 (R (Value.bool false) H6)
 (next7 ((IntKind.wrap .i64 (i9 + 1)), ()) H6))
 (R (Value.bool true) H4)
def law15_ConnStream_l7 (turns2a : Option Addr) (turns2n : Nat) (turns2c : Nat) (x17r0 : Option Addr) (i9 : Int) (H3 : Heap) (next7 : (Int × Unit) → Heap → Prop) (R : Value → Heap → Prop) : Prop :=
 IfB (decide ((i9 : Int) < (turns2n : Int)))
 (law15_ConnStream_j0 turns2a turns2n turns2c x17r0 i9 next7 (decide ((i9 : Int) < 100)) H3 R)
 (law15_ConnStream_j0 turns2a turns2n turns2c x17r0 i9 next7 false H3 R)
def law15_ConnStream_p (a0 : Int) (b1 : Int) (turns2a : Option Addr) (turns2n : Nat) (turns2c : Nat) (H : Heap) (R : Value → Heap → Prop) : Prop :=
 FnW Tryz.prog f_law15_works ⟨[]⟩ H fun x10v H1 =>
 ∃ x10 : Bool, x10v = (Value.bool x10) ∧
 IfB (!x10)
 (R (Value.bool false) H1)
 ((1000000 : Int) ≠ 0 ∧
 (1000000 : Int) ≠ 0 ∧
 FnW Tryz.prog f_law15_start ⟨[(Value.int .u32 (Int.tmod a0 1000000)), (Value.int .u32 (Int.tmod b1 1000000))]⟩ H1 fun x17v H2 =>
 ∃ x17r0 : Option Addr, ∃ x17r1 : Bool, x17v = (Value.tuple ⟨[(Value.pointer x17r0), (Value.bool x17r1)]⟩) ∧
 IfB (!x17r1)
 (R (Value.bool false) H2)
 (LoopI (Int × Unit) (0, ()) H2 fun x H next => ∀ _g : Env, law15_ConnStream_l7 turns2a turns2n turns2c x17r0 x.1 H next R))
theorem law15_ConnStream_heq (a0 : Int) (b1 : Int) (turns2a : Option Addr) (turns2n : Nat) (turns2c : Nat) (H : Heap) (R : Value → Heap → Prop) : law15_ConnStream_p a0 b1 turns2a turns2n turns2c H R = CodeW Tryz.prog hplan_law15_ConnStream (bodyOf Tryz.f3) (env0 [(Value.int .u32 a0), (Value.int .u32 b1), (Value.slice turns2a turns2n turns2c)]) H (RetW Tryz.prog Tryz.f3.results.toList R) := by kernel_rfl
theorem law15_ConnStream_sh (a0 : Int) (b1 : Int) (turns2a : Option Addr) (turns2n : Nat) (turns2c : Nat) {H : Heap} {R : Value → Heap → Prop} (h : law15_ConnStream_p a0 b1 turns2a turns2n turns2c H fun v H1 => ∀ H2, Shut H H1 H2 → R v H2) : FnW Tryz.prog f_law15_ConnStream ⟨[(Value.int .u32 a0), (Value.int .u32 b1), (Value.slice turns2a turns2n turns2c)]⟩ H R := FnW.of_code hk_law15_ConnStream (by kernel_rfl) (Eq.mp (law15_ConnStream_heq a0 b1 turns2a turns2n turns2c H _) h)
def hplan_law15_ConnSilent : Plan := ⟨[], [(8, [9], [.int .i64], [0, 3, 6])], [], []⟩
theorem hk_law15_ConnSilent : Known Tryz.prog f_law15_ConnSilent Tryz.f4 hplan_law15_ConnSilent (bodyOf Tryz.f4) := ⟨Tryz.func4, by kernel_rfl, by kernel_rfl, by kernel_rfl, by kernel_rfl, by kernel_rfl⟩
def law15_ConnSilent_j1 (acts0a : Option Addr) (acts0n : Nat) (acts0c : Nat) (x31r0 : Option Addr) (x36r0 : Option Addr) (i9 : Int) (next8 : (Int × Unit) → Heap → Prop) (x144 : Bool) (H40 : Heap) (R : Value → Heap → Prop) : Prop :=
 IfB x144
 (R (Value.bool false) H40)
 (FnW Tryz.prog f_conn_Conn_Due ⟨[(Value.pointer x31r0)]⟩ H40 fun x147v H41 =>
 ∃ x147r0 : Int, ∃ x147r1 : Bool, x147v = (Value.tuple ⟨[(Value.int .i64 x147r0), (Value.bool x147r1)]⟩) ∧
 IfB x147r1
 (R (Value.bool false) H41)
 (next8 ((IntKind.wrap .i64 (i9 + 1)), ()) H41))
def law15_ConnSilent_j0 (acts0a : Option Addr) (acts0n : Nat) (acts0c : Nat) (x31r0 : Option Addr) (x36r0 : Option Addr) (i9 : Int) (next8 : (Int × Unit) → Heap → Prop) (x51 : Bool) (H7 : Heap) (R : Value → Heap → Prop) : Prop :=
 IfB x51
 (NilP acts0a fun x56q =>
 InB i9 acts0n fun x56i =>
 elemAt x56q x56i 14 fun x56p =>
 ∃ x57c0 : Int, H7.cell x56p = some (Value.int .i64 x57c0) ∧ ∃ x57c1 : Int, H7.cell ⟨x56p.block, x56p.off + 1, none⟩ = some (Value.int .i64 x57c1) ∧ ∃ x57c2 : Int, H7.cell ⟨x56p.block, x56p.off + 2, none⟩ = some (Value.int .i64 x57c2) ∧ ∃ x57c3 : Int, H7.cell ⟨x56p.block, x56p.off + 3, none⟩ = some (Value.int .i64 x57c3) ∧ ∃ x57c4 : Int, H7.cell ⟨x56p.block, x56p.off + 4, none⟩ = some (Value.int .i64 x57c4) ∧ ∃ x57c5 : Int, H7.cell ⟨x56p.block, x56p.off + 5, none⟩ = some (Value.int .u32 x57c5) ∧ ∃ x57c6 : Int, H7.cell ⟨x56p.block, x56p.off + 6, none⟩ = some (Value.int .u32 x57c6) ∧ ∃ x57c7 : Int, H7.cell ⟨x56p.block, x56p.off + 7, none⟩ = some (Value.int .i64 x57c7) ∧ ∃ x57c8 : Int, H7.cell ⟨x56p.block, x56p.off + 8, none⟩ = some (Value.int .i64 x57c8) ∧ ∃ x57c9 : Int, H7.cell ⟨x56p.block, x56p.off + 9, none⟩ = some (Value.int .i64 x57c9) ∧ ∃ x57c10 : Int, H7.cell ⟨x56p.block, x56p.off + 10, none⟩ = some (Value.int .i64 x57c10) ∧ ∃ (x57c11a : Option Addr) (x57c11n x57c11c : Nat), H7.cell ⟨x56p.block, x56p.off + 11, none⟩ = some (Value.slice x57c11a x57c11n x57c11c) ∧ ∃ x57c12 : Bool, H7.cell ⟨x56p.block, x56p.off + 12, none⟩ = some (Value.bool x57c12) ∧ ∃ (x57c13a : Option Addr) (x57c13n x57c13c : Nat), H7.cell ⟨x56p.block, x56p.off + 13, none⟩ = some (Value.slice x57c13a x57c13n x57c13c) ∧ NewW H7 (Obj.cells ⟨[(Value.int .i64 0), (Value.int .i64 0), (Value.int .i64 0), (Value.int .i64 0), (Value.int .i64 0), (Value.int .u32 0), (Value.int .u32 0), (Value.int .i64 0), (Value.int .i64 0), (Value.int .i64 0), (Value.int .i64 0), (Value.slice none 0 0), (Value.bool false), (Value.slice none 0 0)]⟩ T_law15_Act) fun a10b H8 =>
 StCell H8 ⟨a10b, 0, none⟩ (Value.int .i64 x57c0) fun H9 =>
 StCell H9 ⟨a10b, 1, none⟩ (Value.int .i64 x57c1) fun H10 =>
 StCell H10 ⟨a10b, 2, none⟩ (Value.int .i64 x57c2) fun H11 =>
 StCell H11 ⟨a10b, 3, none⟩ (Value.int .i64 x57c3) fun H12 =>
 StCell H12 ⟨a10b, 4, none⟩ (Value.int .i64 x57c4) fun H13 =>
 StCell H13 ⟨a10b, 5, none⟩ (Value.int .u32 x57c5) fun H14 =>
 StCell H14 ⟨a10b, 6, none⟩ (Value.int .u32 x57c6) fun H15 =>
 StCell H15 ⟨a10b, 7, none⟩ (Value.int .i64 x57c7) fun H16 =>
 StCell H16 ⟨a10b, 8, none⟩ (Value.int .i64 x57c8) fun H17 =>
 StCell H17 ⟨a10b, 9, none⟩ (Value.int .i64 x57c9) fun H18 =>
 StCell H18 ⟨a10b, 10, none⟩ (Value.int .i64 x57c10) fun H19 =>
 StCell H19 ⟨a10b, 11, none⟩ (Value.slice x57c11a x57c11n x57c11c) fun H20 =>
 StCell H20 ⟨a10b, 12, none⟩ (Value.bool x57c12) fun H21 =>
 StCell H21 ⟨a10b, 13, none⟩ (Value.slice x57c13a x57c13n x57c13c) fun H22 =>
 ∃ x59c0 : Int, H22.cell ⟨a10b, 0, none⟩ = some (Value.int .i64 x59c0) ∧ ∃ x59c1 : Int, H22.cell ⟨a10b, 1, none⟩ = some (Value.int .i64 x59c1) ∧ ∃ x59c2 : Int, H22.cell ⟨a10b, 2, none⟩ = some (Value.int .i64 x59c2) ∧ ∃ x59c3 : Int, H22.cell ⟨a10b, 3, none⟩ = some (Value.int .i64 x59c3) ∧ ∃ x59c4 : Int, H22.cell ⟨a10b, 4, none⟩ = some (Value.int .i64 x59c4) ∧ ∃ x59c5 : Int, H22.cell ⟨a10b, 5, none⟩ = some (Value.int .u32 x59c5) ∧ ∃ x59c6 : Int, H22.cell ⟨a10b, 6, none⟩ = some (Value.int .u32 x59c6) ∧ ∃ x59c7 : Int, H22.cell ⟨a10b, 7, none⟩ = some (Value.int .i64 x59c7) ∧ ∃ x59c8 : Int, H22.cell ⟨a10b, 8, none⟩ = some (Value.int .i64 x59c8) ∧ ∃ x59c9 : Int, H22.cell ⟨a10b, 9, none⟩ = some (Value.int .i64 x59c9) ∧ ∃ x59c10 : Int, H22.cell ⟨a10b, 10, none⟩ = some (Value.int .i64 x59c10) ∧ ∃ (x59c11a : Option Addr) (x59c11n x59c11c : Nat), H22.cell ⟨a10b, 11, none⟩ = some (Value.slice x59c11a x59c11n x59c11c) ∧ ∃ x59c12 : Bool, H22.cell ⟨a10b, 12, none⟩ = some (Value.bool x59c12) ∧ ∃ (x59c13a : Option Addr) (x59c13n x59c13c : Nat), H22.cell ⟨a10b, 13, none⟩ = some (Value.slice x59c13a x59c13n x59c13c) ∧ FnW Tryz.prog f_law15_near ⟨[(Value.pointer x36r0), (Value.agg ⟨[(Value.int .i64 x59c0), (Value.int .i64 x59c1), (Value.int .i64 x59c2), (Value.int .i64 x59c3), (Value.int .i64 x59c4), (Value.int .u32 x59c5), (Value.int .u32 x59c6), (Value.int .i64 x59c7), (Value.int .i64 x59c8), (Value.int .i64 x59c9), (Value.int .i64 x59c10), (Value.slice x59c11a x59c11n x59c11c), (Value.bool x59c12), (Value.slice x59c13a x59c13n x59c13c)]⟩)]⟩ H22 fun x60v H23 =>
 ∃ x60c0 : Int, ∃ x60c1 : Int, ∃ x60c2 : Int, ∃ x60c3 : Int, ∃ x60c4 : Int, ∃ x60c5 : Int, ∃ x60c6 : Int, ∃ x60c7 : Int, ∃ (x60c8a : Option Addr) (x60c8n x60c8c : Nat), x60v = (Value.agg ⟨[(Value.int .i64 x60c0), (Value.int .i64 x60c1), (Value.int .u32 x60c2), (Value.int .u32 x60c3), (Value.int .i64 x60c4), (Value.int .i64 x60c5), (Value.int .i64 x60c6), (Value.int .i64 x60c7), (Value.slice x60c8a x60c8n x60c8c)]⟩) ∧
 NewW H23 (Obj.cells ⟨[(Value.int .i64 0), (Value.int .i64 0), (Value.int .u32 0), (Value.int .u32 0), (Value.int .i64 0), (Value.int .i64 0), (Value.int .i64 0), (Value.int .i64 0), (Value.slice none 0 0)]⟩ T_seg_Segment) fun s11b H24 =>
 StCell H24 ⟨s11b, 0, none⟩ (Value.int .i64 x60c0) fun H25 =>
 StCell H25 ⟨s11b, 1, none⟩ (Value.int .i64 x60c1) fun H26 =>
 StCell H26 ⟨s11b, 2, none⟩ (Value.int .u32 x60c2) fun H27 =>
 StCell H27 ⟨s11b, 3, none⟩ (Value.int .u32 x60c3) fun H28 =>
 StCell H28 ⟨s11b, 4, none⟩ (Value.int .i64 x60c4) fun H29 =>
 StCell H29 ⟨s11b, 5, none⟩ (Value.int .i64 x60c5) fun H30 =>
 StCell H30 ⟨s11b, 6, none⟩ (Value.int .i64 x60c6) fun H31 =>
 StCell H31 ⟨s11b, 7, none⟩ (Value.int .i64 x60c7) fun H32 =>
 StCell H32 ⟨s11b, 8, none⟩ (Value.slice x60c8a x60c8n x60c8c) fun H33 =>
 ∃ x64 : Int, H33.cell ⟨a10b, 1, none⟩ = some (Value.int .i64 x64) ∧
 ∃ x65c0 : Int, H33.cell ⟨s11b, 0, none⟩ = some (Value.int .i64 x65c0) ∧ ∃ x65c1 : Int, H33.cell ⟨s11b, 1, none⟩ = some (Value.int .i64 x65c1) ∧ ∃ x65c2 : Int, H33.cell ⟨s11b, 2, none⟩ = some (Value.int .u32 x65c2) ∧ ∃ x65c3 : Int, H33.cell ⟨s11b, 3, none⟩ = some (Value.int .u32 x65c3) ∧ ∃ x65c4 : Int, H33.cell ⟨s11b, 4, none⟩ = some (Value.int .i64 x65c4) ∧ ∃ x65c5 : Int, H33.cell ⟨s11b, 5, none⟩ = some (Value.int .i64 x65c5) ∧ ∃ x65c6 : Int, H33.cell ⟨s11b, 6, none⟩ = some (Value.int .i64 x65c6) ∧ ∃ x65c7 : Int, H33.cell ⟨s11b, 7, none⟩ = some (Value.int .i64 x65c7) ∧ ∃ (x65c8a : Option Addr) (x65c8n x65c8c : Nat), H33.cell ⟨s11b, 8, none⟩ = some (Value.slice x65c8a x65c8n x65c8c) ∧ FnW Tryz.prog f_conn_Conn_Take ⟨[(Value.pointer x31r0), (Value.int .i64 x64), (Value.agg ⟨[(Value.int .i64 x65c0), (Value.int .i64 x65c1), (Value.int .u32 x65c2), (Value.int .u32 x65c3), (Value.int .i64 x65c4), (Value.int .i64 x65c5), (Value.int .i64 x65c6), (Value.int .i64 x65c7), (Value.slice x65c8a x65c8n x65c8c)]⟩)]⟩ H33 fun x66v H34 =>
 ∃ (x66r0a : Option Addr) (x66r0n x66r0c : Nat), ∃ x66r1 : Int, x66v = (Value.tuple ⟨[(Value.slice x66r0a x66r0n x66r0c), (Value.int .i64 x66r1)]⟩) ∧
 ∃ x72 : Int, H34.cell ⟨a10b, 1, none⟩ = some (Value.int .i64 x72) ∧
 FnW Tryz.prog f_conn_Conn_Tick ⟨[(Value.pointer x31r0), (Value.int .i64 x72)]⟩ H34 fun x73v H35 =>
 ∃ (x73r0a : Option Addr) (x73r0n x73r0c : Nat), ∃ x73r1 : Int, x73v = (Value.tuple ⟨[(Value.slice x73r0a x73r0n x73r0c), (Value.int .i64 x73r1)]⟩) ∧
 ∃ x79 : Int, H35.cell ⟨a10b, 1, none⟩ = some (Value.int .i64 x79) ∧
 ∃ (x81a : Option Addr) (x81n x81c : Nat), H35.cell ⟨a10b, 13, none⟩ = some (Value.slice x81a x81n x81c) ∧
 FnW Tryz.prog f_conn_Conn_Write ⟨[(Value.pointer x31r0), (Value.int .i64 x79), (Value.slice x81a x81n x81c)]⟩ H35 fun x82v H36 =>
 ∃ x82r0 : Int, ∃ (x82r1a : Option Addr) (x82r1n x82r1c : Nat), ∃ x82r2 : Int, x82v = (Value.tuple ⟨[(Value.int .i64 x82r0), (Value.slice x82r1a x82r1n x82r1c), (Value.int .i64 x82r2)]⟩) ∧
 ∃ x89 : Int, H36.cell ⟨a10b, 1, none⟩ = some (Value.int .i64 x89) ∧
 ∃ x91 : Int, H36.cell ⟨a10b, 2, none⟩ = some (Value.int .i64 x91) ∧
 FnW Tryz.prog f_conn_Conn_Read ⟨[(Value.pointer x31r0), (Value.int .i64 x89), (Value.int .i64 x91)]⟩ H36 fun x92v H37 =>
 ∃ (x92r0a : Option Addr) (x92r0n x92r0c : Nat), ∃ (x92r1a : Option Addr) (x92r1n x92r1c : Nat), ∃ x92r2 : Int, x92v = (Value.tuple ⟨[(Value.slice x92r0a x92r0n x92r0c), (Value.slice x92r1a x92r1n x92r1c), (Value.int .i64 x92r2)]⟩) ∧
 ∃ x99 : Int, H37.cell ⟨a10b, 1, none⟩ = some (Value.int .i64 x99) ∧
 FnW Tryz.prog f_conn_Conn_Shut ⟨[(Value.pointer x31r0), (Value.int .i64 x99)]⟩ H37 fun x100v H38 =>
 ∃ (x100r0a : Option Addr) (x100r0n x100r0c : Nat), ∃ x100r1 : Int, x100v = (Value.tuple ⟨[(Value.slice x100r0a x100r0n x100r0c), (Value.int .i64 x100r1)]⟩) ∧
 ∃ x106 : Int, H38.cell ⟨a10b, 1, none⟩ = some (Value.int .i64 x106) ∧
 FnW Tryz.prog f_conn_Conn_Abort ⟨[(Value.pointer x31r0), (Value.int .i64 x106)]⟩ H38 fun x107v H39 =>
 ∃ (x107r0a : Option Addr) (x107r0n x107r0c : Nat), ∃ x107r1 : Int, x107v = (Value.tuple ⟨[(Value.slice x107r0a x107r0n x107r0c), (Value.int .i64 x107r1)]⟩) ∧
 IfB (((IntKind.wrap .i64 ((IntKind.wrap .i64 ((IntKind.wrap .i64 ((IntKind.wrap .i64 ((IntKind.wrap .i64 ((x66r0n : Int) + (x73r0n : Int))) + (x82r1n : Int))) + (x92r1n : Int))) + (x100r0n : Int))) + (x107r0n : Int))) : Int) != 0)
 (law15_ConnSilent_j1 acts0a acts0n acts0c x31r0 x36r0 i9 next8 true H39 R)
 (IfB ((x66r1 : Int) == 0)
 (law15_ConnSilent_j1 acts0a acts0n acts0c x31r0 x36r0 i9 next8 true H39 R)
 (IfB ((x82r2 : Int) == 0)
 (law15_ConnSilent_j1 acts0a acts0n acts0c x31r0 x36r0 i9 next8 true H39 R)
 (IfB ((x100r1 : Int) == 0)
 (law15_ConnSilent_j1 acts0a acts0n acts0c x31r0 x36r0 i9 next8 true H39 R)
 (FnW Tryz.prog f_conn_Conn_State ⟨[(Value.pointer x31r0)]⟩ H39 fun x142v H42 =>
 ∃ x142 : Int, x142v = (Value.int .i64 x142) ∧
 law15_ConnSilent_j1 acts0a acts0n acts0c x31r0 x36r0 i9 next8 ((x142 : Int) != 0) H42 R)))))
 (R (Value.bool true) H7)
def law15_ConnSilent_l8 (acts0a : Option Addr) (acts0n : Nat) (acts0c : Nat) (x31r0 : Option Addr) (x36r0 : Option Addr) (i9 : Int) (H6 : Heap) (next8 : (Int × Unit) → Heap → Prop) (R : Value → Heap → Prop) : Prop :=
 IfB (decide ((i9 : Int) < (acts0n : Int)))
 (law15_ConnSilent_j0 acts0a acts0n acts0c x31r0 x36r0 i9 next8 (decide ((i9 : Int) < 40)) H6 R)
 (law15_ConnSilent_j0 acts0a acts0n acts0c x31r0 x36r0 i9 next8 false H6 R)
def law15_ConnSilent_p (acts0a : Option Addr) (acts0n : Nat) (acts0c : Nat) (H : Heap) (R : Value → Heap → Prop) : Prop :=
 FnW Tryz.prog f_law15_works ⟨[]⟩ H fun x28v H1 =>
 ∃ x28 : Bool, x28v = (Value.bool x28) ∧
 IfB (!x28)
 (R (Value.bool false) H1)
 (FnW Tryz.prog f_conn_Dial ⟨[(Value.int .i64 0), (Value.int .i64 5), (Value.int .i64 6), (Value.int .u32 7)]⟩ H1 fun x31v H2 =>
 ∃ x31r0 : Option Addr, ∃ (x31r1a : Option Addr) (x31r1n x31r1c : Nat), ∃ x31r2 : Int, x31v = (Value.tuple ⟨[(Value.pointer x31r0), (Value.slice x31r1a x31r1n x31r1c), (Value.int .i64 x31r2)]⟩) ∧
 FnW Tryz.prog f_ref15_Dial ⟨[(Value.int .i64 0), (Value.int .i64 5), (Value.int .i64 6), (Value.int .u32 7)]⟩ H2 fun x36v H3 =>
 ∃ x36r0 : Option Addr, ∃ (x36r1a : Option Addr) (x36r1n x36r1c : Nat), ∃ x36r2 : Int, x36v = (Value.tuple ⟨[(Value.pointer x36r0), (Value.slice x36r1a x36r1n x36r1c), (Value.int .i64 x36r2)]⟩) ∧
 FnW Tryz.prog f_conn_Conn_Abort ⟨[(Value.pointer x31r0), (Value.int .i64 0)]⟩ H3 fun x41v H4 =>
 ∃ (x41r0a : Option Addr) (x41r0n x41r0c : Nat), ∃ x41r1 : Int, x41v = (Value.tuple ⟨[(Value.slice x41r0a x41r0n x41r0c), (Value.int .i64 x41r1)]⟩) ∧
 FnW Tryz.prog f_ref15_Conn_Abort ⟨[(Value.pointer x36r0), (Value.int .i64 0)]⟩ H4 fun x43v H5 =>
 ∃ (x43r0a : Option Addr) (x43r0n x43r0c : Nat), ∃ x43r1 : Int, x43v = (Value.tuple ⟨[(Value.slice x43r0a x43r0n x43r0c), (Value.int .i64 x43r1)]⟩) ∧
 LoopI (Int × Unit) (0, ()) H5 fun x H next => ∀ _g : Env, law15_ConnSilent_l8 acts0a acts0n acts0c x31r0 x36r0 x.1 H next R)
theorem law15_ConnSilent_heq (acts0a : Option Addr) (acts0n : Nat) (acts0c : Nat) (H : Heap) (R : Value → Heap → Prop) : law15_ConnSilent_p acts0a acts0n acts0c H R = CodeW Tryz.prog hplan_law15_ConnSilent (bodyOf Tryz.f4) (env0 [(Value.slice acts0a acts0n acts0c)]) H (RetW Tryz.prog Tryz.f4.results.toList R) := by kernel_rfl
theorem law15_ConnSilent_sh (acts0a : Option Addr) (acts0n : Nat) (acts0c : Nat) {H : Heap} {R : Value → Heap → Prop} (h : law15_ConnSilent_p acts0a acts0n acts0c H fun v H1 => ∀ H2, Shut H H1 H2 → R v H2) : FnW Tryz.prog f_law15_ConnSilent ⟨[(Value.slice acts0a acts0n acts0c)]⟩ H R := FnW.of_code hk_law15_ConnSilent (by kernel_rfl) (Eq.mp (law15_ConnSilent_heq acts0a acts0n acts0c H _) h)
def hplan_law15_works : Plan := ⟨[], [], [], []⟩
theorem hk_law15_works : Known Tryz.prog f_law15_works Tryz.f6 hplan_law15_works (bodyOf Tryz.f6) := ⟨Tryz.func6, by kernel_rfl, by kernel_rfl, by kernel_rfl, by kernel_rfl, by kernel_rfl⟩
def law15_works_j2 (x27r0 : Option Addr) (x43r0a : Option Addr) (x43r0n : Nat) (x43r0c : Nat) (x57 : Bool) (H6 : Heap) (R : Value → Heap → Prop) : Prop :=
 IfB x57
 (R (Value.bool false) H6)
 (NilP x43r0a fun x61q =>
 InB 0 x43r0n fun x61i =>
 elemAt x61q x61i 9 fun x61p =>
 ∃ x62c0 : Int, H6.cell x61p = some (Value.int .i64 x62c0) ∧ ∃ x62c1 : Int, H6.cell ⟨x61p.block, x61p.off + 1, none⟩ = some (Value.int .i64 x62c1) ∧ ∃ x62c2 : Int, H6.cell ⟨x61p.block, x61p.off + 2, none⟩ = some (Value.int .u32 x62c2) ∧ ∃ x62c3 : Int, H6.cell ⟨x61p.block, x61p.off + 3, none⟩ = some (Value.int .u32 x62c3) ∧ ∃ x62c4 : Int, H6.cell ⟨x61p.block, x61p.off + 4, none⟩ = some (Value.int .i64 x62c4) ∧ ∃ x62c5 : Int, H6.cell ⟨x61p.block, x61p.off + 5, none⟩ = some (Value.int .i64 x62c5) ∧ ∃ x62c6 : Int, H6.cell ⟨x61p.block, x61p.off + 6, none⟩ = some (Value.int .i64 x62c6) ∧ ∃ x62c7 : Int, H6.cell ⟨x61p.block, x61p.off + 7, none⟩ = some (Value.int .i64 x62c7) ∧ ∃ (x62c8a : Option Addr) (x62c8n x62c8c : Nat), H6.cell ⟨x61p.block, x61p.off + 8, none⟩ = some (Value.slice x62c8a x62c8n x62c8c) ∧ FnW Tryz.prog f_conn_Conn_Take ⟨[(Value.pointer x27r0), (Value.int .i64 1), (Value.agg ⟨[(Value.int .i64 x62c0), (Value.int .i64 x62c1), (Value.int .u32 x62c2), (Value.int .u32 x62c3), (Value.int .i64 x62c4), (Value.int .i64 x62c5), (Value.int .i64 x62c6), (Value.int .i64 x62c7), (Value.slice x62c8a x62c8n x62c8c)]⟩)]⟩ H6 fun x63v H7 =>
 ∃ (x63r0a : Option Addr) (x63r0n x63r0c : Nat), ∃ x63r1 : Int, x63v = (Value.tuple ⟨[(Value.slice x63r0a x63r0n x63r0c), (Value.int .i64 x63r1)]⟩) ∧
 IfB ((x63r1 : Int) == 0)
 (IfB (((x63r0n : Int) : Int) == 0)
 (FnW Tryz.prog f_conn_Conn_State ⟨[(Value.pointer x27r0)]⟩ H7 fun x75v H8 =>
 ∃ x75 : Int, x75v = (Value.int .i64 x75) ∧
 R (Value.bool ((x75 : Int) == 3)) H8)
 (R (Value.bool false) H7))
 (R (Value.bool false) H7))
def law15_works_j1 (x12r0 : Option Addr) (x27r0 : Option Addr) (x27r1a : Option Addr) (x27r1n : Nat) (x27r1c : Nat) (x37 : Bool) (H4 : Heap) (R : Value → Heap → Prop) : Prop :=
 IfB x37
 (R (Value.bool false) H4)
 (NilP x27r1a fun x41q =>
 InB 0 x27r1n fun x41i =>
 elemAt x41q x41i 9 fun x41p =>
 ∃ x42c0 : Int, H4.cell x41p = some (Value.int .i64 x42c0) ∧ ∃ x42c1 : Int, H4.cell ⟨x41p.block, x41p.off + 1, none⟩ = some (Value.int .i64 x42c1) ∧ ∃ x42c2 : Int, H4.cell ⟨x41p.block, x41p.off + 2, none⟩ = some (Value.int .u32 x42c2) ∧ ∃ x42c3 : Int, H4.cell ⟨x41p.block, x41p.off + 3, none⟩ = some (Value.int .u32 x42c3) ∧ ∃ x42c4 : Int, H4.cell ⟨x41p.block, x41p.off + 4, none⟩ = some (Value.int .i64 x42c4) ∧ ∃ x42c5 : Int, H4.cell ⟨x41p.block, x41p.off + 5, none⟩ = some (Value.int .i64 x42c5) ∧ ∃ x42c6 : Int, H4.cell ⟨x41p.block, x41p.off + 6, none⟩ = some (Value.int .i64 x42c6) ∧ ∃ x42c7 : Int, H4.cell ⟨x41p.block, x41p.off + 7, none⟩ = some (Value.int .i64 x42c7) ∧ ∃ (x42c8a : Option Addr) (x42c8n x42c8c : Nat), H4.cell ⟨x41p.block, x41p.off + 8, none⟩ = some (Value.slice x42c8a x42c8n x42c8c) ∧ FnW Tryz.prog f_conn_Conn_Take ⟨[(Value.pointer x12r0), (Value.int .i64 1), (Value.agg ⟨[(Value.int .i64 x42c0), (Value.int .i64 x42c1), (Value.int .u32 x42c2), (Value.int .u32 x42c3), (Value.int .i64 x42c4), (Value.int .i64 x42c5), (Value.int .i64 x42c6), (Value.int .i64 x42c7), (Value.slice x42c8a x42c8n x42c8c)]⟩)]⟩ H4 fun x43v H5 =>
 ∃ (x43r0a : Option Addr) (x43r0n x43r0c : Nat), ∃ x43r1 : Int, x43v = (Value.tuple ⟨[(Value.slice x43r0a x43r0n x43r0c), (Value.int .i64 x43r1)]⟩) ∧
 IfB ((x43r1 : Int) != 0)
 (law15_works_j2 x27r0 x43r0a x43r0n x43r0c true H5 R)
 (IfB (((x43r0n : Int) : Int) != 1)
 (law15_works_j2 x27r0 x43r0a x43r0n x43r0c true H5 R)
 (FnW Tryz.prog f_conn_Conn_State ⟨[(Value.pointer x12r0)]⟩ H5 fun x55v H9 =>
 ∃ x55 : Int, x55v = (Value.int .i64 x55) ∧
 law15_works_j2 x27r0 x43r0a x43r0n x43r0c ((x55 : Int) != 3) H9 R)))
def law15_works_j0 (x12r0 : Option Addr) (x12r1a : Option Addr) (x12r1n : Nat) (x12r1c : Nat) (x22 : Bool) (H2 : Heap) (R : Value → Heap → Prop) : Prop :=
 IfB x22
 (R (Value.bool false) H2)
 (NilP x12r1a fun x25q =>
 InB 0 x12r1n fun x25i =>
 elemAt x25q x25i 9 fun x25p =>
 ∃ x26c0 : Int, H2.cell x25p = some (Value.int .i64 x26c0) ∧ ∃ x26c1 : Int, H2.cell ⟨x25p.block, x25p.off + 1, none⟩ = some (Value.int .i64 x26c1) ∧ ∃ x26c2 : Int, H2.cell ⟨x25p.block, x25p.off + 2, none⟩ = some (Value.int .u32 x26c2) ∧ ∃ x26c3 : Int, H2.cell ⟨x25p.block, x25p.off + 3, none⟩ = some (Value.int .u32 x26c3) ∧ ∃ x26c4 : Int, H2.cell ⟨x25p.block, x25p.off + 4, none⟩ = some (Value.int .i64 x26c4) ∧ ∃ x26c5 : Int, H2.cell ⟨x25p.block, x25p.off + 5, none⟩ = some (Value.int .i64 x26c5) ∧ ∃ x26c6 : Int, H2.cell ⟨x25p.block, x25p.off + 6, none⟩ = some (Value.int .i64 x26c6) ∧ ∃ x26c7 : Int, H2.cell ⟨x25p.block, x25p.off + 7, none⟩ = some (Value.int .i64 x26c7) ∧ ∃ (x26c8a : Option Addr) (x26c8n x26c8c : Nat), H2.cell ⟨x25p.block, x25p.off + 8, none⟩ = some (Value.slice x26c8a x26c8n x26c8c) ∧ FnW Tryz.prog f_conn_Accept ⟨[(Value.int .i64 0), (Value.agg ⟨[(Value.int .i64 x26c0), (Value.int .i64 x26c1), (Value.int .u32 x26c2), (Value.int .u32 x26c3), (Value.int .i64 x26c4), (Value.int .i64 x26c5), (Value.int .i64 x26c6), (Value.int .i64 x26c7), (Value.slice x26c8a x26c8n x26c8c)]⟩), (Value.int .u32 200)]⟩ H2 fun x27v H3 =>
 ∃ x27r0 : Option Addr, ∃ (x27r1a : Option Addr) (x27r1n x27r1c : Nat), ∃ x27r2 : Int, x27v = (Value.tuple ⟨[(Value.pointer x27r0), (Value.slice x27r1a x27r1n x27r1c), (Value.int .i64 x27r2)]⟩) ∧
 IfB ((x27r2 : Int) != 0)
 (law15_works_j1 x12r0 x27r0 x27r1a x27r1n x27r1c true H3 R)
 (law15_works_j1 x12r0 x27r0 x27r1a x27r1n x27r1c (((x27r1n : Int) : Int) != 1) H3 R))
def law15_works_p (H : Heap) (R : Value → Heap → Prop) : Prop :=
 FnW Tryz.prog f_conn_Dial ⟨[(Value.int .i64 0), (Value.int .i64 5), (Value.int .i64 6), (Value.int .u32 100)]⟩ H fun x12v H1 =>
 ∃ x12r0 : Option Addr, ∃ (x12r1a : Option Addr) (x12r1n x12r1c : Nat), ∃ x12r2 : Int, x12v = (Value.tuple ⟨[(Value.pointer x12r0), (Value.slice x12r1a x12r1n x12r1c), (Value.int .i64 x12r2)]⟩) ∧
 IfB ((x12r2 : Int) != 0)
 (law15_works_j0 x12r0 x12r1a x12r1n x12r1c true H1 R)
 (law15_works_j0 x12r0 x12r1a x12r1n x12r1c (((x12r1n : Int) : Int) != 1) H1 R)
theorem law15_works_heq  (H : Heap) (R : Value → Heap → Prop) : law15_works_p  H R = CodeW Tryz.prog hplan_law15_works (bodyOf Tryz.f6) (env0 []) H (RetW Tryz.prog Tryz.f6.results.toList R) := by kernel_rfl
theorem law15_works_sh  {H : Heap} {R : Value → Heap → Prop} (h : law15_works_p  H fun v H1 => ∀ H2, Shut H H1 H2 → R v H2) : FnW Tryz.prog f_law15_works ⟨[]⟩ H R := FnW.of_code hk_law15_works (by kernel_rfl) (Eq.mp (law15_works_heq  H _) h)
def hplan_law15_start : Plan := ⟨[], [], [], []⟩
theorem hk_law15_start : Known Tryz.prog f_law15_start Tryz.f7 hplan_law15_start (bodyOf Tryz.f7) := ⟨Tryz.func7, by kernel_rfl, by kernel_rfl, by kernel_rfl, by kernel_rfl, by kernel_rfl⟩
def law15_start_j0 (b1 : Int) (x14r0 : Option Addr) (x14r1a : Option Addr) (x14r1n : Nat) (x14r1c : Nat) (x24 : Bool) (H2 : Heap) (R : Value → Heap → Prop) : Prop :=
 IfB x24
 (R (Value.tuple ⟨[(Value.pointer none), (Value.bool false)]⟩) H2)
 (NilP x14r1a fun x27q =>
 InB 0 x14r1n fun x27i =>
 elemAt x27q x27i 9 fun x27p =>
 ∃ x28c0 : Int, H2.cell x27p = some (Value.int .i64 x28c0) ∧ ∃ x28c1 : Int, H2.cell ⟨x27p.block, x27p.off + 1, none⟩ = some (Value.int .i64 x28c1) ∧ ∃ x28c2 : Int, H2.cell ⟨x27p.block, x27p.off + 2, none⟩ = some (Value.int .u32 x28c2) ∧ ∃ x28c3 : Int, H2.cell ⟨x27p.block, x27p.off + 3, none⟩ = some (Value.int .u32 x28c3) ∧ ∃ x28c4 : Int, H2.cell ⟨x27p.block, x27p.off + 4, none⟩ = some (Value.int .i64 x28c4) ∧ ∃ x28c5 : Int, H2.cell ⟨x27p.block, x27p.off + 5, none⟩ = some (Value.int .i64 x28c5) ∧ ∃ x28c6 : Int, H2.cell ⟨x27p.block, x27p.off + 6, none⟩ = some (Value.int .i64 x28c6) ∧ ∃ x28c7 : Int, H2.cell ⟨x27p.block, x27p.off + 7, none⟩ = some (Value.int .i64 x28c7) ∧ ∃ (x28c8a : Option Addr) (x28c8n x28c8c : Nat), H2.cell ⟨x27p.block, x27p.off + 8, none⟩ = some (Value.slice x28c8a x28c8n x28c8c) ∧ FnW Tryz.prog f_conn_Accept ⟨[(Value.int .i64 0), (Value.agg ⟨[(Value.int .i64 x28c0), (Value.int .i64 x28c1), (Value.int .u32 x28c2), (Value.int .u32 x28c3), (Value.int .i64 x28c4), (Value.int .i64 x28c5), (Value.int .i64 x28c6), (Value.int .i64 x28c7), (Value.slice x28c8a x28c8n x28c8c)]⟩), (Value.int .u32 b1)]⟩ H2 fun x30v H3 =>
 ∃ x30r0 : Option Addr, ∃ (x30r1a : Option Addr) (x30r1n x30r1c : Nat), ∃ x30r2 : Int, x30v = (Value.tuple ⟨[(Value.pointer x30r0), (Value.slice x30r1a x30r1n x30r1c), (Value.int .i64 x30r2)]⟩) ∧
 NewW H3 (Obj.cells ⟨[(Value.pointer x14r0), (Value.pointer x30r0), (Value.slice none 0 0), (Value.slice none 0 0), (Value.slice none 0 0), (Value.slice none 0 0), (Value.slice x30r1a x30r1n x30r1c), (Value.slice none 0 0), (Value.int .i64 0), (Value.bool false), (Value.bool false), (Value.bool false)]⟩ T_law15_pair) fun x40b H4 =>
 R (Value.tuple ⟨[(Value.pointer (some ⟨x40b, 0, none⟩)), (Value.bool ((x30r2 : Int) == 0))]⟩) H4)
def law15_start_p (a0 : Int) (b1 : Int) (H : Heap) (R : Value → Heap → Prop) : Prop :=
 FnW Tryz.prog f_conn_Dial ⟨[(Value.int .i64 0), (Value.int .i64 5), (Value.int .i64 6), (Value.int .u32 a0)]⟩ H fun x14v H1 =>
 ∃ x14r0 : Option Addr, ∃ (x14r1a : Option Addr) (x14r1n x14r1c : Nat), ∃ x14r2 : Int, x14v = (Value.tuple ⟨[(Value.pointer x14r0), (Value.slice x14r1a x14r1n x14r1c), (Value.int .i64 x14r2)]⟩) ∧
 IfB ((x14r2 : Int) != 0)
 (law15_start_j0 b1 x14r0 x14r1a x14r1n x14r1c true H1 R)
 (law15_start_j0 b1 x14r0 x14r1a x14r1n x14r1c (((x14r1n : Int) : Int) != 1) H1 R)
theorem law15_start_heq (a0 : Int) (b1 : Int) (H : Heap) (R : Value → Heap → Prop) : law15_start_p a0 b1 H R = CodeW Tryz.prog hplan_law15_start (bodyOf Tryz.f7) (env0 [(Value.int .u32 a0), (Value.int .u32 b1)]) H (RetW Tryz.prog Tryz.f7.results.toList R) := by kernel_rfl
theorem law15_start_sh (a0 : Int) (b1 : Int) {H : Heap} {R : Value → Heap → Prop} (h : law15_start_p a0 b1 H fun v H1 => ∀ H2, Shut H H1 H2 → R v H2) : FnW Tryz.prog f_law15_start ⟨[(Value.int .u32 a0), (Value.int .u32 b1)]⟩ H R := FnW.of_code hk_law15_start (by kernel_rfl) (Eq.mp (law15_start_heq a0 b1 H _) h)
def hplan_law15_pair_play : Plan := ⟨[(8, [0, 1, 3, 4, 5, 6, 7, 8, 9, 11, 12, 2, 10, 13, 14], [])], [], [], []⟩
theorem hk_law15_pair_play : Known Tryz.prog f_law15_pair_play Tryz.f8 hplan_law15_pair_play (bodyOf Tryz.f8) := ⟨Tryz.func8, by kernel_rfl, by kernel_rfl, by kernel_rfl, by kernel_rfl, by kernel_rfl⟩
def law15_pair_play_j0 (p0b : Nat) (t3b : Nat) (k4 : Int) (H2 : Heap) (R : Value → Heap → Prop) : Prop :=
 ∃ x11 : Int, H2.cell ⟨t3b, 0, none⟩ = some (Value.int .i64 x11) ∧
 FnW Tryz.prog f_base_Among ⟨[(Value.int .i64 x11), (Value.int .i64 11)]⟩ H2 fun x12v H3 =>
 ∃ x12 : Int, x12v = (Value.int .i64 x12) ∧
 IfB ((x12 : Int) == 5)
 (InB k4 2 fun x26i =>
 ∃ (x27a : Option Addr) (x27n x27c : Nat), H3.cell ⟨p0b, 6 + x26i * 1, none⟩ = some (Value.slice x27a x27n x27c) ∧
 IfB (decide (((x27n : Int) : Int) > 0))
 (InB k4 2 fun x37i =>
 ∃ (x38a : Option Addr) (x38n x38c : Nat), H3.cell ⟨p0b, 6 + x37i * 1, none⟩ = some (Value.slice x38a x38n x38c) ∧
 InC 1 x38n fun x39l =>
 NewW H3 (Obj.cells ⟨[]⟩ T_seg_Segment) fun x32b H4 =>
 AppW Tryz.prog #[T_sl_seg_Segment, T_sl_seg_Segment] T_sl_seg_Segment [(Value.slice (some ⟨x32b, 0, none⟩) 0 0), (Value.slice (if x38c = x39l then x38a else Option.map (fun a => Addr.add a (x39l * 9)) x38a) (x38n - x39l) (x38c - x39l))] H4 fun x40v H5 =>
 ∃ (x40a : Option Addr) (x40n x40c : Nat), x40v = (Value.slice x40a x40n x40c) ∧
 InB k4 2 fun x43i =>
 StCell H5 ⟨p0b, 6 + x43i * 1, none⟩ (Value.slice x40a x40n x40c) fun H6 =>
 R (Value.tuple ⟨[]⟩) H6)
 (R (Value.tuple ⟨[]⟩) H3))
 (IfB ((x12 : Int) == 6)
 (∃ x48 : Int, H3.cell ⟨t3b, 1, none⟩ = some (Value.int .i64 x48) ∧
 FnW Tryz.prog f_base_Among ⟨[(Value.int .i64 x48), (Value.int .i64 100)]⟩ H3 fun x49v H7 =>
 ∃ x49 : Int, x49v = (Value.int .i64 x49) ∧
 FnW Tryz.prog f_law15_pair_tick ⟨[(Value.pointer (some ⟨p0b, 0, none⟩)), (Value.int .i64 x49)]⟩ H7 fun x50v H8 =>
 x50v = (Value.tuple ⟨[]⟩) ∧
 R (Value.tuple ⟨[]⟩) H8)
 (IfB ((x12 : Int) == 7)
 (∃ (x56a : Option Addr) (x56n x56c : Nat), H3.cell ⟨t3b, 4, none⟩ = some (Value.slice x56a x56n x56c) ∧
 ∃ (x58a : Option Addr) (x58n x58c : Nat), H3.cell ⟨t3b, 4, none⟩ = some (Value.slice x58a x58n x58c) ∧
 InC (min (x58n : Int) 300) x56c fun x61h =>
 FnW Tryz.prog f_law15_pair_write ⟨[(Value.pointer (some ⟨p0b, 0, none⟩)), (Value.int .i64 k4), (Value.slice x56a x61h x56c)]⟩ H3 fun x62v H9 =>
 x62v = (Value.tuple ⟨[]⟩) ∧
 R (Value.tuple ⟨[]⟩) H9)
 (IfB ((x12 : Int) == 8)
 (∃ x68 : Int, H3.cell ⟨t3b, 1, none⟩ = some (Value.int .i64 x68) ∧
 FnW Tryz.prog f_base_Among ⟨[(Value.int .i64 x68), (Value.int .i64 400)]⟩ H3 fun x69v H10 =>
 ∃ x69 : Int, x69v = (Value.int .i64 x69) ∧
 FnW Tryz.prog f_law15_pair_get ⟨[(Value.pointer (some ⟨p0b, 0, none⟩)), (Value.int .i64 k4), (Value.int .i64 x69)]⟩ H10 fun x70v H11 =>
 x70v = (Value.tuple ⟨[]⟩) ∧
 R (Value.tuple ⟨[]⟩) H11)
 (IfB ((x12 : Int) == 9)
 (FnW Tryz.prog f_law15_pair_shut ⟨[(Value.pointer (some ⟨p0b, 0, none⟩)), (Value.int .i64 k4)]⟩ H3 fun x75v H12 =>
 x75v = (Value.tuple ⟨[]⟩) ∧
 R (Value.tuple ⟨[]⟩) H12)
 (IfB ((x12 : Int) == 10)
 (InB k4 2 fun x82i =>
 ∃ x83 : Option Addr, H3.cell ⟨p0b, 0 + x82i * 1, none⟩ = some (Value.pointer x83) ∧
 FnW Tryz.prog f_conn_Conn_State ⟨[(Value.pointer x83)]⟩ H3 fun x84v H13 =>
 ∃ x84 : Int, x84v = (Value.int .i64 x84) ∧
 IfB ((x84 : Int) == 1)
 (R (Value.tuple ⟨[]⟩) H13)
 (∃ x87c0 : Int, H13.cell ⟨t3b, 5, none⟩ = some (Value.int .i64 x87c0) ∧ ∃ x87c1 : Int, H13.cell ⟨t3b, 6, none⟩ = some (Value.int .i64 x87c1) ∧ ∃ x87c2 : Int, H13.cell ⟨t3b, 7, none⟩ = some (Value.int .u32 x87c2) ∧ ∃ x87c3 : Int, H13.cell ⟨t3b, 8, none⟩ = some (Value.int .u32 x87c3) ∧ ∃ x87c4 : Int, H13.cell ⟨t3b, 9, none⟩ = some (Value.int .i64 x87c4) ∧ ∃ x87c5 : Int, H13.cell ⟨t3b, 10, none⟩ = some (Value.int .i64 x87c5) ∧ ∃ x87c6 : Int, H13.cell ⟨t3b, 11, none⟩ = some (Value.int .i64 x87c6) ∧ ∃ x87c7 : Int, H13.cell ⟨t3b, 12, none⟩ = some (Value.int .i64 x87c7) ∧ ∃ (x87c8a : Option Addr) (x87c8n x87c8c : Nat), H13.cell ⟨t3b, 13, none⟩ = some (Value.slice x87c8a x87c8n x87c8c) ∧ FnW Tryz.prog f_law15_few ⟨[(Value.agg ⟨[(Value.int .i64 x87c0), (Value.int .i64 x87c1), (Value.int .u32 x87c2), (Value.int .u32 x87c3), (Value.int .i64 x87c4), (Value.int .i64 x87c5), (Value.int .i64 x87c6), (Value.int .i64 x87c7), (Value.slice x87c8a x87c8n x87c8c)]⟩)]⟩ H13 fun x88v H14 =>
 ∃ x88c0 : Int, ∃ x88c1 : Int, ∃ x88c2 : Int, ∃ x88c3 : Int, ∃ x88c4 : Int, ∃ x88c5 : Int, ∃ x88c6 : Int, ∃ x88c7 : Int, ∃ (x88c8a : Option Addr) (x88c8n x88c8c : Nat), x88v = (Value.agg ⟨[(Value.int .i64 x88c0), (Value.int .i64 x88c1), (Value.int .u32 x88c2), (Value.int .u32 x88c3), (Value.int .i64 x88c4), (Value.int .i64 x88c5), (Value.int .i64 x88c6), (Value.int .i64 x88c7), (Value.slice x88c8a x88c8n x88c8c)]⟩) ∧
 NewW H14 (Obj.cells ⟨[(Value.int .i64 0), (Value.int .i64 0), (Value.int .u32 0), (Value.int .u32 0), (Value.int .i64 0), (Value.int .i64 0), (Value.int .i64 0), (Value.int .i64 0), (Value.slice none 0 0)]⟩ T_seg_Segment) fun s5b H15 =>
 StCell H15 ⟨s5b, 0, none⟩ (Value.int .i64 x88c0) fun H16 =>
 StCell H16 ⟨s5b, 1, none⟩ (Value.int .i64 x88c1) fun H17 =>
 StCell H17 ⟨s5b, 2, none⟩ (Value.int .u32 x88c2) fun H18 =>
 StCell H18 ⟨s5b, 3, none⟩ (Value.int .u32 x88c3) fun H19 =>
 StCell H19 ⟨s5b, 4, none⟩ (Value.int .i64 x88c4) fun H20 =>
 StCell H20 ⟨s5b, 5, none⟩ (Value.int .i64 x88c5) fun H21 =>
 StCell H21 ⟨s5b, 6, none⟩ (Value.int .i64 x88c6) fun H22 =>
 StCell H22 ⟨s5b, 7, none⟩ (Value.int .i64 x88c7) fun H23 =>
 StCell H23 ⟨s5b, 8, none⟩ (Value.slice x88c8a x88c8n x88c8c) fun H24 =>
 ∃ x90 : Int, H24.cell ⟨s5b, 2, none⟩ = some (Value.int .u32 x90) ∧
 (1000 : Int) ≠ 0 ∧
 StCell H24 ⟨s5b, 2, none⟩ (Value.int .u32 (IntKind.wrap .u32 (2147483648 + (Int.tmod x90 1000)))) fun H25 =>
 ∃ x95 : Int, H25.cell ⟨s5b, 4, none⟩ = some (Value.int .i64 x95) ∧
 FnW Tryz.prog f_base_Among ⟨[(Value.int .i64 x95), (Value.int .i64 64)]⟩ H25 fun x96v H26 =>
 ∃ x96 : Int, x96v = (Value.int .i64 x96) ∧
 StCell H26 ⟨s5b, 4, none⟩ (Value.int .i64 (bitsOr .i64 x96 16)) fun H27 =>
 InB k4 2 fun x104i =>
 ∃ x105 : Option Addr, H27.cell ⟨p0b, 0 + x104i * 1, none⟩ = some (Value.pointer x105) ∧
 ∃ x109 : Int, H27.cell ⟨p0b, 8, none⟩ = some (Value.int .i64 x109) ∧
 ∃ x110c0 : Int, H27.cell ⟨s5b, 0, none⟩ = some (Value.int .i64 x110c0) ∧ ∃ x110c1 : Int, H27.cell ⟨s5b, 1, none⟩ = some (Value.int .i64 x110c1) ∧ ∃ x110c2 : Int, H27.cell ⟨s5b, 2, none⟩ = some (Value.int .u32 x110c2) ∧ ∃ x110c3 : Int, H27.cell ⟨s5b, 3, none⟩ = some (Value.int .u32 x110c3) ∧ ∃ x110c4 : Int, H27.cell ⟨s5b, 4, none⟩ = some (Value.int .i64 x110c4) ∧ ∃ x110c5 : Int, H27.cell ⟨s5b, 5, none⟩ = some (Value.int .i64 x110c5) ∧ ∃ x110c6 : Int, H27.cell ⟨s5b, 6, none⟩ = some (Value.int .i64 x110c6) ∧ ∃ x110c7 : Int, H27.cell ⟨s5b, 7, none⟩ = some (Value.int .i64 x110c7) ∧ ∃ (x110c8a : Option Addr) (x110c8n x110c8c : Nat), H27.cell ⟨s5b, 8, none⟩ = some (Value.slice x110c8a x110c8n x110c8c) ∧ FnW Tryz.prog f_conn_Conn_Take ⟨[(Value.pointer x105), (Value.int .i64 x109), (Value.agg ⟨[(Value.int .i64 x110c0), (Value.int .i64 x110c1), (Value.int .u32 x110c2), (Value.int .u32 x110c3), (Value.int .i64 x110c4), (Value.int .i64 x110c5), (Value.int .i64 x110c6), (Value.int .i64 x110c7), (Value.slice x110c8a x110c8n x110c8c)]⟩)]⟩ H27 fun x111v H28 =>
 ∃ (x111r0a : Option Addr) (x111r0n x111r0c : Nat), ∃ x111r1 : Int, x111v = (Value.tuple ⟨[(Value.slice x111r0a x111r0n x111r0c), (Value.int .i64 x111r1)]⟩) ∧
 FnW Tryz.prog f_law15_pair_put ⟨[(Value.pointer (some ⟨p0b, 0, none⟩)), (Value.int .i64 k4), (Value.slice x111r0a x111r0n x111r0c)]⟩ H28 fun x117v H29 =>
 x117v = (Value.tuple ⟨[]⟩) ∧
 R (Value.tuple ⟨[]⟩) H29))
 (∃ x16 : Int, H3.cell ⟨t3b, 1, none⟩ = some (Value.int .i64 x16) ∧
 ∃ x18 : Bool, H3.cell ⟨t3b, 3, none⟩ = some (Value.bool x18) ∧
 FnW Tryz.prog f_law15_pair_come ⟨[(Value.pointer (some ⟨p0b, 0, none⟩)), (Value.int .i64 k4), (Value.int .i64 x16), (Value.bool x18)]⟩ H3 fun x19v H30 =>
 x19v = (Value.tuple ⟨[]⟩) ∧
 R (Value.tuple ⟨[]⟩) H30))))))
def law15_pair_play_p (p0b : Nat) (t1c0 : Int) (t1c1 : Int) (t1c2 : Bool) (t1c3 : Bool) (t1c4a : Option Addr) (t1c4n : Nat) (t1c4c : Nat) (t1c5 : Int) (t1c6 : Int) (t1c7 : Int) (t1c8 : Int) (t1c9 : Int) (t1c10 : Int) (t1c11 : Int) (t1c12 : Int) (t1c13a : Option Addr) (t1c13n : Nat) (t1c13c : Nat) (H : Heap) (R : Value → Heap → Prop) : Prop :=
 NewW H (Obj.cells ⟨[(Value.int .i64 t1c0), (Value.int .i64 t1c1), (Value.bool t1c2), (Value.bool t1c3), (Value.slice t1c4a t1c4n t1c4c), (Value.int .i64 t1c5), (Value.int .i64 t1c6), (Value.int .u32 t1c7), (Value.int .u32 t1c8), (Value.int .i64 t1c9), (Value.int .i64 t1c10), (Value.int .i64 t1c11), (Value.int .i64 t1c12), (Value.slice t1c13a t1c13n t1c13c)]⟩ T_law15_Turn) fun t3b H1 =>
 ∃ x9 : Bool, H1.cell ⟨t3b, 2, none⟩ = some (Value.bool x9) ∧
 IfB x9
 (law15_pair_play_j0 p0b t3b 1 H1 R)
 (law15_pair_play_j0 p0b t3b 0 H1 R)
theorem law15_pair_play_heq (p0b : Nat) (t1c0 : Int) (t1c1 : Int) (t1c2 : Bool) (t1c3 : Bool) (t1c4a : Option Addr) (t1c4n : Nat) (t1c4c : Nat) (t1c5 : Int) (t1c6 : Int) (t1c7 : Int) (t1c8 : Int) (t1c9 : Int) (t1c10 : Int) (t1c11 : Int) (t1c12 : Int) (t1c13a : Option Addr) (t1c13n : Nat) (t1c13c : Nat) (H : Heap) (R : Value → Heap → Prop) : law15_pair_play_p p0b t1c0 t1c1 t1c2 t1c3 t1c4a t1c4n t1c4c t1c5 t1c6 t1c7 t1c8 t1c9 t1c10 t1c11 t1c12 t1c13a t1c13n t1c13c H R = CodeW Tryz.prog hplan_law15_pair_play (bodyOf Tryz.f8) (env0 [(Value.pointer (some ⟨p0b, 0, none⟩)), (Value.agg ⟨[(Value.int .i64 t1c0), (Value.int .i64 t1c1), (Value.bool t1c2), (Value.bool t1c3), (Value.slice t1c4a t1c4n t1c4c), (Value.int .i64 t1c5), (Value.int .i64 t1c6), (Value.int .u32 t1c7), (Value.int .u32 t1c8), (Value.int .i64 t1c9), (Value.int .i64 t1c10), (Value.int .i64 t1c11), (Value.int .i64 t1c12), (Value.slice t1c13a t1c13n t1c13c)]⟩)]) H (RetW Tryz.prog Tryz.f8.results.toList R) := by kernel_rfl
theorem law15_pair_play_sh (p0b : Nat) (t1c0 : Int) (t1c1 : Int) (t1c2 : Bool) (t1c3 : Bool) (t1c4a : Option Addr) (t1c4n : Nat) (t1c4c : Nat) (t1c5 : Int) (t1c6 : Int) (t1c7 : Int) (t1c8 : Int) (t1c9 : Int) (t1c10 : Int) (t1c11 : Int) (t1c12 : Int) (t1c13a : Option Addr) (t1c13n : Nat) (t1c13c : Nat) {H : Heap} {R : Value → Heap → Prop} (h : law15_pair_play_p p0b t1c0 t1c1 t1c2 t1c3 t1c4a t1c4n t1c4c t1c5 t1c6 t1c7 t1c8 t1c9 t1c10 t1c11 t1c12 t1c13a t1c13n t1c13c H fun v H1 => ∀ H2, Shut H H1 H2 → R v H2) : FnW Tryz.prog f_law15_pair_play ⟨[(Value.pointer (some ⟨p0b, 0, none⟩)), (Value.agg ⟨[(Value.int .i64 t1c0), (Value.int .i64 t1c1), (Value.bool t1c2), (Value.bool t1c3), (Value.slice t1c4a t1c4n t1c4c), (Value.int .i64 t1c5), (Value.int .i64 t1c6), (Value.int .u32 t1c7), (Value.int .u32 t1c8), (Value.int .i64 t1c9), (Value.int .i64 t1c10), (Value.int .i64 t1c11), (Value.int .i64 t1c12), (Value.slice t1c13a t1c13n t1c13c)]⟩)]⟩ H R := FnW.of_code hk_law15_pair_play (by kernel_rfl) (Eq.mp (law15_pair_play_heq p0b t1c0 t1c1 t1c2 t1c3 t1c4a t1c4n t1c4c t1c5 t1c6 t1c7 t1c8 t1c9 t1c10 t1c11 t1c12 t1c13a t1c13n t1c13c H _) h)
def hplan_law15_pair_fits : Plan := ⟨[], [(2, [3], [.int .i64], [0])], [], []⟩
theorem hk_law15_pair_fits : Known Tryz.prog f_law15_pair_fits Tryz.f9 hplan_law15_pair_fits (bodyOf Tryz.f9) := ⟨Tryz.func9, by kernel_rfl, by kernel_rfl, by kernel_rfl, by kernel_rfl, by kernel_rfl⟩
def law15_pair_fits_j0 (p0b : Nat) (k3 : Int) (next2 : (Int × Unit) → Heap → Prop) (x65 : Bool) (H2 : Heap) (R : Value → Heap → Prop) : Prop :=
 IfB x65
 (R (Value.bool false) H2)
 (next2 ((IntKind.wrap .i64 (k3 + 1)), ()) H2)
def law15_pair_fits_l2 (p0b : Nat) (k3 : Int) (H1 : Heap) (next2 : (Int × Unit) → Heap → Prop) (R : Value → Heap → Prop) : Prop :=
 IfB (decide ((k3 : Int) < 2))
 (InB (IntKind.wrap .i64 (1 - k3)) 2 fun x14i =>
 ∃ (x15a : Option Addr) (x15n x15c : Nat), H1.cell ⟨p0b, 2 + x14i * 1, none⟩ = some (Value.slice x15a x15n x15c) ∧
 InB k3 2 fun x20i =>
 ∃ (x21a : Option Addr) (x21n x21c : Nat), H1.cell ⟨p0b, 4 + x20i * 1, none⟩ = some (Value.slice x21a x21n x21c) ∧
 IfB (decide (((x21n : Int) : Int) > (x15n : Int)))
 (law15_pair_fits_j0 p0b k3 next2 true H1 R)
 (InB k3 2 fun x31i =>
 ∃ (x32a : Option Addr) (x32n x32c : Nat), H1.cell ⟨p0b, 4 + x31i * 1, none⟩ = some (Value.slice x32a x32n x32c) ∧
 InB k3 2 fun x38i =>
 ∃ (x39a : Option Addr) (x39n x39c : Nat), H1.cell ⟨p0b, 4 + x38i * 1, none⟩ = some (Value.slice x39a x39n x39c) ∧
 InC (x39n : Int) x15c fun x41h =>
 FnW Tryz.prog f_base_SameBytes ⟨[(Value.slice x32a x32n x32c), (Value.slice x15a x41h x15c)]⟩ H1 fun x42v H3 =>
 ∃ x42 : Bool, x42v = (Value.bool x42) ∧
 IfB (!x42)
 (law15_pair_fits_j0 p0b k3 next2 true H3 R)
 (InB k3 2 fun x50i =>
 ∃ x51 : Option Addr, H3.cell ⟨p0b, 0 + x50i * 1, none⟩ = some (Value.pointer x51) ∧
 FnW Tryz.prog f_conn_Conn_Ended ⟨[(Value.pointer x51)]⟩ H3 fun x52v H4 =>
 ∃ x52 : Bool, x52v = (Value.bool x52) ∧
 IfB x52
 (InB k3 2 fun x58i =>
 ∃ (x59a : Option Addr) (x59n x59c : Nat), H4.cell ⟨p0b, 4 + x58i * 1, none⟩ = some (Value.slice x59a x59n x59c) ∧
 law15_pair_fits_j0 p0b k3 next2 (((x59n : Int) : Int) != (x15n : Int)) H4 R)
 (law15_pair_fits_j0 p0b k3 next2 false H4 R))))
 (R (Value.bool true) H1)
def law15_pair_fits_p (p0b : Nat) (H : Heap) (R : Value → Heap → Prop) : Prop :=
 LoopI (Int × Unit) (0, ()) H fun x H next => ∀ _g : Env, law15_pair_fits_l2 p0b x.1 H next R
theorem law15_pair_fits_heq (p0b : Nat) (H : Heap) (R : Value → Heap → Prop) : law15_pair_fits_p p0b H R = CodeW Tryz.prog hplan_law15_pair_fits (bodyOf Tryz.f9) (env0 [(Value.pointer (some ⟨p0b, 0, none⟩))]) H (RetW Tryz.prog Tryz.f9.results.toList R) := by kernel_rfl
theorem law15_pair_fits_sh (p0b : Nat) {H : Heap} {R : Value → Heap → Prop} (h : law15_pair_fits_p p0b H fun v H1 => ∀ H2, Shut H H1 H2 → R v H2) : FnW Tryz.prog f_law15_pair_fits ⟨[(Value.pointer (some ⟨p0b, 0, none⟩))]⟩ H R := FnW.of_code hk_law15_pair_fits (by kernel_rfl) (Eq.mp (law15_pair_fits_heq p0b H _) h)
def hplan_conn_Conn_Ended : Plan := ⟨[], [], [], []⟩
theorem hk_conn_Conn_Ended : Known Tryz.prog f_conn_Conn_Ended Tryz.f23 hplan_conn_Conn_Ended (bodyOf Tryz.f23) := ⟨Tryz.func23, by kernel_rfl, by kernel_rfl, by kernel_rfl, by kernel_rfl, by kernel_rfl⟩
def conn_Conn_Ended_p (c0b : Nat) (H : Heap) (R : Value → Heap → Prop) : Prop :=
 FnW Tryz.prog f_conn_Conn_is ⟨[(Value.pointer (some ⟨c0b, 0, none⟩))]⟩ H fun x4v H1 =>
 ∃ x4 : Bool, x4v = (Value.bool x4) ∧
 IfB x4
 (∃ x10 : Bool, H1.cell ⟨c0b, 9, none⟩ = some (Value.bool x10) ∧
 IfB x10
 (∃ x16 : Option Addr, H1.cell ⟨c0b, 5, none⟩ = some (Value.pointer x16) ∧
 FnW Tryz.prog f_join_Joint_Ready ⟨[(Value.pointer x16)]⟩ H1 fun x17v H2 =>
 ∃ x17 : Int, x17v = (Value.int .i64 x17) ∧
 R (Value.bool ((x17 : Int) == 0)) H2)
 (R (Value.bool false) H1))
 (R (Value.bool false) H1)
theorem conn_Conn_Ended_heq (c0b : Nat) (H : Heap) (R : Value → Heap → Prop) : conn_Conn_Ended_p c0b H R = CodeW Tryz.prog hplan_conn_Conn_Ended (bodyOf Tryz.f23) (env0 [(Value.pointer (some ⟨c0b, 0, none⟩))]) H (RetW Tryz.prog Tryz.f23.results.toList R) := by kernel_rfl
theorem conn_Conn_Ended_sh (c0b : Nat) {H : Heap} {R : Value → Heap → Prop} (h : conn_Conn_Ended_p c0b H fun v H1 => ∀ H2, Shut H H1 H2 → R v H2) : FnW Tryz.prog f_conn_Conn_Ended ⟨[(Value.pointer (some ⟨c0b, 0, none⟩))]⟩ H R := FnW.of_code hk_conn_Conn_Ended (by kernel_rfl) (Eq.mp (conn_Conn_Ended_heq c0b H _) h)
def hplan_base_Among : Plan := ⟨[], [], [], []⟩
theorem hk_base_Among : Known Tryz.prog f_base_Among Tryz.f27 hplan_base_Among (bodyOf Tryz.f27) := ⟨Tryz.func27, by kernel_rfl, by kernel_rfl, by kernel_rfl, by kernel_rfl, by kernel_rfl⟩
def base_Among_p (x0 : Int) (n1 : Int) (H : Heap) (R : Value → Heap → Prop) : Prop :=
 IfB (decide ((n1 : Int) < 1))
 (R (Value.int .i64 0) H)
 (((IntKind.wrap .u64 n1) : Int) ≠ 0 ∧
 R (Value.int .i64 (IntKind.wrap .i64 (Int.tmod (IntKind.wrap .u64 x0) (IntKind.wrap .u64 n1)))) H)
theorem base_Among_heq (x0 : Int) (n1 : Int) (H : Heap) (R : Value → Heap → Prop) : base_Among_p x0 n1 H R = CodeW Tryz.prog hplan_base_Among (bodyOf Tryz.f27) (env0 [(Value.int .i64 x0), (Value.int .i64 n1)]) H (RetW Tryz.prog Tryz.f27.results.toList R) := by kernel_rfl
theorem base_Among_sh (x0 : Int) (n1 : Int) {H : Heap} {R : Value → Heap → Prop} (h : base_Among_p x0 n1 H fun v H1 => ∀ H2, Shut H H1 H2 → R v H2) : FnW Tryz.prog f_base_Among ⟨[(Value.int .i64 x0), (Value.int .i64 n1)]⟩ H R := FnW.of_code hk_base_Among (by kernel_rfl) (Eq.mp (base_Among_heq x0 n1 H _) h)
def hplan_law15_pair_tick : Plan := ⟨[], [(2, [4], [.int .i64], [0])], [], []⟩
theorem hk_law15_pair_tick : Known Tryz.prog f_law15_pair_tick Tryz.f28 hplan_law15_pair_tick (bodyOf Tryz.f28) := ⟨Tryz.func28, by kernel_rfl, by kernel_rfl, by kernel_rfl, by kernel_rfl, by kernel_rfl⟩
def law15_pair_tick_j2 (p0b : Nat) (k4 : Int) (next2 : (Int × Unit) → Heap → Prop) (H9 : Heap) (R : Value → Heap → Prop) : Prop :=
 next2 ((IntKind.wrap .i64 (k4 + 1)), ()) H9
def law15_pair_tick_j1 (p0b : Nat) (k4 : Int) (x30r0a : Option Addr) (x30r0n : Nat) (x30r0c : Nat) (next2 : (Int × Unit) → Heap → Prop) (H7 : Heap) (R : Value → Heap → Prop) : Prop :=
 FnW Tryz.prog f_law15_pair_put ⟨[(Value.pointer (some ⟨p0b, 0, none⟩)), (Value.int .i64 k4), (Value.slice x30r0a x30r0n x30r0c)]⟩ H7 fun x65v H8 =>
 x65v = (Value.tuple ⟨[]⟩) ∧
 law15_pair_tick_j2 p0b k4 next2 H8 R
def law15_pair_tick_j0 (p0b : Nat) (k4 : Int) (x30r0a : Option Addr) (x30r0n : Nat) (x30r0c : Nat) (x30r1 : Int) (next2 : (Int × Unit) → Heap → Prop) (x45 : Bool) (H5 : Heap) (R : Value → Heap → Prop) : Prop :=
 IfB x45
 (InB k4 2 fun x50i =>
 StCell H5 ⟨p0b, 10 + x50i * 1, none⟩ (Value.bool true) fun H6 =>
 law15_pair_tick_j1 p0b k4 x30r0a x30r0n x30r0c next2 H6 R)
 (∃ x55 : Bool, H5.cell ⟨p0b, 9, none⟩ = some (Value.bool x55) ∧
 IfB x55
 (StCell H5 ⟨p0b, 9, none⟩ (Value.bool true) fun H10 =>
 law15_pair_tick_j1 p0b k4 x30r0a x30r0n x30r0c next2 H10 R)
 (StCell H5 ⟨p0b, 9, none⟩ (Value.bool ((x30r1 : Int) == 151)) fun H11 =>
 law15_pair_tick_j1 p0b k4 x30r0a x30r0n x30r0c next2 H11 R))
def law15_pair_tick_l2 (p0b : Nat) (k4 : Int) (H2 : Heap) (next2 : (Int × Unit) → Heap → Prop) (R : Value → Heap → Prop) : Prop :=
 IfB (decide ((k4 : Int) < 2))
 (InB k4 2 fun x24i =>
 ∃ x25 : Option Addr, H2.cell ⟨p0b, 0 + x24i * 1, none⟩ = some (Value.pointer x25) ∧
 ∃ x29 : Int, H2.cell ⟨p0b, 8, none⟩ = some (Value.int .i64 x29) ∧
 FnW Tryz.prog f_conn_Conn_Tick ⟨[(Value.pointer x25), (Value.int .i64 x29)]⟩ H2 fun x30v H3 =>
 ∃ (x30r0a : Option Addr) (x30r0n x30r0c : Nat), ∃ x30r1 : Int, x30v = (Value.tuple ⟨[(Value.slice x30r0a x30r0n x30r0c), (Value.int .i64 x30r1)]⟩) ∧
 IfB ((x30r1 : Int) == 151)
 (InB (IntKind.wrap .i64 (1 - k4)) 2 fun x41i =>
 ∃ x42 : Option Addr, H3.cell ⟨p0b, 0 + x41i * 1, none⟩ = some (Value.pointer x42) ∧
 FnW Tryz.prog f_conn_Conn_State ⟨[(Value.pointer x42)]⟩ H3 fun x43v H4 =>
 ∃ x43 : Int, x43v = (Value.int .i64 x43) ∧
 law15_pair_tick_j0 p0b k4 x30r0a x30r0n x30r0c x30r1 next2 ((x43 : Int) == 0) H4 R)
 (law15_pair_tick_j0 p0b k4 x30r0a x30r0n x30r0c x30r1 next2 false H3 R))
 (R (Value.tuple ⟨[]⟩) H2)
def law15_pair_tick_p (p0b : Nat) (n1 : Int) (H : Heap) (R : Value → Heap → Prop) : Prop :=
 ∃ x10 : Int, H.cell ⟨p0b, 8, none⟩ = some (Value.int .i64 x10) ∧
 StCell H ⟨p0b, 8, none⟩ (Value.int .i64 (IntKind.wrap .i64 (x10 + n1))) fun H1 =>
 LoopI (Int × Unit) (0, ()) H1 fun x H next => ∀ _g : Env, law15_pair_tick_l2 p0b x.1 H next R
theorem law15_pair_tick_heq (p0b : Nat) (n1 : Int) (H : Heap) (R : Value → Heap → Prop) : law15_pair_tick_p p0b n1 H R = CodeW Tryz.prog hplan_law15_pair_tick (bodyOf Tryz.f28) (env0 [(Value.pointer (some ⟨p0b, 0, none⟩)), (Value.int .i64 n1)]) H (RetW Tryz.prog Tryz.f28.results.toList R) := by kernel_rfl
theorem law15_pair_tick_sh (p0b : Nat) (n1 : Int) {H : Heap} {R : Value → Heap → Prop} (h : law15_pair_tick_p p0b n1 H fun v H1 => ∀ H2, Shut H H1 H2 → R v H2) : FnW Tryz.prog f_law15_pair_tick ⟨[(Value.pointer (some ⟨p0b, 0, none⟩)), (Value.int .i64 n1)]⟩ H R := FnW.of_code hk_law15_pair_tick (by kernel_rfl) (Eq.mp (law15_pair_tick_heq p0b n1 H _) h)
def hplan_law15_pair_write : Plan := ⟨[(2, [0, 1, 2, 3, 4, 5, 6, 7, 8, 9, 10, 12, 13, 11, 14, 15], [])], [], [], []⟩
theorem hk_law15_pair_write : Known Tryz.prog f_law15_pair_write Tryz.f29 hplan_law15_pair_write (bodyOf Tryz.f29) := ⟨Tryz.func29, by kernel_rfl, by kernel_rfl, by kernel_rfl, by kernel_rfl, by kernel_rfl⟩
def law15_pair_write_j0 (p0b : Nat) (k1 : Int) (x21r1a : Option Addr) (x21r1n : Nat) (x21r1c : Nat) (H4 : Heap) (R : Value → Heap → Prop) : Prop :=
 FnW Tryz.prog f_law15_pair_put ⟨[(Value.pointer (some ⟨p0b, 0, none⟩)), (Value.int .i64 k1), (Value.slice x21r1a x21r1n x21r1c)]⟩ H4 fun x45v H5 =>
 x45v = (Value.tuple ⟨[]⟩) ∧
 R (Value.tuple ⟨[]⟩) H5
def law15_pair_write_p (p0b : Nat) (k1 : Int) (b2a : Option Addr) (b2n : Nat) (b2c : Nat) (H : Heap) (R : Value → Heap → Prop) : Prop :=
 InB k1 2 fun x14i =>
 ∃ x15 : Option Addr, H.cell ⟨p0b, 0 + x14i * 1, none⟩ = some (Value.pointer x15) ∧
 ∃ x19 : Int, H.cell ⟨p0b, 8, none⟩ = some (Value.int .i64 x19) ∧
 FnW Tryz.prog f_conn_Conn_Write ⟨[(Value.pointer x15), (Value.int .i64 x19), (Value.slice b2a b2n b2c)]⟩ H fun x21v H1 =>
 ∃ x21r0 : Int, ∃ (x21r1a : Option Addr) (x21r1n x21r1c : Nat), ∃ x21r2 : Int, x21v = (Value.tuple ⟨[(Value.int .i64 x21r0), (Value.slice x21r1a x21r1n x21r1c), (Value.int .i64 x21r2)]⟩) ∧
 IfB ((x21r2 : Int) == 0)
 (InB k1 2 fun x33i =>
 ∃ (x34a : Option Addr) (x34n x34c : Nat), H1.cell ⟨p0b, 2 + x33i * 1, none⟩ = some (Value.slice x34a x34n x34c) ∧
 InC x21r0 b2c fun x37h =>
 AppW Tryz.prog #[T_sl_uint8, T_sl_uint8] T_sl_uint8 [(Value.slice x34a x34n x34c), (Value.slice b2a x37h b2c)] H1 fun x38v H2 =>
 ∃ (x38a : Option Addr) (x38n x38c : Nat), x38v = (Value.slice x38a x38n x38c) ∧
 InB k1 2 fun x41i =>
 StCell H2 ⟨p0b, 2 + x41i * 1, none⟩ (Value.slice x38a x38n x38c) fun H3 =>
 law15_pair_write_j0 p0b k1 x21r1a x21r1n x21r1c H3 R)
 (law15_pair_write_j0 p0b k1 x21r1a x21r1n x21r1c H1 R)
theorem law15_pair_write_heq (p0b : Nat) (k1 : Int) (b2a : Option Addr) (b2n : Nat) (b2c : Nat) (H : Heap) (R : Value → Heap → Prop) : law15_pair_write_p p0b k1 b2a b2n b2c H R = CodeW Tryz.prog hplan_law15_pair_write (bodyOf Tryz.f29) (env0 [(Value.pointer (some ⟨p0b, 0, none⟩)), (Value.int .i64 k1), (Value.slice b2a b2n b2c)]) H (RetW Tryz.prog Tryz.f29.results.toList R) := by kernel_rfl
theorem law15_pair_write_sh (p0b : Nat) (k1 : Int) (b2a : Option Addr) (b2n : Nat) (b2c : Nat) {H : Heap} {R : Value → Heap → Prop} (h : law15_pair_write_p p0b k1 b2a b2n b2c H fun v H1 => ∀ H2, Shut H H1 H2 → R v H2) : FnW Tryz.prog f_law15_pair_write ⟨[(Value.pointer (some ⟨p0b, 0, none⟩)), (Value.int .i64 k1), (Value.slice b2a b2n b2c)]⟩ H R := FnW.of_code hk_law15_pair_write (by kernel_rfl) (Eq.mp (law15_pair_write_heq p0b k1 b2a b2n b2c H _) h)
def hplan_law15_pair_get : Plan := ⟨[(1, [0, 1, 2, 3, 4, 5, 6, 7, 8, 10, 11, 9, 12, 13], [])], [], [], []⟩
theorem hk_law15_pair_get : Known Tryz.prog f_law15_pair_get Tryz.f30 hplan_law15_pair_get (bodyOf Tryz.f30) := ⟨Tryz.func30, by kernel_rfl, by kernel_rfl, by kernel_rfl, by kernel_rfl, by kernel_rfl⟩
def law15_pair_get_p (p0b : Nat) (k1 : Int) (n2 : Int) (H : Heap) (R : Value → Heap → Prop) : Prop :=
 InB k1 2 fun x14i =>
 ∃ x15 : Option Addr, H.cell ⟨p0b, 0 + x14i * 1, none⟩ = some (Value.pointer x15) ∧
 ∃ x19 : Int, H.cell ⟨p0b, 8, none⟩ = some (Value.int .i64 x19) ∧
 FnW Tryz.prog f_conn_Conn_Read ⟨[(Value.pointer x15), (Value.int .i64 x19), (Value.int .i64 n2)]⟩ H fun x21v H1 =>
 ∃ (x21r0a : Option Addr) (x21r0n x21r0c : Nat), ∃ (x21r1a : Option Addr) (x21r1n x21r1c : Nat), ∃ x21r2 : Int, x21v = (Value.tuple ⟨[(Value.slice x21r0a x21r0n x21r0c), (Value.slice x21r1a x21r1n x21r1c), (Value.int .i64 x21r2)]⟩) ∧
 InB k1 2 fun x31i =>
 ∃ (x32a : Option Addr) (x32n x32c : Nat), H1.cell ⟨p0b, 4 + x31i * 1, none⟩ = some (Value.slice x32a x32n x32c) ∧
 AppW Tryz.prog #[T_sl_uint8, T_sl_uint8] T_sl_uint8 [(Value.slice x32a x32n x32c), (Value.slice x21r0a x21r0n x21r0c)] H1 fun x34v H2 =>
 ∃ (x34a : Option Addr) (x34n x34c : Nat), x34v = (Value.slice x34a x34n x34c) ∧
 InB k1 2 fun x37i =>
 StCell H2 ⟨p0b, 4 + x37i * 1, none⟩ (Value.slice x34a x34n x34c) fun H3 =>
 FnW Tryz.prog f_law15_pair_put ⟨[(Value.pointer (some ⟨p0b, 0, none⟩)), (Value.int .i64 k1), (Value.slice x21r1a x21r1n x21r1c)]⟩ H3 fun x41v H4 =>
 x41v = (Value.tuple ⟨[]⟩) ∧
 R (Value.tuple ⟨[]⟩) H4
theorem law15_pair_get_heq (p0b : Nat) (k1 : Int) (n2 : Int) (H : Heap) (R : Value → Heap → Prop) : law15_pair_get_p p0b k1 n2 H R = CodeW Tryz.prog hplan_law15_pair_get (bodyOf Tryz.f30) (env0 [(Value.pointer (some ⟨p0b, 0, none⟩)), (Value.int .i64 k1), (Value.int .i64 n2)]) H (RetW Tryz.prog Tryz.f30.results.toList R) := by kernel_rfl
theorem law15_pair_get_sh (p0b : Nat) (k1 : Int) (n2 : Int) {H : Heap} {R : Value → Heap → Prop} (h : law15_pair_get_p p0b k1 n2 H fun v H1 => ∀ H2, Shut H H1 H2 → R v H2) : FnW Tryz.prog f_law15_pair_get ⟨[(Value.pointer (some ⟨p0b, 0, none⟩)), (Value.int .i64 k1), (Value.int .i64 n2)]⟩ H R := FnW.of_code hk_law15_pair_get (by kernel_rfl) (Eq.mp (law15_pair_get_heq p0b k1 n2 H _) h)
def hplan_law15_pair_shut : Plan := ⟨[], [], [], []⟩
theorem hk_law15_pair_shut : Known Tryz.prog f_law15_pair_shut Tryz.f31 hplan_law15_pair_shut (bodyOf Tryz.f31) := ⟨Tryz.func31, by kernel_rfl, by kernel_rfl, by kernel_rfl, by kernel_rfl, by kernel_rfl⟩
def law15_pair_shut_p (p0b : Nat) (k1 : Int) (H : Heap) (R : Value → Heap → Prop) : Prop :=
 InB k1 2 fun x11i =>
 ∃ x12 : Option Addr, H.cell ⟨p0b, 0 + x11i * 1, none⟩ = some (Value.pointer x12) ∧
 ∃ x16 : Int, H.cell ⟨p0b, 8, none⟩ = some (Value.int .i64 x16) ∧
 FnW Tryz.prog f_conn_Conn_Shut ⟨[(Value.pointer x12), (Value.int .i64 x16)]⟩ H fun x17v H1 =>
 ∃ (x17r0a : Option Addr) (x17r0n x17r0c : Nat), ∃ x17r1 : Int, x17v = (Value.tuple ⟨[(Value.slice x17r0a x17r0n x17r0c), (Value.int .i64 x17r1)]⟩) ∧
 FnW Tryz.prog f_law15_pair_put ⟨[(Value.pointer (some ⟨p0b, 0, none⟩)), (Value.int .i64 k1), (Value.slice x17r0a x17r0n x17r0c)]⟩ H1 fun x23v H2 =>
 x23v = (Value.tuple ⟨[]⟩) ∧
 R (Value.tuple ⟨[]⟩) H2
theorem law15_pair_shut_heq (p0b : Nat) (k1 : Int) (H : Heap) (R : Value → Heap → Prop) : law15_pair_shut_p p0b k1 H R = CodeW Tryz.prog hplan_law15_pair_shut (bodyOf Tryz.f31) (env0 [(Value.pointer (some ⟨p0b, 0, none⟩)), (Value.int .i64 k1)]) H (RetW Tryz.prog Tryz.f31.results.toList R) := by kernel_rfl
theorem law15_pair_shut_sh (p0b : Nat) (k1 : Int) {H : Heap} {R : Value → Heap → Prop} (h : law15_pair_shut_p p0b k1 H fun v H1 => ∀ H2, Shut H H1 H2 → R v H2) : FnW Tryz.prog f_law15_pair_shut ⟨[(Value.pointer (some ⟨p0b, 0, none⟩)), (Value.int .i64 k1)]⟩ H R := FnW.of_code hk_law15_pair_shut (by kernel_rfl) (Eq.mp (law15_pair_shut_heq p0b k1 H _) h)
def hplan_law15_few : Plan := ⟨[], [], [], []⟩
theorem hk_law15_few : Known Tryz.prog f_law15_few Tryz.f32 hplan_law15_few (bodyOf Tryz.f32) := ⟨Tryz.func32, by kernel_rfl, by kernel_rfl, by kernel_rfl, by kernel_rfl, by kernel_rfl⟩
def law15_few_p (s0c0 : Int) (s0c1 : Int) (s0c2 : Int) (s0c3 : Int) (s0c4 : Int) (s0c5 : Int) (s0c6 : Int) (s0c7 : Int) (s0c8a : Option Addr) (s0c8n : Nat) (s0c8c : Nat) (H : Heap) (R : Value → Heap → Prop) : Prop :=
 NewW H (Obj.cells ⟨[(Value.int .i64 s0c0), (Value.int .i64 s0c1), (Value.int .u32 s0c2), (Value.int .u32 s0c3), (Value.int .i64 s0c4), (Value.int .i64 s0c5), (Value.int .i64 s0c6), (Value.int .i64 s0c7), (Value.slice s0c8a s0c8n s0c8c)]⟩ T_seg_Segment) fun s1b H1 =>
 NewW H1 (Obj.cells ⟨[(Value.int .i64 0), (Value.int .i64 0), (Value.int .u32 0), (Value.int .u32 0), (Value.int .i64 0), (Value.int .i64 0), (Value.int .i64 0), (Value.int .i64 0), (Value.slice none 0 0)]⟩ T_seg_Segment) fun x2b H2 =>
 ∃ (x4a : Option Addr) (x4n x4c : Nat), H2.cell ⟨s1b, 8, none⟩ = some (Value.slice x4a x4n x4c) ∧
 ∃ (x6a : Option Addr) (x6n x6c : Nat), H2.cell ⟨s1b, 8, none⟩ = some (Value.slice x6a x6n x6c) ∧
 InC (min (x6n : Int) 100) x4c fun x9h =>
 FnW Tryz.prog f_base_Bytes ⟨[(Value.slice x4a x9h x4c)]⟩ H2 fun x10v H3 =>
 ∃ (x10a : Option Addr) (x10n x10c : Nat), x10v = (Value.slice x10a x10n x10c) ∧
 StCell H3 ⟨s1b, 8, none⟩ (Value.slice x10a x10n x10c) fun H4 =>
 ∃ x12c0 : Int, H4.cell ⟨s1b, 0, none⟩ = some (Value.int .i64 x12c0) ∧ ∃ x12c1 : Int, H4.cell ⟨s1b, 1, none⟩ = some (Value.int .i64 x12c1) ∧ ∃ x12c2 : Int, H4.cell ⟨s1b, 2, none⟩ = some (Value.int .u32 x12c2) ∧ ∃ x12c3 : Int, H4.cell ⟨s1b, 3, none⟩ = some (Value.int .u32 x12c3) ∧ ∃ x12c4 : Int, H4.cell ⟨s1b, 4, none⟩ = some (Value.int .i64 x12c4) ∧ ∃ x12c5 : Int, H4.cell ⟨s1b, 5, none⟩ = some (Value.int .i64 x12c5) ∧ ∃ x12c6 : Int, H4.cell ⟨s1b, 6, none⟩ = some (Value.int .i64 x12c6) ∧ ∃ x12c7 : Int, H4.cell ⟨s1b, 7, none⟩ = some (Value.int .i64 x12c7) ∧ ∃ (x12c8a : Option Addr) (x12c8n x12c8c : Nat), H4.cell ⟨s1b, 8, none⟩ = some (Value.slice x12c8a x12c8n x12c8c) ∧ StCell H4 ⟨x2b, 0, none⟩ (Value.int .i64 x12c0) fun H5 =>
 StCell H5 ⟨x2b, 1, none⟩ (Value.int .i64 x12c1) fun H6 =>
 StCell H6 ⟨x2b, 2, none⟩ (Value.int .u32 x12c2) fun H7 =>
 StCell H7 ⟨x2b, 3, none⟩ (Value.int .u32 x12c3) fun H8 =>
 StCell H8 ⟨x2b, 4, none⟩ (Value.int .i64 x12c4) fun H9 =>
 StCell H9 ⟨x2b, 5, none⟩ (Value.int .i64 x12c5) fun H10 =>
 StCell H10 ⟨x2b, 6, none⟩ (Value.int .i64 x12c6) fun H11 =>
 StCell H11 ⟨x2b, 7, none⟩ (Value.int .i64 x12c7) fun H12 =>
 StCell H12 ⟨x2b, 8, none⟩ (Value.slice x12c8a x12c8n x12c8c) fun H13 =>
 ∃ r0c0 : Int, H13.cell ⟨x2b, 0, none⟩ = some (Value.int .i64 r0c0) ∧ ∃ r0c1 : Int, H13.cell ⟨x2b, 1, none⟩ = some (Value.int .i64 r0c1) ∧ ∃ r0c2 : Int, H13.cell ⟨x2b, 2, none⟩ = some (Value.int .u32 r0c2) ∧ ∃ r0c3 : Int, H13.cell ⟨x2b, 3, none⟩ = some (Value.int .u32 r0c3) ∧ ∃ r0c4 : Int, H13.cell ⟨x2b, 4, none⟩ = some (Value.int .i64 r0c4) ∧ ∃ r0c5 : Int, H13.cell ⟨x2b, 5, none⟩ = some (Value.int .i64 r0c5) ∧ ∃ r0c6 : Int, H13.cell ⟨x2b, 6, none⟩ = some (Value.int .i64 r0c6) ∧ ∃ r0c7 : Int, H13.cell ⟨x2b, 7, none⟩ = some (Value.int .i64 r0c7) ∧ ∃ (r0c8a : Option Addr) (r0c8n r0c8c : Nat), H13.cell ⟨x2b, 8, none⟩ = some (Value.slice r0c8a r0c8n r0c8c) ∧ R (Value.agg ⟨[(Value.int .i64 r0c0), (Value.int .i64 r0c1), (Value.int .u32 r0c2), (Value.int .u32 r0c3), (Value.int .i64 r0c4), (Value.int .i64 r0c5), (Value.int .i64 r0c6), (Value.int .i64 r0c7), (Value.slice r0c8a r0c8n r0c8c)]⟩) H13
theorem law15_few_heq (s0c0 : Int) (s0c1 : Int) (s0c2 : Int) (s0c3 : Int) (s0c4 : Int) (s0c5 : Int) (s0c6 : Int) (s0c7 : Int) (s0c8a : Option Addr) (s0c8n : Nat) (s0c8c : Nat) (H : Heap) (R : Value → Heap → Prop) : law15_few_p s0c0 s0c1 s0c2 s0c3 s0c4 s0c5 s0c6 s0c7 s0c8a s0c8n s0c8c H R = CodeW Tryz.prog hplan_law15_few (bodyOf Tryz.f32) (env0 [(Value.agg ⟨[(Value.int .i64 s0c0), (Value.int .i64 s0c1), (Value.int .u32 s0c2), (Value.int .u32 s0c3), (Value.int .i64 s0c4), (Value.int .i64 s0c5), (Value.int .i64 s0c6), (Value.int .i64 s0c7), (Value.slice s0c8a s0c8n s0c8c)]⟩)]) H (RetW Tryz.prog Tryz.f32.results.toList R) := by kernel_rfl
theorem law15_few_sh (s0c0 : Int) (s0c1 : Int) (s0c2 : Int) (s0c3 : Int) (s0c4 : Int) (s0c5 : Int) (s0c6 : Int) (s0c7 : Int) (s0c8a : Option Addr) (s0c8n : Nat) (s0c8c : Nat) {H : Heap} {R : Value → Heap → Prop} (h : law15_few_p s0c0 s0c1 s0c2 s0c3 s0c4 s0c5 s0c6 s0c7 s0c8a s0c8n s0c8c H fun v H1 => ∀ H2, Shut H H1 H2 → R v H2) : FnW Tryz.prog f_law15_few ⟨[(Value.agg ⟨[(Value.int .i64 s0c0), (Value.int .i64 s0c1), (Value.int .u32 s0c2), (Value.int .u32 s0c3), (Value.int .i64 s0c4), (Value.int .i64 s0c5), (Value.int .i64 s0c6), (Value.int .i64 s0c7), (Value.slice s0c8a s0c8n s0c8c)]⟩)]⟩ H R := FnW.of_code hk_law15_few (by kernel_rfl) (Eq.mp (law15_few_heq s0c0 s0c1 s0c2 s0c3 s0c4 s0c5 s0c6 s0c7 s0c8a s0c8n s0c8c H _) h)
def hplan_law15_pair_put : Plan := ⟨[(0, [0, 1, 2, 3, 4, 5, 6, 7, 8, 9, 10, 12, 13, 11, 14, 15], [])], [], [], []⟩
theorem hk_law15_pair_put : Known Tryz.prog f_law15_pair_put Tryz.f33 hplan_law15_pair_put (bodyOf Tryz.f33) := ⟨Tryz.func33, by kernel_rfl, by kernel_rfl, by kernel_rfl, by kernel_rfl, by kernel_rfl⟩
def law15_pair_put_p (p0b : Nat) (from1 : Int) (l2a : Option Addr) (l2n : Nat) (l2c : Nat) (H : Heap) (R : Value → Heap → Prop) : Prop :=
 InB (IntKind.wrap .i64 (1 - from1)) 2 fun x14i =>
 ∃ (x15a : Option Addr) (x15n x15c : Nat), H.cell ⟨p0b, 6 + x14i * 1, none⟩ = some (Value.slice x15a x15n x15c) ∧
 AppW Tryz.prog #[T_sl_seg_Segment, T_sl_seg_Segment] T_sl_seg_Segment [(Value.slice x15a x15n x15c), (Value.slice l2a l2n l2c)] H fun x17v H1 =>
 ∃ (x17a : Option Addr) (x17n x17c : Nat), x17v = (Value.slice x17a x17n x17c) ∧
 InB (IntKind.wrap .i64 (1 - from1)) 2 fun x20i =>
 StCell H1 ⟨p0b, 6 + x20i * 1, none⟩ (Value.slice x17a x17n x17c) fun H2 =>
 R (Value.tuple ⟨[]⟩) H2
theorem law15_pair_put_heq (p0b : Nat) (from1 : Int) (l2a : Option Addr) (l2n : Nat) (l2c : Nat) (H : Heap) (R : Value → Heap → Prop) : law15_pair_put_p p0b from1 l2a l2n l2c H R = CodeW Tryz.prog hplan_law15_pair_put (bodyOf Tryz.f33) (env0 [(Value.pointer (some ⟨p0b, 0, none⟩)), (Value.int .i64 from1), (Value.slice l2a l2n l2c)]) H (RetW Tryz.prog Tryz.f33.results.toList R) := by kernel_rfl
theorem law15_pair_put_sh (p0b : Nat) (from1 : Int) (l2a : Option Addr) (l2n : Nat) (l2c : Nat) {H : Heap} {R : Value → Heap → Prop} (h : law15_pair_put_p p0b from1 l2a l2n l2c H fun v H1 => ∀ H2, Shut H H1 H2 → R v H2) : FnW Tryz.prog f_law15_pair_put ⟨[(Value.pointer (some ⟨p0b, 0, none⟩)), (Value.int .i64 from1), (Value.slice l2a l2n l2c)]⟩ H R := FnW.of_code hk_law15_pair_put (by kernel_rfl) (Eq.mp (law15_pair_put_heq p0b from1 l2a l2n l2c H _) h)
def hplan_law15_pair_come : Plan := ⟨[(4, [0, 1, 3, 4, 5, 6, 7, 8, 9, 10, 12, 13, 14, 15, 16, 17, 18, 19, 20, 22, 23, 2, 11, 21, 24, 25], [57])], [], [], []⟩
theorem hk_law15_pair_come : Known Tryz.prog f_law15_pair_come Tryz.f34 hplan_law15_pair_come (bodyOf Tryz.f34) := ⟨Tryz.func34, by kernel_rfl, by kernel_rfl, by kernel_rfl, by kernel_rfl, by kernel_rfl⟩
def law15_pair_come_j1 (p0b : Nat) (to1 : Int) (x77r0a : Option Addr) (x77r0n : Nat) (x77r0c : Nat) (H19 : Heap) (R : Value → Heap → Prop) : Prop :=
 FnW Tryz.prog f_law15_pair_put ⟨[(Value.pointer (some ⟨p0b, 0, none⟩)), (Value.int .i64 to1), (Value.slice x77r0a x77r0n x77r0c)]⟩ H19 fun x94v H20 =>
 x94v = (Value.tuple ⟨[]⟩) ∧
 R (Value.tuple ⟨[]⟩) H20
def law15_pair_come_j0 (p0b : Nat) (to1 : Int) (s9b : Nat) (H16 : Heap) (R : Value → Heap → Prop) : Prop :=
 InB to1 2 fun x70i =>
 ∃ x71 : Option Addr, H16.cell ⟨p0b, 0 + x70i * 1, none⟩ = some (Value.pointer x71) ∧
 ∃ x75 : Int, H16.cell ⟨p0b, 8, none⟩ = some (Value.int .i64 x75) ∧
 ∃ x76c0 : Int, H16.cell ⟨s9b, 0, none⟩ = some (Value.int .i64 x76c0) ∧ ∃ x76c1 : Int, H16.cell ⟨s9b, 1, none⟩ = some (Value.int .i64 x76c1) ∧ ∃ x76c2 : Int, H16.cell ⟨s9b, 2, none⟩ = some (Value.int .u32 x76c2) ∧ ∃ x76c3 : Int, H16.cell ⟨s9b, 3, none⟩ = some (Value.int .u32 x76c3) ∧ ∃ x76c4 : Int, H16.cell ⟨s9b, 4, none⟩ = some (Value.int .i64 x76c4) ∧ ∃ x76c5 : Int, H16.cell ⟨s9b, 5, none⟩ = some (Value.int .i64 x76c5) ∧ ∃ x76c6 : Int, H16.cell ⟨s9b, 6, none⟩ = some (Value.int .i64 x76c6) ∧ ∃ x76c7 : Int, H16.cell ⟨s9b, 7, none⟩ = some (Value.int .i64 x76c7) ∧ ∃ (x76c8a : Option Addr) (x76c8n x76c8c : Nat), H16.cell ⟨s9b, 8, none⟩ = some (Value.slice x76c8a x76c8n x76c8c) ∧ FnW Tryz.prog f_conn_Conn_Take ⟨[(Value.pointer x71), (Value.int .i64 x75), (Value.agg ⟨[(Value.int .i64 x76c0), (Value.int .i64 x76c1), (Value.int .u32 x76c2), (Value.int .u32 x76c3), (Value.int .i64 x76c4), (Value.int .i64 x76c5), (Value.int .i64 x76c6), (Value.int .i64 x76c7), (Value.slice x76c8a x76c8n x76c8c)]⟩)]⟩ H16 fun x77v H17 =>
 ∃ (x77r0a : Option Addr) (x77r0n x77r0c : Nat), ∃ x77r1 : Int, x77v = (Value.tuple ⟨[(Value.slice x77r0a x77r0n x77r0c), (Value.int .i64 x77r1)]⟩) ∧
 ∃ x84 : Bool, H17.cell ⟨p0b, 9, none⟩ = some (Value.bool x84) ∧
 IfB x84
 (StCell H17 ⟨p0b, 9, none⟩ (Value.bool true) fun H18 =>
 law15_pair_come_j1 p0b to1 x77r0a x77r0n x77r0c H18 R)
 (StCell H17 ⟨p0b, 9, none⟩ (Value.bool ((x77r1 : Int) == 151)) fun H21 =>
 law15_pair_come_j1 p0b to1 x77r0a x77r0n x77r0c H21 R)
def law15_pair_come_p (p0b : Nat) (to1 : Int) (at2 : Int) (twice3 : Bool) (H : Heap) (R : Value → Heap → Prop) : Prop :=
 InB to1 2 fun x16i =>
 ∃ (x17a : Option Addr) (x17n x17c : Nat), H.cell ⟨p0b, 6 + x16i * 1, none⟩ = some (Value.slice x17a x17n x17c) ∧
 IfB (((x17n : Int) : Int) == 0)
 (R (Value.tuple ⟨[]⟩) H)
 (InB to1 2 fun x25i =>
 ∃ (x26a : Option Addr) (x26n x26c : Nat), H.cell ⟨p0b, 6 + x25i * 1, none⟩ = some (Value.slice x26a x26n x26c) ∧
 FnW Tryz.prog f_base_Among ⟨[(Value.int .i64 at2), (Value.int .i64 (x26n : Int))]⟩ H fun x28v H1 =>
 ∃ x28 : Int, x28v = (Value.int .i64 x28) ∧
 InB to1 2 fun x33i =>
 ∃ (x34a : Option Addr) (x34n x34c : Nat), H1.cell ⟨p0b, 6 + x33i * 1, none⟩ = some (Value.slice x34a x34n x34c) ∧
 NilP x34a fun x36q =>
 InB x28 x34n fun x36i =>
 elemAt x36q x36i 9 fun x36p =>
 ∃ x37c0 : Int, H1.cell x36p = some (Value.int .i64 x37c0) ∧ ∃ x37c1 : Int, H1.cell ⟨x36p.block, x36p.off + 1, none⟩ = some (Value.int .i64 x37c1) ∧ ∃ x37c2 : Int, H1.cell ⟨x36p.block, x36p.off + 2, none⟩ = some (Value.int .u32 x37c2) ∧ ∃ x37c3 : Int, H1.cell ⟨x36p.block, x36p.off + 3, none⟩ = some (Value.int .u32 x37c3) ∧ ∃ x37c4 : Int, H1.cell ⟨x36p.block, x36p.off + 4, none⟩ = some (Value.int .i64 x37c4) ∧ ∃ x37c5 : Int, H1.cell ⟨x36p.block, x36p.off + 5, none⟩ = some (Value.int .i64 x37c5) ∧ ∃ x37c6 : Int, H1.cell ⟨x36p.block, x36p.off + 6, none⟩ = some (Value.int .i64 x37c6) ∧ ∃ x37c7 : Int, H1.cell ⟨x36p.block, x36p.off + 7, none⟩ = some (Value.int .i64 x37c7) ∧ ∃ (x37c8a : Option Addr) (x37c8n x37c8c : Nat), H1.cell ⟨x36p.block, x36p.off + 8, none⟩ = some (Value.slice x37c8a x37c8n x37c8c) ∧ NewW H1 (Obj.cells ⟨[(Value.int .i64 0), (Value.int .i64 0), (Value.int .u32 0), (Value.int .u32 0), (Value.int .i64 0), (Value.int .i64 0), (Value.int .i64 0), (Value.int .i64 0), (Value.slice none 0 0)]⟩ T_seg_Segment) fun s9b H2 =>
 StCell H2 ⟨s9b, 0, none⟩ (Value.int .i64 x37c0) fun H3 =>
 StCell H3 ⟨s9b, 1, none⟩ (Value.int .i64 x37c1) fun H4 =>
 StCell H4 ⟨s9b, 2, none⟩ (Value.int .u32 x37c2) fun H5 =>
 StCell H5 ⟨s9b, 3, none⟩ (Value.int .u32 x37c3) fun H6 =>
 StCell H6 ⟨s9b, 4, none⟩ (Value.int .i64 x37c4) fun H7 =>
 StCell H7 ⟨s9b, 5, none⟩ (Value.int .i64 x37c5) fun H8 =>
 StCell H8 ⟨s9b, 6, none⟩ (Value.int .i64 x37c6) fun H9 =>
 StCell H9 ⟨s9b, 7, none⟩ (Value.int .i64 x37c7) fun H10 =>
 StCell H10 ⟨s9b, 8, none⟩ (Value.slice x37c8a x37c8n x37c8c) fun H11 =>
 IfB (!twice3)
 (∃ bs : List Nat, (∀ b ∈ bs, ∃ o, H11 b = some o) ∧
 InB to1 2 fun x47i =>
 ∃ (x48a : Option Addr) (x48n x48c : Nat), H11.cell ⟨p0b, 6 + x47i * 1, none⟩ = some (Value.slice x48a x48n x48c) ∧
 InC x28 x48c fun x50h =>
 InB to1 2 fun x56i =>
 p0b ∈ bs ∧ ∃ (x57a : Option Addr) (x57n x57c : Nat), H11.cell ⟨p0b, 6 + x56i * 1, none⟩ = some (Value.slice x57a x57n x57c) ∧
 InC (IntKind.wrap .i64 (x28 + 1)) x57n fun x60l =>
 NewW H11 (Obj.cells ⟨[]⟩ T_seg_Segment) fun x42b H12 =>
 AppW Tryz.prog #[T_sl_seg_Segment, T_sl_seg_Segment] T_sl_seg_Segment [(Value.slice (some ⟨x42b, 0, none⟩) 0 0), (Value.slice x48a x50h x48c)] H12 fun x51v H13 =>
 ∃ (x51a : Option Addr) (x51n x51c : Nat), x51v = (Value.slice x51a x51n x51c) ∧
 KeptIn bs H11 H13 ∧ AppW Tryz.prog #[T_sl_seg_Segment, T_sl_seg_Segment] T_sl_seg_Segment [(Value.slice x51a x51n x51c), (Value.slice (if x57c = x60l then x57a else Option.map (fun a => Addr.add a (x60l * 9)) x57a) (x57n - x60l) (x57c - x60l))] H13 fun x61v H14 =>
 ∃ (x61a : Option Addr) (x61n x61c : Nat), x61v = (Value.slice x61a x61n x61c) ∧
 KeptIn bs H11 H14 ∧ InB to1 2 fun x64i =>
 StCell H14 ⟨p0b, 6 + x64i * 1, none⟩ (Value.slice x61a x61n x61c) fun H15 =>
 law15_pair_come_j0 p0b to1 s9b H15 R)
 (law15_pair_come_j0 p0b to1 s9b H11 R))
theorem law15_pair_come_heq (p0b : Nat) (to1 : Int) (at2 : Int) (twice3 : Bool) (H : Heap) (R : Value → Heap → Prop) : law15_pair_come_p p0b to1 at2 twice3 H R = CodeW Tryz.prog hplan_law15_pair_come (bodyOf Tryz.f34) (env0 [(Value.pointer (some ⟨p0b, 0, none⟩)), (Value.int .i64 to1), (Value.int .i64 at2), (Value.bool twice3)]) H (RetW Tryz.prog Tryz.f34.results.toList R) := by kernel_rfl
theorem law15_pair_come_sh (p0b : Nat) (to1 : Int) (at2 : Int) (twice3 : Bool) {H : Heap} {R : Value → Heap → Prop} (h : law15_pair_come_p p0b to1 at2 twice3 H fun v H1 => ∀ H2, Shut H H1 H2 → R v H2) : FnW Tryz.prog f_law15_pair_come ⟨[(Value.pointer (some ⟨p0b, 0, none⟩)), (Value.int .i64 to1), (Value.int .i64 at2), (Value.bool twice3)]⟩ H R := FnW.of_code hk_law15_pair_come (by kernel_rfl) (Eq.mp (law15_pair_come_heq p0b to1 at2 twice3 H _) h)
def hplan_base_SameBytes : Plan := ⟨[], [], [], []⟩
theorem hk_base_SameBytes : Known Tryz.prog f_base_SameBytes Tryz.f35 hplan_base_SameBytes (bodyOf Tryz.f35) := ⟨Tryz.func35, by kernel_rfl, by kernel_rfl, by kernel_rfl, by kernel_rfl, by kernel_rfl⟩
def base_SameBytes_p (a0a : Option Addr) (a0n : Nat) (a0c : Nat) (b1a : Option Addr) (b1n : Nat) (b1c : Nat) (H : Heap) (R : Value → Heap → Prop) : Prop :=
 SemW Tryz.prog (convert T_sl_uint8 T_string (Value.slice a0a a0n a0c)) H fun x6v H1 =>
 ∃ x6 : ByteArray, x6v = (Value.string x6) ∧
 SemW Tryz.prog (convert T_sl_uint8 T_string (Value.slice b1a b1n b1c)) H1 fun x8v H2 =>
 ∃ x8 : ByteArray, x8v = (Value.string x8) ∧
 R (Value.bool (x6.toList == x8.toList)) H2
theorem base_SameBytes_heq (a0a : Option Addr) (a0n : Nat) (a0c : Nat) (b1a : Option Addr) (b1n : Nat) (b1c : Nat) (H : Heap) (R : Value → Heap → Prop) : base_SameBytes_p a0a a0n a0c b1a b1n b1c H R = CodeW Tryz.prog hplan_base_SameBytes (bodyOf Tryz.f35) (env0 [(Value.slice a0a a0n a0c), (Value.slice b1a b1n b1c)]) H (RetW Tryz.prog Tryz.f35.results.toList R) := by kernel_rfl
theorem base_SameBytes_sh (a0a : Option Addr) (a0n : Nat) (a0c : Nat) (b1a : Option Addr) (b1n : Nat) (b1c : Nat) {H : Heap} {R : Value → Heap → Prop} (h : base_SameBytes_p a0a a0n a0c b1a b1n b1c H fun v H1 => ∀ H2, Shut H H1 H2 → R v H2) : FnW Tryz.prog f_base_SameBytes ⟨[(Value.slice a0a a0n a0c), (Value.slice b1a b1n b1c)]⟩ H R := FnW.of_code hk_base_SameBytes (by kernel_rfl) (Eq.mp (base_SameBytes_heq a0a a0n a0c b1a b1n b1c H _) h)
def hplan_base_Bytes : Plan := ⟨[], [], [], []⟩
theorem hk_base_Bytes : Known Tryz.prog f_base_Bytes Tryz.f67 hplan_base_Bytes (bodyOf Tryz.f67) := ⟨Tryz.func67, by kernel_rfl, by kernel_rfl, by kernel_rfl, by kernel_rfl, by kernel_rfl⟩
def base_Bytes_p (b0a : Option Addr) (b0n : Nat) (b0c : Nat) (H : Heap) (R : Value → Heap → Prop) : Prop :=
 NewW H (Obj.cells ⟨[]⟩ T_uint8) fun x3b H1 =>
 AppW Tryz.prog #[T_sl_uint8, T_sl_uint8] T_sl_uint8 [(Value.slice (some ⟨x3b, 0, none⟩) 0 0), (Value.slice b0a b0n b0c)] H1 fun x5v H2 =>
 ∃ (x5a : Option Addr) (x5n x5c : Nat), x5v = (Value.slice x5a x5n x5c) ∧
 R (Value.slice x5a x5n x5c) H2
theorem base_Bytes_heq (b0a : Option Addr) (b0n : Nat) (b0c : Nat) (H : Heap) (R : Value → Heap → Prop) : base_Bytes_p b0a b0n b0c H R = CodeW Tryz.prog hplan_base_Bytes (bodyOf Tryz.f67) (env0 [(Value.slice b0a b0n b0c)]) H (RetW Tryz.prog Tryz.f67.results.toList R) := by kernel_rfl
theorem base_Bytes_sh (b0a : Option Addr) (b0n : Nat) (b0c : Nat) {H : Heap} {R : Value → Heap → Prop} (h : base_Bytes_p b0a b0n b0c H fun v H1 => ∀ H2, Shut H H1 H2 → R v H2) : FnW Tryz.prog f_base_Bytes ⟨[(Value.slice b0a b0n b0c)]⟩ H R := FnW.of_code hk_base_Bytes (by kernel_rfl) (Eq.mp (base_Bytes_heq b0a b0n b0c H _) h)
end Go.Proofs.YtmiepjlnfclelaaGreat
