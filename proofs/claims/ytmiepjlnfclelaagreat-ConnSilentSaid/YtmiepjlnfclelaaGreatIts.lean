/-
  SOME FUNCTIONS IN PLAIN LOGIC: printed by a program of ours over this translation.
-/
import Derived.Test.YtmiepjlnfclelaaGreatNum
import Derived.Test.YtmiepjlnfclelaaGreatRows
set_option maxRecDepth 100000
set_option linter.unusedVariables false
namespace Go.Proofs.YtmiepjlnfclelaaGreat
open Go.Sh
def hplan_conn_Dial : Plan := ⟨[], [], [], []⟩
theorem hk_conn_Dial : Known Tryz.prog f_conn_Dial Tryz.f10 hplan_conn_Dial (bodyOf Tryz.f10) := ⟨Tryz.func10, by kernel_rfl, by kernel_rfl, by kernel_rfl, by kernel_rfl, by kernel_rfl⟩
def conn_Dial_j0 (now0 : Int) (from1 : Int) (to2 : Int) (first3 : Int) (x23 : Bool) (H2 : Heap) (R : Value → Heap → Prop) : Prop :=
 IfB x23
 (R (Value.tuple ⟨[(Value.pointer none), (Value.slice none 0 0), (Value.int .i64 2)]⟩) H2)
 (FnW Tryz.prog f_conn_begun ⟨[(Value.int .i64 now0), (Value.int .i64 from1), (Value.int .i64 to2), (Value.int .u32 first3)]⟩ H2 fun x28v H3 =>
 ∃ x28 : Option Addr, x28v = (Value.pointer x28) ∧
 NilP x28 fun x30p =>
 StCell H3 x30p (Value.int .i64 1) fun H4 =>
 FnW Tryz.prog f_conn_Conn_hello ⟨[(Value.pointer x28)]⟩ H4 fun x33v H5 =>
 x33v = (Value.tuple ⟨[]⟩) ∧
 FnW Tryz.prog f_conn_Conn_done ⟨[(Value.pointer x28)]⟩ H5 fun x36v H6 =>
 ∃ (x36a : Option Addr) (x36n x36c : Nat), x36v = (Value.slice x36a x36n x36c) ∧
 R (Value.tuple ⟨[(Value.pointer x28), (Value.slice x36a x36n x36c), (Value.int .i64 0)]⟩) H6)
def conn_Dial_p (now0 : Int) (from1 : Int) (to2 : Int) (first3 : Int) (H : Heap) (R : Value → Heap → Prop) : Prop :=
 FnW Tryz.prog f_conn_port ⟨[(Value.int .i64 from1)]⟩ H fun x13v H1 =>
 ∃ x13 : Bool, x13v = (Value.bool x13) ∧
 IfB (!x13)
 (conn_Dial_j0 now0 from1 to2 first3 true H1 R)
 (FnW Tryz.prog f_conn_port ⟨[(Value.int .i64 to2)]⟩ H1 fun x17v H7 =>
 ∃ x17 : Bool, x17v = (Value.bool x17) ∧
 IfB (!x17)
 (conn_Dial_j0 now0 from1 to2 first3 true H7 R)
 (conn_Dial_j0 now0 from1 to2 first3 (decide ((now0 : Int) < 0)) H7 R))
theorem conn_Dial_heq (now0 : Int) (from1 : Int) (to2 : Int) (first3 : Int) (H : Heap) (R : Value → Heap → Prop) : conn_Dial_p now0 from1 to2 first3 H R = CodeW Tryz.prog hplan_conn_Dial (bodyOf Tryz.f10) (env0 [(Value.int .i64 now0), (Value.int .i64 from1), (Value.int .i64 to2), (Value.int .u32 first3)]) H (RetW Tryz.prog Tryz.f10.results.toList R) := by kernel_rfl
theorem conn_Dial_sh (now0 : Int) (from1 : Int) (to2 : Int) (first3 : Int) {H : Heap} {R : Value → Heap → Prop} (h : conn_Dial_p now0 from1 to2 first3 H fun v H1 => ∀ H2, Shut H H1 H2 → R v H2) : FnW Tryz.prog f_conn_Dial ⟨[(Value.int .i64 now0), (Value.int .i64 from1), (Value.int .i64 to2), (Value.int .u32 first3)]⟩ H R := FnW.of_code hk_conn_Dial (by kernel_rfl) (Eq.mp (conn_Dial_heq now0 from1 to2 first3 H _) h)
def hplan_conn_Conn_Abort : Plan := ⟨[], [], [], []⟩
theorem hk_conn_Conn_Abort : Known Tryz.prog f_conn_Conn_Abort Tryz.f12 hplan_conn_Conn_Abort (bodyOf Tryz.f12) := ⟨Tryz.func12, by kernel_rfl, by kernel_rfl, by kernel_rfl, by kernel_rfl, by kernel_rfl⟩
def conn_Conn_Abort_j1 (c0b : Nat) (H6 : Heap) (R : Value → Heap → Prop) : Prop :=
 FnW Tryz.prog f_conn_Conn_die ⟨[(Value.pointer (some ⟨c0b, 0, none⟩))]⟩ H6 fun x34v H7 =>
 x34v = (Value.tuple ⟨[]⟩) ∧
 FnW Tryz.prog f_conn_Conn_done ⟨[(Value.pointer (some ⟨c0b, 0, none⟩))]⟩ H7 fun x36v H8 =>
 ∃ (x36a : Option Addr) (x36n x36c : Nat), x36v = (Value.slice x36a x36n x36c) ∧
 R (Value.tuple ⟨[(Value.slice x36a x36n x36c), (Value.int .i64 0)]⟩) H8
def conn_Conn_Abort_j0 (c0b : Nat) (x28 : Bool) (H3 : Heap) (R : Value → Heap → Prop) : Prop :=
 IfB x28
 (FnW Tryz.prog f_conn_Conn_last ⟨[(Value.pointer (some ⟨c0b, 0, none⟩))]⟩ H3 fun x31v H4 =>
 ∃ x31 : Int, x31v = (Value.int .u32 x31) ∧
 FnW Tryz.prog f_conn_Conn_say ⟨[(Value.pointer (some ⟨c0b, 0, none⟩)), (Value.int .u32 x31), (Value.int .i64 20), (Value.slice none 0 0)]⟩ H4 fun x32v H5 =>
 ∃ x32 : Option Addr, x32v = (Value.pointer x32) ∧
 conn_Conn_Abort_j1 c0b H5 R)
 (conn_Conn_Abort_j1 c0b H3 R)
def conn_Conn_Abort_p (c0b : Nat) (now1 : Int) (H : Heap) (R : Value → Heap → Prop) : Prop :=
 FnW Tryz.prog f_conn_Conn_may ⟨[(Value.pointer (some ⟨c0b, 0, none⟩)), (Value.int .i64 now1)]⟩ H fun x9v H1 =>
 ∃ x9 : Int, x9v = (Value.int .i64 x9) ∧
 IfB ((x9 : Int) != 0)
 (R (Value.tuple ⟨[(Value.slice none 0 0), (Value.int .i64 x9)]⟩) H1)
 (StCell H1 ⟨c0b, 10, none⟩ (Value.int .i64 now1) fun H2 =>
 ∃ x20 : Int, H2.cell ⟨c0b, 0, none⟩ = some (Value.int .i64 x20) ∧
 IfB (decide ((x20 : Int) ≥ 2))
 (∃ x26 : Int, H2.cell ⟨c0b, 0, none⟩ = some (Value.int .i64 x26) ∧
 conn_Conn_Abort_j0 c0b (decide ((x26 : Int) ≤ 8)) H2 R)
 (conn_Conn_Abort_j0 c0b false H2 R))
theorem conn_Conn_Abort_heq (c0b : Nat) (now1 : Int) (H : Heap) (R : Value → Heap → Prop) : conn_Conn_Abort_p c0b now1 H R = CodeW Tryz.prog hplan_conn_Conn_Abort (bodyOf Tryz.f12) (env0 [(Value.pointer (some ⟨c0b, 0, none⟩)), (Value.int .i64 now1)]) H (RetW Tryz.prog Tryz.f12.results.toList R) := by kernel_rfl
theorem conn_Conn_Abort_sh (c0b : Nat) (now1 : Int) {H : Heap} {R : Value → Heap → Prop} (h : conn_Conn_Abort_p c0b now1 H fun v H1 => ∀ H2, Shut H H1 H2 → R v H2) : FnW Tryz.prog f_conn_Conn_Abort ⟨[(Value.pointer (some ⟨c0b, 0, none⟩)), (Value.int .i64 now1)]⟩ H R := FnW.of_code hk_conn_Conn_Abort (by kernel_rfl) (Eq.mp (conn_Conn_Abort_heq c0b now1 H _) h)
def hplan_conn_Conn_Take : Plan := ⟨[], [], [], []⟩
theorem hk_conn_Conn_Take : Known Tryz.prog f_conn_Conn_Take Tryz.f15 hplan_conn_Conn_Take (bodyOf Tryz.f15) := ⟨Tryz.func15, by kernel_rfl, by kernel_rfl, by kernel_rfl, by kernel_rfl, by kernel_rfl⟩
def conn_Conn_Take_j0 (c0b : Nat) (e8 : Int) (H6 : Heap) (R : Value → Heap → Prop) : Prop :=
 FnW Tryz.prog f_conn_Conn_done ⟨[(Value.pointer (some ⟨c0b, 0, none⟩))]⟩ H6 fun x43v H7 =>
 ∃ (x43a : Option Addr) (x43n x43c : Nat), x43v = (Value.slice x43a x43n x43c) ∧
 R (Value.tuple ⟨[(Value.slice x43a x43n x43c), (Value.int .i64 e8)]⟩) H7
def conn_Conn_Take_p (c0b : Nat) (now1 : Int) (s2c0 : Int) (s2c1 : Int) (s2c2 : Int) (s2c3 : Int) (s2c4 : Int) (s2c5 : Int) (s2c6 : Int) (s2c7 : Int) (s2c8a : Option Addr) (s2c8n : Nat) (s2c8c : Nat) (H : Heap) (R : Value → Heap → Prop) : Prop :=
 NewW H (Obj.cells ⟨[(Value.int .i64 s2c0), (Value.int .i64 s2c1), (Value.int .u32 s2c2), (Value.int .u32 s2c3), (Value.int .i64 s2c4), (Value.int .i64 s2c5), (Value.int .i64 s2c6), (Value.int .i64 s2c7), (Value.slice s2c8a s2c8n s2c8c)]⟩ T_seg_Segment) fun s5b H1 =>
 FnW Tryz.prog f_conn_Conn_may ⟨[(Value.pointer (some ⟨c0b, 0, none⟩)), (Value.int .i64 now1)]⟩ H1 fun x11v H2 =>
 ∃ x11 : Int, x11v = (Value.int .i64 x11) ∧
 IfB ((x11 : Int) != 0)
 (R (Value.tuple ⟨[(Value.slice none 0 0), (Value.int .i64 x11)]⟩) H2)
 (∃ x17c0 : Int, H2.cell ⟨s5b, 0, none⟩ = some (Value.int .i64 x17c0) ∧ ∃ x17c1 : Int, H2.cell ⟨s5b, 1, none⟩ = some (Value.int .i64 x17c1) ∧ ∃ x17c2 : Int, H2.cell ⟨s5b, 2, none⟩ = some (Value.int .u32 x17c2) ∧ ∃ x17c3 : Int, H2.cell ⟨s5b, 3, none⟩ = some (Value.int .u32 x17c3) ∧ ∃ x17c4 : Int, H2.cell ⟨s5b, 4, none⟩ = some (Value.int .i64 x17c4) ∧ ∃ x17c5 : Int, H2.cell ⟨s5b, 5, none⟩ = some (Value.int .i64 x17c5) ∧ ∃ x17c6 : Int, H2.cell ⟨s5b, 6, none⟩ = some (Value.int .i64 x17c6) ∧ ∃ x17c7 : Int, H2.cell ⟨s5b, 7, none⟩ = some (Value.int .i64 x17c7) ∧ ∃ (x17c8a : Option Addr) (x17c8n x17c8c : Nat), H2.cell ⟨s5b, 8, none⟩ = some (Value.slice x17c8a x17c8n x17c8c) ∧ FnW Tryz.prog f_conn_can ⟨[(Value.agg ⟨[(Value.int .i64 x17c0), (Value.int .i64 x17c1), (Value.int .u32 x17c2), (Value.int .u32 x17c3), (Value.int .i64 x17c4), (Value.int .i64 x17c5), (Value.int .i64 x17c6), (Value.int .i64 x17c7), (Value.slice x17c8a x17c8n x17c8c)]⟩)]⟩ H2 fun x18v H3 =>
 ∃ x18 : Bool, x18v = (Value.bool x18) ∧
 IfB (!x18)
 (R (Value.tuple ⟨[(Value.slice none 0 0), (Value.int .i64 2)]⟩) H3)
 (∃ x23 : Int, H3.cell ⟨c0b, 0, none⟩ = some (Value.int .i64 x23) ∧
 IfB ((x23 : Int) == 0)
 (R (Value.tuple ⟨[(Value.slice none 0 0), (Value.int .i64 150)]⟩) H3)
 (IfB ((x23 : Int) == 1)
 (StCell H3 ⟨c0b, 10, none⟩ (Value.int .i64 now1) fun H4 =>
 ∃ x40c0 : Int, H4.cell ⟨s5b, 0, none⟩ = some (Value.int .i64 x40c0) ∧ ∃ x40c1 : Int, H4.cell ⟨s5b, 1, none⟩ = some (Value.int .i64 x40c1) ∧ ∃ x40c2 : Int, H4.cell ⟨s5b, 2, none⟩ = some (Value.int .u32 x40c2) ∧ ∃ x40c3 : Int, H4.cell ⟨s5b, 3, none⟩ = some (Value.int .u32 x40c3) ∧ ∃ x40c4 : Int, H4.cell ⟨s5b, 4, none⟩ = some (Value.int .i64 x40c4) ∧ ∃ x40c5 : Int, H4.cell ⟨s5b, 5, none⟩ = some (Value.int .i64 x40c5) ∧ ∃ x40c6 : Int, H4.cell ⟨s5b, 6, none⟩ = some (Value.int .i64 x40c6) ∧ ∃ x40c7 : Int, H4.cell ⟨s5b, 7, none⟩ = some (Value.int .i64 x40c7) ∧ ∃ (x40c8a : Option Addr) (x40c8n x40c8c : Nat), H4.cell ⟨s5b, 8, none⟩ = some (Value.slice x40c8a x40c8n x40c8c) ∧ FnW Tryz.prog f_conn_Conn_answer ⟨[(Value.pointer (some ⟨c0b, 0, none⟩)), (Value.agg ⟨[(Value.int .i64 x40c0), (Value.int .i64 x40c1), (Value.int .u32 x40c2), (Value.int .u32 x40c3), (Value.int .i64 x40c4), (Value.int .i64 x40c5), (Value.int .i64 x40c6), (Value.int .i64 x40c7), (Value.slice x40c8a x40c8n x40c8c)]⟩)]⟩ H4 fun x41v H5 =>
 ∃ x41 : Int, x41v = (Value.int .i64 x41) ∧
 conn_Conn_Take_j0 c0b x41 H5 R)
 (StCell H3 ⟨c0b, 10, none⟩ (Value.int .i64 now1) fun H8 =>
 ∃ x29c0 : Int, H8.cell ⟨s5b, 0, none⟩ = some (Value.int .i64 x29c0) ∧ ∃ x29c1 : Int, H8.cell ⟨s5b, 1, none⟩ = some (Value.int .i64 x29c1) ∧ ∃ x29c2 : Int, H8.cell ⟨s5b, 2, none⟩ = some (Value.int .u32 x29c2) ∧ ∃ x29c3 : Int, H8.cell ⟨s5b, 3, none⟩ = some (Value.int .u32 x29c3) ∧ ∃ x29c4 : Int, H8.cell ⟨s5b, 4, none⟩ = some (Value.int .i64 x29c4) ∧ ∃ x29c5 : Int, H8.cell ⟨s5b, 5, none⟩ = some (Value.int .i64 x29c5) ∧ ∃ x29c6 : Int, H8.cell ⟨s5b, 6, none⟩ = some (Value.int .i64 x29c6) ∧ ∃ x29c7 : Int, H8.cell ⟨s5b, 7, none⟩ = some (Value.int .i64 x29c7) ∧ ∃ (x29c8a : Option Addr) (x29c8n x29c8c : Nat), H8.cell ⟨s5b, 8, none⟩ = some (Value.slice x29c8a x29c8n x29c8c) ∧ FnW Tryz.prog f_conn_Conn_take ⟨[(Value.pointer (some ⟨c0b, 0, none⟩)), (Value.agg ⟨[(Value.int .i64 x29c0), (Value.int .i64 x29c1), (Value.int .u32 x29c2), (Value.int .u32 x29c3), (Value.int .i64 x29c4), (Value.int .i64 x29c5), (Value.int .i64 x29c6), (Value.int .i64 x29c7), (Value.slice x29c8a x29c8n x29c8c)]⟩)]⟩ H8 fun x30v H9 =>
 ∃ x30 : Int, x30v = (Value.int .i64 x30) ∧
 conn_Conn_Take_j0 c0b x30 H9 R))))
theorem conn_Conn_Take_heq (c0b : Nat) (now1 : Int) (s2c0 : Int) (s2c1 : Int) (s2c2 : Int) (s2c3 : Int) (s2c4 : Int) (s2c5 : Int) (s2c6 : Int) (s2c7 : Int) (s2c8a : Option Addr) (s2c8n : Nat) (s2c8c : Nat) (H : Heap) (R : Value → Heap → Prop) : conn_Conn_Take_p c0b now1 s2c0 s2c1 s2c2 s2c3 s2c4 s2c5 s2c6 s2c7 s2c8a s2c8n s2c8c H R = CodeW Tryz.prog hplan_conn_Conn_Take (bodyOf Tryz.f15) (env0 [(Value.pointer (some ⟨c0b, 0, none⟩)), (Value.int .i64 now1), (Value.agg ⟨[(Value.int .i64 s2c0), (Value.int .i64 s2c1), (Value.int .u32 s2c2), (Value.int .u32 s2c3), (Value.int .i64 s2c4), (Value.int .i64 s2c5), (Value.int .i64 s2c6), (Value.int .i64 s2c7), (Value.slice s2c8a s2c8n s2c8c)]⟩)]) H (RetW Tryz.prog Tryz.f15.results.toList R) := by kernel_rfl
theorem conn_Conn_Take_sh (c0b : Nat) (now1 : Int) (s2c0 : Int) (s2c1 : Int) (s2c2 : Int) (s2c3 : Int) (s2c4 : Int) (s2c5 : Int) (s2c6 : Int) (s2c7 : Int) (s2c8a : Option Addr) (s2c8n : Nat) (s2c8c : Nat) {H : Heap} {R : Value → Heap → Prop} (h : conn_Conn_Take_p c0b now1 s2c0 s2c1 s2c2 s2c3 s2c4 s2c5 s2c6 s2c7 s2c8a s2c8n s2c8c H fun v H1 => ∀ H2, Shut H H1 H2 → R v H2) : FnW Tryz.prog f_conn_Conn_Take ⟨[(Value.pointer (some ⟨c0b, 0, none⟩)), (Value.int .i64 now1), (Value.agg ⟨[(Value.int .i64 s2c0), (Value.int .i64 s2c1), (Value.int .u32 s2c2), (Value.int .u32 s2c3), (Value.int .i64 s2c4), (Value.int .i64 s2c5), (Value.int .i64 s2c6), (Value.int .i64 s2c7), (Value.slice s2c8a s2c8n s2c8c)]⟩)]⟩ H R := FnW.of_code hk_conn_Conn_Take (by kernel_rfl) (Eq.mp (conn_Conn_Take_heq c0b now1 s2c0 s2c1 s2c2 s2c3 s2c4 s2c5 s2c6 s2c7 s2c8a s2c8n s2c8c H _) h)
def hplan_conn_Conn_Tick : Plan := ⟨[], [], [], []⟩
theorem hk_conn_Conn_Tick : Known Tryz.prog f_conn_Conn_Tick Tryz.f16 hplan_conn_Conn_Tick (bodyOf Tryz.f16) := ⟨Tryz.func16, by kernel_rfl, by kernel_rfl, by kernel_rfl, by kernel_rfl, by kernel_rfl⟩
def conn_Conn_Tick_j0 (c0b : Nat) (x30 : Bool) (H3 : Heap) (R : Value → Heap → Prop) : Prop :=
 IfB x30
 (R (Value.tuple ⟨[(Value.slice none 0 0), (Value.int .i64 0)]⟩) H3)
 (StCell H3 ⟨c0b, 11, none⟩ (Value.int .i64 (-1)) fun H4 =>
 FnW Tryz.prog f_conn_Conn_again ⟨[(Value.pointer (some ⟨c0b, 0, none⟩))]⟩ H4 fun x35v H5 =>
 ∃ x35 : Int, x35v = (Value.int .i64 x35) ∧
 FnW Tryz.prog f_conn_Conn_done ⟨[(Value.pointer (some ⟨c0b, 0, none⟩))]⟩ H5 fun x37v H6 =>
 ∃ (x37a : Option Addr) (x37n x37c : Nat), x37v = (Value.slice x37a x37n x37c) ∧
 R (Value.tuple ⟨[(Value.slice x37a x37n x37c), (Value.int .i64 x35)]⟩) H6)
def conn_Conn_Tick_p (c0b : Nat) (now1 : Int) (H : Heap) (R : Value → Heap → Prop) : Prop :=
 FnW Tryz.prog f_conn_Conn_may ⟨[(Value.pointer (some ⟨c0b, 0, none⟩)), (Value.int .i64 now1)]⟩ H fun x10v H1 =>
 ∃ x10 : Int, x10v = (Value.int .i64 x10) ∧
 IfB ((x10 : Int) != 0)
 (R (Value.tuple ⟨[(Value.slice none 0 0), (Value.int .i64 x10)]⟩) H1)
 (StCell H1 ⟨c0b, 10, none⟩ (Value.int .i64 now1) fun H2 =>
 ∃ x21 : Int, H2.cell ⟨c0b, 11, none⟩ = some (Value.int .i64 x21) ∧
 IfB ((x21 : Int) == (-1))
 (conn_Conn_Tick_j0 c0b true H2 R)
 (∃ x27 : Int, H2.cell ⟨c0b, 11, none⟩ = some (Value.int .i64 x27) ∧
 conn_Conn_Tick_j0 c0b (decide ((x27 : Int) > now1)) H2 R))
theorem conn_Conn_Tick_heq (c0b : Nat) (now1 : Int) (H : Heap) (R : Value → Heap → Prop) : conn_Conn_Tick_p c0b now1 H R = CodeW Tryz.prog hplan_conn_Conn_Tick (bodyOf Tryz.f16) (env0 [(Value.pointer (some ⟨c0b, 0, none⟩)), (Value.int .i64 now1)]) H (RetW Tryz.prog Tryz.f16.results.toList R) := by kernel_rfl
theorem conn_Conn_Tick_sh (c0b : Nat) (now1 : Int) {H : Heap} {R : Value → Heap → Prop} (h : conn_Conn_Tick_p c0b now1 H fun v H1 => ∀ H2, Shut H H1 H2 → R v H2) : FnW Tryz.prog f_conn_Conn_Tick ⟨[(Value.pointer (some ⟨c0b, 0, none⟩)), (Value.int .i64 now1)]⟩ H R := FnW.of_code hk_conn_Conn_Tick (by kernel_rfl) (Eq.mp (conn_Conn_Tick_heq c0b now1 H _) h)
def hplan_conn_Conn_Write : Plan := ⟨[], [], [], []⟩
theorem hk_conn_Conn_Write : Known Tryz.prog f_conn_Conn_Write Tryz.f17 hplan_conn_Conn_Write (bodyOf Tryz.f17) := ⟨Tryz.func17, by kernel_rfl, by kernel_rfl, by kernel_rfl, by kernel_rfl, by kernel_rfl⟩
def conn_Conn_Write_j0 (c0b : Nat) (now1 : Int) (b2a : Option Addr) (b2n : Nat) (b2c : Nat) (x28 : Bool) (H2 : Heap) (R : Value → Heap → Prop) : Prop :=
 IfB x28
 (R (Value.tuple ⟨[(Value.int .i64 0), (Value.slice none 0 0), (Value.int .i64 150)]⟩) H2)
 (StCell H2 ⟨c0b, 10, none⟩ (Value.int .i64 now1) fun H3 =>
 ∃ x36 : Option Addr, H3.cell ⟨c0b, 4, none⟩ = some (Value.pointer x36) ∧
 FnW Tryz.prog f_send_Outbox_Write ⟨[(Value.pointer x36), (Value.slice b2a b2n b2c)]⟩ H3 fun x38v H4 =>
 ∃ x38 : Int, x38v = (Value.int .i64 x38) ∧
 FnW Tryz.prog f_conn_Conn_flush ⟨[(Value.pointer (some ⟨c0b, 0, none⟩))]⟩ H4 fun x40v H5 =>
 x40v = (Value.tuple ⟨[]⟩) ∧
 FnW Tryz.prog f_conn_Conn_done ⟨[(Value.pointer (some ⟨c0b, 0, none⟩))]⟩ H5 fun x43v H6 =>
 ∃ (x43a : Option Addr) (x43n x43c : Nat), x43v = (Value.slice x43a x43n x43c) ∧
 R (Value.tuple ⟨[(Value.int .i64 x38), (Value.slice x43a x43n x43c), (Value.int .i64 0)]⟩) H6)
def conn_Conn_Write_p (c0b : Nat) (now1 : Int) (b2a : Option Addr) (b2n : Nat) (b2c : Nat) (H : Heap) (R : Value → Heap → Prop) : Prop :=
 FnW Tryz.prog f_conn_Conn_may ⟨[(Value.pointer (some ⟨c0b, 0, none⟩)), (Value.int .i64 now1)]⟩ H fun x13v H1 =>
 ∃ x13 : Int, x13v = (Value.int .i64 x13) ∧
 IfB ((x13 : Int) != 0)
 (R (Value.tuple ⟨[(Value.int .i64 0), (Value.slice none 0 0), (Value.int .i64 x13)]⟩) H1)
 (∃ x20 : Int, H1.cell ⟨c0b, 0, none⟩ = some (Value.int .i64 x20) ∧
 IfB ((x20 : Int) != 3)
 (∃ x26 : Int, H1.cell ⟨c0b, 0, none⟩ = some (Value.int .i64 x26) ∧
 conn_Conn_Write_j0 c0b now1 b2a b2n b2c ((x26 : Int) != 6) H1 R)
 (conn_Conn_Write_j0 c0b now1 b2a b2n b2c false H1 R))
theorem conn_Conn_Write_heq (c0b : Nat) (now1 : Int) (b2a : Option Addr) (b2n : Nat) (b2c : Nat) (H : Heap) (R : Value → Heap → Prop) : conn_Conn_Write_p c0b now1 b2a b2n b2c H R = CodeW Tryz.prog hplan_conn_Conn_Write (bodyOf Tryz.f17) (env0 [(Value.pointer (some ⟨c0b, 0, none⟩)), (Value.int .i64 now1), (Value.slice b2a b2n b2c)]) H (RetW Tryz.prog Tryz.f17.results.toList R) := by kernel_rfl
theorem conn_Conn_Write_sh (c0b : Nat) (now1 : Int) (b2a : Option Addr) (b2n : Nat) (b2c : Nat) {H : Heap} {R : Value → Heap → Prop} (h : conn_Conn_Write_p c0b now1 b2a b2n b2c H fun v H1 => ∀ H2, Shut H H1 H2 → R v H2) : FnW Tryz.prog f_conn_Conn_Write ⟨[(Value.pointer (some ⟨c0b, 0, none⟩)), (Value.int .i64 now1), (Value.slice b2a b2n b2c)]⟩ H R := FnW.of_code hk_conn_Conn_Write (by kernel_rfl) (Eq.mp (conn_Conn_Write_heq c0b now1 b2a b2n b2c H _) h)
def hplan_conn_Conn_Read : Plan := ⟨[], [], [], []⟩
theorem hk_conn_Conn_Read : Known Tryz.prog f_conn_Conn_Read Tryz.f18 hplan_conn_Conn_Read (bodyOf Tryz.f18) := ⟨Tryz.func18, by kernel_rfl, by kernel_rfl, by kernel_rfl, by kernel_rfl, by kernel_rfl⟩
def conn_Conn_Read_j1 (c0b : Nat) (x44r1 : Int) (x44r0a : Option Addr) (x44r0n : Nat) (x44r0c : Nat) (H8 : Heap) (R : Value → Heap → Prop) : Prop :=
 FnW Tryz.prog f_conn_Conn_done ⟨[(Value.pointer (some ⟨c0b, 0, none⟩))]⟩ H8 fun x74v H9 =>
 ∃ (x74a : Option Addr) (x74n x74c : Nat), x74v = (Value.slice x74a x74n x74c) ∧
 R (Value.tuple ⟨[(Value.slice x44r0a x44r0n x44r0c), (Value.slice x74a x74n x74c), (Value.int .i64 x44r1)]⟩) H9
def conn_Conn_Read_j0 (c0b : Nat) (x44r1 : Int) (x44r0a : Option Addr) (x44r0n : Nat) (x44r0c : Nat) (x69 : Bool) (H6 : Heap) (R : Value → Heap → Prop) : Prop :=
 IfB x69
 (FnW Tryz.prog f_conn_Conn_nod ⟨[(Value.pointer (some ⟨c0b, 0, none⟩))]⟩ H6 fun x71v H7 =>
 x71v = (Value.tuple ⟨[]⟩) ∧
 conn_Conn_Read_j1 c0b x44r1 x44r0a x44r0n x44r0c H7 R)
 (conn_Conn_Read_j1 c0b x44r1 x44r0a x44r0n x44r0c H6 R)
def conn_Conn_Read_p (c0b : Nat) (now1 : Int) (n2 : Int) (H : Heap) (R : Value → Heap → Prop) : Prop :=
 FnW Tryz.prog f_conn_Conn_may ⟨[(Value.pointer (some ⟨c0b, 0, none⟩)), (Value.int .i64 now1)]⟩ H fun x14v H1 =>
 ∃ x14 : Int, x14v = (Value.int .i64 x14) ∧
 IfB ((x14 : Int) != 0)
 (R (Value.tuple ⟨[(Value.slice none 0 0), (Value.slice none 0 0), (Value.int .i64 x14)]⟩) H1)
 (IfB (decide ((n2 : Int) < 0))
 (R (Value.tuple ⟨[(Value.slice none 0 0), (Value.slice none 0 0), (Value.int .i64 2)]⟩) H1)
 (StCell H1 ⟨c0b, 10, none⟩ (Value.int .i64 now1) fun H2 =>
 ∃ x29 : Option Addr, H2.cell ⟨c0b, 5, none⟩ = some (Value.pointer x29) ∧
 IfB x29.isNone
 (R (Value.tuple ⟨[(Value.slice none 0 0), (Value.slice none 0 0), (Value.int .i64 x14)]⟩) H2)
 (∃ x35 : Option Addr, H2.cell ⟨c0b, 5, none⟩ = some (Value.pointer x35) ∧
 FnW Tryz.prog f_join_Joint_Window ⟨[(Value.pointer x35)]⟩ H2 fun x36v H3 =>
 ∃ x36 : Int, x36v = (Value.int .i64 x36) ∧
 ∃ x42 : Option Addr, H3.cell ⟨c0b, 5, none⟩ = some (Value.pointer x42) ∧
 FnW Tryz.prog f_join_Joint_Read ⟨[(Value.pointer x42), (Value.int .i64 n2)]⟩ H3 fun x44v H4 =>
 ∃ (x44r0a : Option Addr) (x44r0n x44r0c : Nat), ∃ x44r1 : Int, x44v = (Value.tuple ⟨[(Value.slice x44r0a x44r0n x44r0c), (Value.int .i64 x44r1)]⟩) ∧
 IfB ((x36 : Int) == 0)
 (∃ x52 : Option Addr, H4.cell ⟨c0b, 5, none⟩ = some (Value.pointer x52) ∧
 FnW Tryz.prog f_join_Joint_Window ⟨[(Value.pointer x52)]⟩ H4 fun x53v H5 =>
 ∃ x53 : Int, x53v = (Value.int .i64 x53) ∧
 IfB (decide ((x53 : Int) > 0))
 (∃ x60 : Int, H5.cell ⟨c0b, 0, none⟩ = some (Value.int .i64 x60) ∧
 IfB (decide ((x60 : Int) ≥ 3))
 (∃ x67 : Int, H5.cell ⟨c0b, 0, none⟩ = some (Value.int .i64 x67) ∧
 conn_Conn_Read_j0 c0b x44r1 x44r0a x44r0n x44r0c (decide ((x67 : Int) ≤ 5)) H5 R)
 (conn_Conn_Read_j0 c0b x44r1 x44r0a x44r0n x44r0c false H5 R))
 (conn_Conn_Read_j0 c0b x44r1 x44r0a x44r0n x44r0c false H5 R))
 (conn_Conn_Read_j0 c0b x44r1 x44r0a x44r0n x44r0c false H4 R))))
theorem conn_Conn_Read_heq (c0b : Nat) (now1 : Int) (n2 : Int) (H : Heap) (R : Value → Heap → Prop) : conn_Conn_Read_p c0b now1 n2 H R = CodeW Tryz.prog hplan_conn_Conn_Read (bodyOf Tryz.f18) (env0 [(Value.pointer (some ⟨c0b, 0, none⟩)), (Value.int .i64 now1), (Value.int .i64 n2)]) H (RetW Tryz.prog Tryz.f18.results.toList R) := by kernel_rfl
theorem conn_Conn_Read_sh (c0b : Nat) (now1 : Int) (n2 : Int) {H : Heap} {R : Value → Heap → Prop} (h : conn_Conn_Read_p c0b now1 n2 H fun v H1 => ∀ H2, Shut H H1 H2 → R v H2) : FnW Tryz.prog f_conn_Conn_Read ⟨[(Value.pointer (some ⟨c0b, 0, none⟩)), (Value.int .i64 now1), (Value.int .i64 n2)]⟩ H R := FnW.of_code hk_conn_Conn_Read (by kernel_rfl) (Eq.mp (conn_Conn_Read_heq c0b now1 n2 H _) h)
def hplan_conn_Conn_Shut : Plan := ⟨[], [], [], []⟩
theorem hk_conn_Conn_Shut : Known Tryz.prog f_conn_Conn_Shut Tryz.f19 hplan_conn_Conn_Shut (bodyOf Tryz.f19) := ⟨Tryz.func19, by kernel_rfl, by kernel_rfl, by kernel_rfl, by kernel_rfl, by kernel_rfl⟩
def conn_Conn_Shut_j0 (c0b : Nat) (now1 : Int) (H3 : Heap) (R : Value → Heap → Prop) : Prop :=
 StCell H3 ⟨c0b, 10, none⟩ (Value.int .i64 now1) fun H4 =>
 StCell H4 ⟨c0b, 6, none⟩ (Value.bool true) fun H5 =>
 FnW Tryz.prog f_conn_Conn_flush ⟨[(Value.pointer (some ⟨c0b, 0, none⟩))]⟩ H5 fun x36v H6 =>
 x36v = (Value.tuple ⟨[]⟩) ∧
 FnW Tryz.prog f_conn_Conn_done ⟨[(Value.pointer (some ⟨c0b, 0, none⟩))]⟩ H6 fun x38v H7 =>
 ∃ (x38a : Option Addr) (x38n x38c : Nat), x38v = (Value.slice x38a x38n x38c) ∧
 R (Value.tuple ⟨[(Value.slice x38a x38n x38c), (Value.int .i64 0)]⟩) H7
def conn_Conn_Shut_p (c0b : Nat) (now1 : Int) (H : Heap) (R : Value → Heap → Prop) : Prop :=
 FnW Tryz.prog f_conn_Conn_may ⟨[(Value.pointer (some ⟨c0b, 0, none⟩)), (Value.int .i64 now1)]⟩ H fun x9v H1 =>
 ∃ x9 : Int, x9v = (Value.int .i64 x9) ∧
 IfB ((x9 : Int) != 0)
 (R (Value.tuple ⟨[(Value.slice none 0 0), (Value.int .i64 x9)]⟩) H1)
 (∃ x16 : Int, H1.cell ⟨c0b, 0, none⟩ = some (Value.int .i64 x16) ∧
 IfB ((x16 : Int) == 3)
 (StCell H1 ⟨c0b, 0, none⟩ (Value.int .i64 4) fun H2 =>
 conn_Conn_Shut_j0 c0b now1 H2 R)
 (IfB ((x16 : Int) == 6)
 (StCell H1 ⟨c0b, 0, none⟩ (Value.int .i64 8) fun H8 =>
 conn_Conn_Shut_j0 c0b now1 H8 R)
 (R (Value.tuple ⟨[(Value.slice none 0 0), (Value.int .i64 150)]⟩) H1)))
theorem conn_Conn_Shut_heq (c0b : Nat) (now1 : Int) (H : Heap) (R : Value → Heap → Prop) : conn_Conn_Shut_p c0b now1 H R = CodeW Tryz.prog hplan_conn_Conn_Shut (bodyOf Tryz.f19) (env0 [(Value.pointer (some ⟨c0b, 0, none⟩)), (Value.int .i64 now1)]) H (RetW Tryz.prog Tryz.f19.results.toList R) := by kernel_rfl
theorem conn_Conn_Shut_sh (c0b : Nat) (now1 : Int) {H : Heap} {R : Value → Heap → Prop} (h : conn_Conn_Shut_p c0b now1 H fun v H1 => ∀ H2, Shut H H1 H2 → R v H2) : FnW Tryz.prog f_conn_Conn_Shut ⟨[(Value.pointer (some ⟨c0b, 0, none⟩)), (Value.int .i64 now1)]⟩ H R := FnW.of_code hk_conn_Conn_Shut (by kernel_rfl) (Eq.mp (conn_Conn_Shut_heq c0b now1 H _) h)
def hplan_conn_Conn_State : Plan := ⟨[], [], [], []⟩
theorem hk_conn_Conn_State : Known Tryz.prog f_conn_Conn_State Tryz.f20 hplan_conn_Conn_State (bodyOf Tryz.f20) := ⟨Tryz.func20, by kernel_rfl, by kernel_rfl, by kernel_rfl, by kernel_rfl, by kernel_rfl⟩
def conn_Conn_State_p (c0b : Nat) (H : Heap) (R : Value → Heap → Prop) : Prop :=
 FnW Tryz.prog f_conn_Conn_is ⟨[(Value.pointer (some ⟨c0b, 0, none⟩))]⟩ H fun x4v H1 =>
 ∃ x4 : Bool, x4v = (Value.bool x4) ∧
 IfB (!x4)
 (R (Value.int .i64 0) H1)
 (∃ x9 : Int, H1.cell ⟨c0b, 0, none⟩ = some (Value.int .i64 x9) ∧
 R (Value.int .i64 x9) H1)
theorem conn_Conn_State_heq (c0b : Nat) (H : Heap) (R : Value → Heap → Prop) : conn_Conn_State_p c0b H R = CodeW Tryz.prog hplan_conn_Conn_State (bodyOf Tryz.f20) (env0 [(Value.pointer (some ⟨c0b, 0, none⟩))]) H (RetW Tryz.prog Tryz.f20.results.toList R) := by kernel_rfl
theorem conn_Conn_State_sh (c0b : Nat) {H : Heap} {R : Value → Heap → Prop} (h : conn_Conn_State_p c0b H fun v H1 => ∀ H2, Shut H H1 H2 → R v H2) : FnW Tryz.prog f_conn_Conn_State ⟨[(Value.pointer (some ⟨c0b, 0, none⟩))]⟩ H R := FnW.of_code hk_conn_Conn_State (by kernel_rfl) (Eq.mp (conn_Conn_State_heq c0b H _) h)
def hplan_conn_Conn_Due : Plan := ⟨[], [], [], []⟩
theorem hk_conn_Conn_Due : Known Tryz.prog f_conn_Conn_Due Tryz.f21 hplan_conn_Conn_Due (bodyOf Tryz.f21) := ⟨Tryz.func21, by kernel_rfl, by kernel_rfl, by kernel_rfl, by kernel_rfl, by kernel_rfl⟩
def conn_Conn_Due_j0 (c0b : Nat) (x13 : Bool) (H2 : Heap) (R : Value → Heap → Prop) : Prop :=
 IfB x13
 (R (Value.tuple ⟨[(Value.int .i64 0), (Value.bool false)]⟩) H2)
 (∃ x17 : Int, H2.cell ⟨c0b, 11, none⟩ = some (Value.int .i64 x17) ∧
 R (Value.tuple ⟨[(Value.int .i64 x17), (Value.bool true)]⟩) H2)
def conn_Conn_Due_p (c0b : Nat) (H : Heap) (R : Value → Heap → Prop) : Prop :=
 FnW Tryz.prog f_conn_Conn_is ⟨[(Value.pointer (some ⟨c0b, 0, none⟩))]⟩ H fun x5v H1 =>
 ∃ x5 : Bool, x5v = (Value.bool x5) ∧
 IfB (!x5)
 (conn_Conn_Due_j0 c0b true H1 R)
 (∃ x11 : Int, H1.cell ⟨c0b, 11, none⟩ = some (Value.int .i64 x11) ∧
 conn_Conn_Due_j0 c0b ((x11 : Int) == (-1)) H1 R)
theorem conn_Conn_Due_heq (c0b : Nat) (H : Heap) (R : Value → Heap → Prop) : conn_Conn_Due_p c0b H R = CodeW Tryz.prog hplan_conn_Conn_Due (bodyOf Tryz.f21) (env0 [(Value.pointer (some ⟨c0b, 0, none⟩))]) H (RetW Tryz.prog Tryz.f21.results.toList R) := by kernel_rfl
theorem conn_Conn_Due_sh (c0b : Nat) {H : Heap} {R : Value → Heap → Prop} (h : conn_Conn_Due_p c0b H fun v H1 => ∀ H2, Shut H H1 H2 → R v H2) : FnW Tryz.prog f_conn_Conn_Due ⟨[(Value.pointer (some ⟨c0b, 0, none⟩))]⟩ H R := FnW.of_code hk_conn_Conn_Due (by kernel_rfl) (Eq.mp (conn_Conn_Due_heq c0b H _) h)
def hplan_conn_Conn_Ready : Plan := ⟨[], [], [], []⟩
theorem hk_conn_Conn_Ready : Known Tryz.prog f_conn_Conn_Ready Tryz.f24 hplan_conn_Conn_Ready (bodyOf Tryz.f24) := ⟨Tryz.func24, by kernel_rfl, by kernel_rfl, by kernel_rfl, by kernel_rfl, by kernel_rfl⟩
def conn_Conn_Ready_p (c0b : Nat) (H : Heap) (R : Value → Heap → Prop) : Prop :=
 FnW Tryz.prog f_conn_Conn_is ⟨[(Value.pointer (some ⟨c0b, 0, none⟩))]⟩ H fun x4v H1 =>
 ∃ x4 : Bool, x4v = (Value.bool x4) ∧
 IfB (!x4)
 (R (Value.int .i64 0) H1)
 (∃ x9 : Option Addr, H1.cell ⟨c0b, 5, none⟩ = some (Value.pointer x9) ∧
 FnW Tryz.prog f_join_Joint_Ready ⟨[(Value.pointer x9)]⟩ H1 fun x10v H2 =>
 ∃ x10 : Int, x10v = (Value.int .i64 x10) ∧
 R (Value.int .i64 x10) H2)
theorem conn_Conn_Ready_heq (c0b : Nat) (H : Heap) (R : Value → Heap → Prop) : conn_Conn_Ready_p c0b H R = CodeW Tryz.prog hplan_conn_Conn_Ready (bodyOf Tryz.f24) (env0 [(Value.pointer (some ⟨c0b, 0, none⟩))]) H (RetW Tryz.prog Tryz.f24.results.toList R) := by kernel_rfl
theorem conn_Conn_Ready_sh (c0b : Nat) {H : Heap} {R : Value → Heap → Prop} (h : conn_Conn_Ready_p c0b H fun v H1 => ∀ H2, Shut H H1 H2 → R v H2) : FnW Tryz.prog f_conn_Conn_Ready ⟨[(Value.pointer (some ⟨c0b, 0, none⟩))]⟩ H R := FnW.of_code hk_conn_Conn_Ready (by kernel_rfl) (Eq.mp (conn_Conn_Ready_heq c0b H _) h)
def hplan_conn_Accept : Plan := ⟨[], [], [], []⟩
theorem hk_conn_Accept : Known Tryz.prog f_conn_Accept Tryz.f26 hplan_conn_Accept (bodyOf Tryz.f26) := ⟨Tryz.func26, by kernel_rfl, by kernel_rfl, by kernel_rfl, by kernel_rfl, by kernel_rfl⟩
def conn_Accept_j1 (now0 : Int) (first2 : Int) (s4b : Nat) (x45 : Bool) (H5 : Heap) (R : Value → Heap → Prop) : Prop :=
 IfB x45
 (R (Value.tuple ⟨[(Value.pointer none), (Value.slice none 0 0), (Value.int .i64 2)]⟩) H5)
 (∃ x48 : Int, H5.cell ⟨s4b, 1, none⟩ = some (Value.int .i64 x48) ∧
 ∃ x50 : Int, H5.cell ⟨s4b, 0, none⟩ = some (Value.int .i64 x50) ∧
 FnW Tryz.prog f_conn_begun ⟨[(Value.int .i64 now0), (Value.int .i64 x48), (Value.int .i64 x50), (Value.int .u32 first2)]⟩ H5 fun x52v H6 =>
 ∃ x52 : Option Addr, x52v = (Value.pointer x52) ∧
 NilP x52 fun x54p =>
 StCell H6 x54p (Value.int .i64 2) fun H7 =>
 ∃ x57c0 : Int, H7.cell ⟨s4b, 0, none⟩ = some (Value.int .i64 x57c0) ∧ ∃ x57c1 : Int, H7.cell ⟨s4b, 1, none⟩ = some (Value.int .i64 x57c1) ∧ ∃ x57c2 : Int, H7.cell ⟨s4b, 2, none⟩ = some (Value.int .u32 x57c2) ∧ ∃ x57c3 : Int, H7.cell ⟨s4b, 3, none⟩ = some (Value.int .u32 x57c3) ∧ ∃ x57c4 : Int, H7.cell ⟨s4b, 4, none⟩ = some (Value.int .i64 x57c4) ∧ ∃ x57c5 : Int, H7.cell ⟨s4b, 5, none⟩ = some (Value.int .i64 x57c5) ∧ ∃ x57c6 : Int, H7.cell ⟨s4b, 6, none⟩ = some (Value.int .i64 x57c6) ∧ ∃ x57c7 : Int, H7.cell ⟨s4b, 7, none⟩ = some (Value.int .i64 x57c7) ∧ ∃ (x57c8a : Option Addr) (x57c8n x57c8c : Nat), H7.cell ⟨s4b, 8, none⟩ = some (Value.slice x57c8a x57c8n x57c8c) ∧ FnW Tryz.prog f_conn_Conn_begin ⟨[(Value.pointer x52), (Value.agg ⟨[(Value.int .i64 x57c0), (Value.int .i64 x57c1), (Value.int .u32 x57c2), (Value.int .u32 x57c3), (Value.int .i64 x57c4), (Value.int .i64 x57c5), (Value.int .i64 x57c6), (Value.int .i64 x57c7), (Value.slice x57c8a x57c8n x57c8c)]⟩)]⟩ H7 fun x58v H8 =>
 x58v = (Value.tuple ⟨[]⟩) ∧
 FnW Tryz.prog f_conn_Conn_hello ⟨[(Value.pointer x52)]⟩ H8 fun x60v H9 =>
 x60v = (Value.tuple ⟨[]⟩) ∧
 FnW Tryz.prog f_conn_Conn_done ⟨[(Value.pointer x52)]⟩ H9 fun x63v H10 =>
 ∃ (x63a : Option Addr) (x63n x63c : Nat), x63v = (Value.slice x63a x63n x63c) ∧
 R (Value.tuple ⟨[(Value.pointer x52), (Value.slice x63a x63n x63c), (Value.int .i64 0)]⟩) H10)
def conn_Accept_j0 (now0 : Int) (first2 : Int) (s4b : Nat) (odd9 : Bool) (H3 : Heap) (R : Value → Heap → Prop) : Prop :=
 ∃ x24c0 : Int, H3.cell ⟨s4b, 0, none⟩ = some (Value.int .i64 x24c0) ∧ ∃ x24c1 : Int, H3.cell ⟨s4b, 1, none⟩ = some (Value.int .i64 x24c1) ∧ ∃ x24c2 : Int, H3.cell ⟨s4b, 2, none⟩ = some (Value.int .u32 x24c2) ∧ ∃ x24c3 : Int, H3.cell ⟨s4b, 3, none⟩ = some (Value.int .u32 x24c3) ∧ ∃ x24c4 : Int, H3.cell ⟨s4b, 4, none⟩ = some (Value.int .i64 x24c4) ∧ ∃ x24c5 : Int, H3.cell ⟨s4b, 5, none⟩ = some (Value.int .i64 x24c5) ∧ ∃ x24c6 : Int, H3.cell ⟨s4b, 6, none⟩ = some (Value.int .i64 x24c6) ∧ ∃ x24c7 : Int, H3.cell ⟨s4b, 7, none⟩ = some (Value.int .i64 x24c7) ∧ ∃ (x24c8a : Option Addr) (x24c8n x24c8c : Nat), H3.cell ⟨s4b, 8, none⟩ = some (Value.slice x24c8a x24c8n x24c8c) ∧ FnW Tryz.prog f_conn_can ⟨[(Value.agg ⟨[(Value.int .i64 x24c0), (Value.int .i64 x24c1), (Value.int .u32 x24c2), (Value.int .u32 x24c3), (Value.int .i64 x24c4), (Value.int .i64 x24c5), (Value.int .i64 x24c6), (Value.int .i64 x24c7), (Value.slice x24c8a x24c8n x24c8c)]⟩)]⟩ H3 fun x25v H4 =>
 ∃ x25 : Bool, x25v = (Value.bool x25) ∧
 IfB (!x25)
 (conn_Accept_j1 now0 first2 s4b true H4 R)
 (∃ x29 : Int, H4.cell ⟨s4b, 0, none⟩ = some (Value.int .i64 x29) ∧
 FnW Tryz.prog f_conn_port ⟨[(Value.int .i64 x29)]⟩ H4 fun x30v H11 =>
 ∃ x30 : Bool, x30v = (Value.bool x30) ∧
 IfB (!x30)
 (conn_Accept_j1 now0 first2 s4b true H11 R)
 (∃ x35 : Int, H11.cell ⟨s4b, 1, none⟩ = some (Value.int .i64 x35) ∧
 FnW Tryz.prog f_conn_port ⟨[(Value.int .i64 x35)]⟩ H11 fun x36v H12 =>
 ∃ x36 : Bool, x36v = (Value.bool x36) ∧
 IfB (!x36)
 (conn_Accept_j1 now0 first2 s4b true H12 R)
 (IfB (decide ((now0 : Int) < 0))
 (conn_Accept_j1 now0 first2 s4b true H12 R)
 (conn_Accept_j1 now0 first2 s4b odd9 H12 R))))
def conn_Accept_p (now0 : Int) (s1c0 : Int) (s1c1 : Int) (s1c2 : Int) (s1c3 : Int) (s1c4 : Int) (s1c5 : Int) (s1c6 : Int) (s1c7 : Int) (s1c8a : Option Addr) (s1c8n : Nat) (s1c8c : Nat) (first2 : Int) (H : Heap) (R : Value → Heap → Prop) : Prop :=
 NewW H (Obj.cells ⟨[(Value.int .i64 s1c0), (Value.int .i64 s1c1), (Value.int .u32 s1c2), (Value.int .u32 s1c3), (Value.int .i64 s1c4), (Value.int .i64 s1c5), (Value.int .i64 s1c6), (Value.int .i64 s1c7), (Value.slice s1c8a s1c8n s1c8c)]⟩ T_seg_Segment) fun s4b H1 =>
 ∃ x11c0 : Int, H1.cell ⟨s4b, 0, none⟩ = some (Value.int .i64 x11c0) ∧ ∃ x11c1 : Int, H1.cell ⟨s4b, 1, none⟩ = some (Value.int .i64 x11c1) ∧ ∃ x11c2 : Int, H1.cell ⟨s4b, 2, none⟩ = some (Value.int .u32 x11c2) ∧ ∃ x11c3 : Int, H1.cell ⟨s4b, 3, none⟩ = some (Value.int .u32 x11c3) ∧ ∃ x11c4 : Int, H1.cell ⟨s4b, 4, none⟩ = some (Value.int .i64 x11c4) ∧ ∃ x11c5 : Int, H1.cell ⟨s4b, 5, none⟩ = some (Value.int .i64 x11c5) ∧ ∃ x11c6 : Int, H1.cell ⟨s4b, 6, none⟩ = some (Value.int .i64 x11c6) ∧ ∃ x11c7 : Int, H1.cell ⟨s4b, 7, none⟩ = some (Value.int .i64 x11c7) ∧ ∃ (x11c8a : Option Addr) (x11c8n x11c8c : Nat), H1.cell ⟨s4b, 8, none⟩ = some (Value.slice x11c8a x11c8n x11c8c) ∧ FnW Tryz.prog f_conn_has ⟨[(Value.agg ⟨[(Value.int .i64 x11c0), (Value.int .i64 x11c1), (Value.int .u32 x11c2), (Value.int .u32 x11c3), (Value.int .i64 x11c4), (Value.int .i64 x11c5), (Value.int .i64 x11c6), (Value.int .i64 x11c7), (Value.slice x11c8a x11c8n x11c8c)]⟩), (Value.int .i64 2)]⟩ H1 fun x12v H2 =>
 ∃ x12 : Bool, x12v = (Value.bool x12) ∧
 IfB (!x12)
 (conn_Accept_j0 now0 first2 s4b true H2 R)
 (∃ x15c0 : Int, H2.cell ⟨s4b, 0, none⟩ = some (Value.int .i64 x15c0) ∧ ∃ x15c1 : Int, H2.cell ⟨s4b, 1, none⟩ = some (Value.int .i64 x15c1) ∧ ∃ x15c2 : Int, H2.cell ⟨s4b, 2, none⟩ = some (Value.int .u32 x15c2) ∧ ∃ x15c3 : Int, H2.cell ⟨s4b, 3, none⟩ = some (Value.int .u32 x15c3) ∧ ∃ x15c4 : Int, H2.cell ⟨s4b, 4, none⟩ = some (Value.int .i64 x15c4) ∧ ∃ x15c5 : Int, H2.cell ⟨s4b, 5, none⟩ = some (Value.int .i64 x15c5) ∧ ∃ x15c6 : Int, H2.cell ⟨s4b, 6, none⟩ = some (Value.int .i64 x15c6) ∧ ∃ x15c7 : Int, H2.cell ⟨s4b, 7, none⟩ = some (Value.int .i64 x15c7) ∧ ∃ (x15c8a : Option Addr) (x15c8n x15c8c : Nat), H2.cell ⟨s4b, 8, none⟩ = some (Value.slice x15c8a x15c8n x15c8c) ∧ FnW Tryz.prog f_conn_has ⟨[(Value.agg ⟨[(Value.int .i64 x15c0), (Value.int .i64 x15c1), (Value.int .u32 x15c2), (Value.int .u32 x15c3), (Value.int .i64 x15c4), (Value.int .i64 x15c5), (Value.int .i64 x15c6), (Value.int .i64 x15c7), (Value.slice x15c8a x15c8n x15c8c)]⟩), (Value.int .i64 21)]⟩ H2 fun x16v H13 =>
 ∃ x16 : Bool, x16v = (Value.bool x16) ∧
 IfB x16
 (conn_Accept_j0 now0 first2 s4b true H13 R)
 (∃ (x20a : Option Addr) (x20n x20c : Nat), H13.cell ⟨s4b, 8, none⟩ = some (Value.slice x20a x20n x20c) ∧
 conn_Accept_j0 now0 first2 s4b (decide (((x20n : Int) : Int) > 0)) H13 R))
theorem conn_Accept_heq (now0 : Int) (s1c0 : Int) (s1c1 : Int) (s1c2 : Int) (s1c3 : Int) (s1c4 : Int) (s1c5 : Int) (s1c6 : Int) (s1c7 : Int) (s1c8a : Option Addr) (s1c8n : Nat) (s1c8c : Nat) (first2 : Int) (H : Heap) (R : Value → Heap → Prop) : conn_Accept_p now0 s1c0 s1c1 s1c2 s1c3 s1c4 s1c5 s1c6 s1c7 s1c8a s1c8n s1c8c first2 H R = CodeW Tryz.prog hplan_conn_Accept (bodyOf Tryz.f26) (env0 [(Value.int .i64 now0), (Value.agg ⟨[(Value.int .i64 s1c0), (Value.int .i64 s1c1), (Value.int .u32 s1c2), (Value.int .u32 s1c3), (Value.int .i64 s1c4), (Value.int .i64 s1c5), (Value.int .i64 s1c6), (Value.int .i64 s1c7), (Value.slice s1c8a s1c8n s1c8c)]⟩), (Value.int .u32 first2)]) H (RetW Tryz.prog Tryz.f26.results.toList R) := by kernel_rfl
theorem conn_Accept_sh (now0 : Int) (s1c0 : Int) (s1c1 : Int) (s1c2 : Int) (s1c3 : Int) (s1c4 : Int) (s1c5 : Int) (s1c6 : Int) (s1c7 : Int) (s1c8a : Option Addr) (s1c8n : Nat) (s1c8c : Nat) (first2 : Int) {H : Heap} {R : Value → Heap → Prop} (h : conn_Accept_p now0 s1c0 s1c1 s1c2 s1c3 s1c4 s1c5 s1c6 s1c7 s1c8a s1c8n s1c8c first2 H fun v H1 => ∀ H2, Shut H H1 H2 → R v H2) : FnW Tryz.prog f_conn_Accept ⟨[(Value.int .i64 now0), (Value.agg ⟨[(Value.int .i64 s1c0), (Value.int .i64 s1c1), (Value.int .u32 s1c2), (Value.int .u32 s1c3), (Value.int .i64 s1c4), (Value.int .i64 s1c5), (Value.int .i64 s1c6), (Value.int .i64 s1c7), (Value.slice s1c8a s1c8n s1c8c)]⟩), (Value.int .u32 first2)]⟩ H R := FnW.of_code hk_conn_Accept (by kernel_rfl) (Eq.mp (conn_Accept_heq now0 s1c0 s1c1 s1c2 s1c3 s1c4 s1c5 s1c6 s1c7 s1c8a s1c8n s1c8c first2 H _) h)
def hplan_conn_port : Plan := ⟨[], [], [], []⟩
theorem hk_conn_port : Known Tryz.prog f_conn_port Tryz.f36 hplan_conn_port (bodyOf Tryz.f36) := ⟨Tryz.func36, by kernel_rfl, by kernel_rfl, by kernel_rfl, by kernel_rfl, by kernel_rfl⟩
def conn_port_p (n0 : Int) (H : Heap) (R : Value → Heap → Prop) : Prop :=
 IfB (decide ((n0 : Int) ≥ 1))
 (R (Value.bool (decide ((n0 : Int) ≤ 65535))) H)
 (R (Value.bool false) H)
theorem conn_port_heq (n0 : Int) (H : Heap) (R : Value → Heap → Prop) : conn_port_p n0 H R = CodeW Tryz.prog hplan_conn_port (bodyOf Tryz.f36) (env0 [(Value.int .i64 n0)]) H (RetW Tryz.prog Tryz.f36.results.toList R) := by kernel_rfl
theorem conn_port_sh (n0 : Int) {H : Heap} {R : Value → Heap → Prop} (h : conn_port_p n0 H fun v H1 => ∀ H2, Shut H H1 H2 → R v H2) : FnW Tryz.prog f_conn_port ⟨[(Value.int .i64 n0)]⟩ H R := FnW.of_code hk_conn_port (by kernel_rfl) (Eq.mp (conn_port_heq n0 H _) h)
def hplan_conn_begun : Plan := ⟨[], [], [], []⟩
theorem hk_conn_begun : Known Tryz.prog f_conn_begun Tryz.f37 hplan_conn_begun (bodyOf Tryz.f37) := ⟨Tryz.func37, by kernel_rfl, by kernel_rfl, by kernel_rfl, by kernel_rfl, by kernel_rfl⟩
def conn_begun_p (now0 : Int) (from1 : Int) (to2 : Int) (first3 : Int) (H : Heap) (R : Value → Heap → Prop) : Prop :=
 NewW H (Obj.cells ⟨[(Value.int .i64 0), (Value.int .i64 from1), (Value.int .i64 to2), (Value.int .u32 first3), (Value.pointer none), (Value.pointer none), (Value.bool false), (Value.bool false), (Value.bool false), (Value.bool false), (Value.int .i64 now0), (Value.int .i64 (-1)), (Value.slice none 0 0)]⟩ T_conn_Conn) fun x15b H1 =>
 FnW Tryz.prog f_conn_Conn_fresh ⟨[(Value.pointer (some ⟨x15b, 0, none⟩)), (Value.int .i64 536)]⟩ H1 fun x17v H2 =>
 x17v = (Value.tuple ⟨[]⟩) ∧
 R (Value.pointer (some ⟨x15b, 0, none⟩)) H2
theorem conn_begun_heq (now0 : Int) (from1 : Int) (to2 : Int) (first3 : Int) (H : Heap) (R : Value → Heap → Prop) : conn_begun_p now0 from1 to2 first3 H R = CodeW Tryz.prog hplan_conn_begun (bodyOf Tryz.f37) (env0 [(Value.int .i64 now0), (Value.int .i64 from1), (Value.int .i64 to2), (Value.int .u32 first3)]) H (RetW Tryz.prog Tryz.f37.results.toList R) := by kernel_rfl
theorem conn_begun_sh (now0 : Int) (from1 : Int) (to2 : Int) (first3 : Int) {H : Heap} {R : Value → Heap → Prop} (h : conn_begun_p now0 from1 to2 first3 H fun v H1 => ∀ H2, Shut H H1 H2 → R v H2) : FnW Tryz.prog f_conn_begun ⟨[(Value.int .i64 now0), (Value.int .i64 from1), (Value.int .i64 to2), (Value.int .u32 first3)]⟩ H R := FnW.of_code hk_conn_begun (by kernel_rfl) (Eq.mp (conn_begun_heq now0 from1 to2 first3 H _) h)
def hplan_conn_Conn_hello : Plan := ⟨[], [], [], []⟩
theorem hk_conn_Conn_hello : Known Tryz.prog f_conn_Conn_hello Tryz.f38 hplan_conn_Conn_hello (bodyOf Tryz.f38) := ⟨Tryz.func38, by kernel_rfl, by kernel_rfl, by kernel_rfl, by kernel_rfl, by kernel_rfl⟩
def conn_Conn_hello_j1 (c0b : Nat) (flags2_1 : Int) (H2 : Heap) (R : Value → Heap → Prop) : Prop :=
 ∃ x19 : Int, H2.cell ⟨c0b, 3, none⟩ = some (Value.int .u32 x19) ∧
 FnW Tryz.prog f_conn_Conn_say ⟨[(Value.pointer (some ⟨c0b, 0, none⟩)), (Value.int .u32 x19), (Value.int .i64 flags2_1), (Value.slice none 0 0)]⟩ H2 fun x21v H3 =>
 ∃ x21 : Option Addr, x21v = (Value.pointer x21) ∧
 NilP x21 fun x22p =>
 StCell H3 ⟨x22p.block, x22p.off + 7, none⟩ (Value.int .i64 1460) fun H4 =>
 R (Value.tuple ⟨[]⟩) H4
def conn_Conn_hello_j0 (c0b : Nat) (flags2 : Int) (H1 : Heap) (R : Value → Heap → Prop) : Prop :=
 conn_Conn_hello_j1 c0b (bitsOr .i64 flags2 2) H1 R
def conn_Conn_hello_p (c0b : Nat) (H : Heap) (R : Value → Heap → Prop) : Prop :=
 ∃ x6 : Int, H.cell ⟨c0b, 0, none⟩ = some (Value.int .i64 x6) ∧
 IfB ((x6 : Int) == 2)
 (conn_Conn_hello_j0 c0b (bitsOr .i64 0 16) H R)
 (IfB ((x6 : Int) == 1)
 (conn_Conn_hello_j0 c0b 0 H R)
 (conn_Conn_hello_j1 c0b 0 H R))
theorem conn_Conn_hello_heq (c0b : Nat) (H : Heap) (R : Value → Heap → Prop) : conn_Conn_hello_p c0b H R = CodeW Tryz.prog hplan_conn_Conn_hello (bodyOf Tryz.f38) (env0 [(Value.pointer (some ⟨c0b, 0, none⟩))]) H (RetW Tryz.prog Tryz.f38.results.toList R) := by kernel_rfl
theorem conn_Conn_hello_sh (c0b : Nat) {H : Heap} {R : Value → Heap → Prop} (h : conn_Conn_hello_p c0b H fun v H1 => ∀ H2, Shut H H1 H2 → R v H2) : FnW Tryz.prog f_conn_Conn_hello ⟨[(Value.pointer (some ⟨c0b, 0, none⟩))]⟩ H R := FnW.of_code hk_conn_Conn_hello (by kernel_rfl) (Eq.mp (conn_Conn_hello_heq c0b H _) h)
def hplan_conn_Conn_done : Plan := ⟨[(5, [0, 1, 2, 3, 4, 5, 6, 7, 8, 9, 10, 11, 12, 13], [34])], [], [], []⟩
theorem hk_conn_Conn_done : Known Tryz.prog f_conn_Conn_done Tryz.f39 hplan_conn_Conn_done (bodyOf Tryz.f39) := ⟨Tryz.func39, by kernel_rfl, by kernel_rfl, by kernel_rfl, by kernel_rfl, by kernel_rfl⟩
def conn_Conn_done_j0 (c0b : Nat) (H1 : Heap) (R : Value → Heap → Prop) : Prop :=
 ∃ (x46a : Option Addr) (x46n x46c : Nat), H1.cell ⟨c0b, 12, none⟩ = some (Value.slice x46a x46n x46c) ∧
 StCell H1 ⟨c0b, 12, none⟩ (Value.slice none 0 0) fun H2 =>
 R (Value.slice x46a x46n x46c) H2
def conn_Conn_done_j1 (c0b : Nat) (x10 : Bool) (H3 : Heap) (R : Value → Heap → Prop) : Prop :=
 IfB x10
 (StCell H3 ⟨c0b, 11, none⟩ (Value.int .i64 (-1)) fun H4 =>
 conn_Conn_done_j0 c0b H4 R)
 (∃ x28 : Int, H3.cell ⟨c0b, 11, none⟩ = some (Value.int .i64 x28) ∧
 IfB ((x28 : Int) == (-1))
 (∃ bs : List Nat, (∀ b ∈ bs, ∃ o, H3 b = some o) ∧
 c0b ∈ bs ∧ ∃ x34 : Int, H3.cell ⟨c0b, 10, none⟩ = some (Value.int .i64 x34) ∧
 ∃ x38 : Option Addr, H3.cell ⟨c0b, 4, none⟩ = some (Value.pointer x38) ∧
 FnW Tryz.prog f_send_Outbox_Wait ⟨[(Value.pointer x38)]⟩ H3 fun x39v H5 =>
 ∃ x39 : Int, x39v = (Value.int .i64 x39) ∧
 KeptIn bs H3 H5 ∧ StCell H5 ⟨c0b, 11, none⟩ (Value.int .i64 (IntKind.wrap .i64 (x34 + x39))) fun H6 =>
 conn_Conn_done_j0 c0b H6 R)
 (conn_Conn_done_j0 c0b H3 R))
def conn_Conn_done_p (c0b : Nat) (H : Heap) (R : Value → Heap → Prop) : Prop :=
 ∃ x8 : Int, H.cell ⟨c0b, 0, none⟩ = some (Value.int .i64 x8) ∧
 IfB ((x8 : Int) == 9)
 (conn_Conn_done_j0 c0b H R)
 (∃ x14 : Int, H.cell ⟨c0b, 0, none⟩ = some (Value.int .i64 x14) ∧
 IfB ((x14 : Int) == 0)
 (conn_Conn_done_j1 c0b true H R)
 (FnW Tryz.prog f_conn_Conn_open ⟨[(Value.pointer (some ⟨c0b, 0, none⟩))]⟩ H fun x18v H7 =>
 ∃ x18 : Bool, x18v = (Value.bool x18) ∧
 conn_Conn_done_j1 c0b (!x18) H7 R))
theorem conn_Conn_done_heq (c0b : Nat) (H : Heap) (R : Value → Heap → Prop) : conn_Conn_done_p c0b H R = CodeW Tryz.prog hplan_conn_Conn_done (bodyOf Tryz.f39) (env0 [(Value.pointer (some ⟨c0b, 0, none⟩))]) H (RetW Tryz.prog Tryz.f39.results.toList R) := by kernel_rfl
theorem conn_Conn_done_sh (c0b : Nat) {H : Heap} {R : Value → Heap → Prop} (h : conn_Conn_done_p c0b H fun v H1 => ∀ H2, Shut H H1 H2 → R v H2) : FnW Tryz.prog f_conn_Conn_done ⟨[(Value.pointer (some ⟨c0b, 0, none⟩))]⟩ H R := FnW.of_code hk_conn_Conn_done (by kernel_rfl) (Eq.mp (conn_Conn_done_heq c0b H _) h)
def hplan_conn_Conn_may : Plan := ⟨[], [], [], []⟩
theorem hk_conn_Conn_may : Known Tryz.prog f_conn_Conn_may Tryz.f45 hplan_conn_Conn_may (bodyOf Tryz.f45) := ⟨Tryz.func45, by kernel_rfl, by kernel_rfl, by kernel_rfl, by kernel_rfl, by kernel_rfl⟩
def conn_Conn_may_p (c0b : Nat) (now1 : Int) (H : Heap) (R : Value → Heap → Prop) : Prop :=
 FnW Tryz.prog f_conn_Conn_is ⟨[(Value.pointer (some ⟨c0b, 0, none⟩))]⟩ H fun x7v H1 =>
 ∃ x7 : Bool, x7v = (Value.bool x7) ∧
 IfB (!x7)
 (R (Value.int .i64 1) H1)
 (∃ x14 : Int, H1.cell ⟨c0b, 10, none⟩ = some (Value.int .i64 x14) ∧
 IfB (decide ((now1 : Int) < x14))
 (R (Value.int .i64 2) H1)
 (R (Value.int .i64 0) H1))
theorem conn_Conn_may_heq (c0b : Nat) (now1 : Int) (H : Heap) (R : Value → Heap → Prop) : conn_Conn_may_p c0b now1 H R = CodeW Tryz.prog hplan_conn_Conn_may (bodyOf Tryz.f45) (env0 [(Value.pointer (some ⟨c0b, 0, none⟩)), (Value.int .i64 now1)]) H (RetW Tryz.prog Tryz.f45.results.toList R) := by kernel_rfl
theorem conn_Conn_may_sh (c0b : Nat) (now1 : Int) {H : Heap} {R : Value → Heap → Prop} (h : conn_Conn_may_p c0b now1 H fun v H1 => ∀ H2, Shut H H1 H2 → R v H2) : FnW Tryz.prog f_conn_Conn_may ⟨[(Value.pointer (some ⟨c0b, 0, none⟩)), (Value.int .i64 now1)]⟩ H R := FnW.of_code hk_conn_Conn_may (by kernel_rfl) (Eq.mp (conn_Conn_may_heq c0b now1 H _) h)
def hplan_conn_Conn_say : Plan := ⟨[(1, [0, 1, 2, 3, 4, 5, 6, 7, 8, 9, 10, 11, 12, 13, 14, 16, 17, 19, 15, 18, 20, 21, 22, 23, 24, 25], [13, 17, 21])], [], [], []⟩
theorem hk_conn_Conn_say : Known Tryz.prog f_conn_Conn_say Tryz.f46 hplan_conn_Conn_say (bodyOf Tryz.f46) := ⟨Tryz.func46, by kernel_rfl, by kernel_rfl, by kernel_rfl, by kernel_rfl, by kernel_rfl⟩
def conn_Conn_say_p (c0b : Nat) (at1 : Int) (flags2 : Int) (b3a : Option Addr) (b3n : Nat) (b3c : Nat) (H : Heap) (R : Value → Heap → Prop) : Prop :=
 ∃ bs : List Nat, (∀ b ∈ bs, ∃ o, H b = some o) ∧
 c0b ∈ bs ∧ ∃ (x13a : Option Addr) (x13n x13c : Nat), H.cell ⟨c0b, 12, none⟩ = some (Value.slice x13a x13n x13c) ∧
 c0b ∈ bs ∧ ∃ x17 : Int, H.cell ⟨c0b, 1, none⟩ = some (Value.int .i64 x17) ∧
 c0b ∈ bs ∧ ∃ x21 : Int, H.cell ⟨c0b, 2, none⟩ = some (Value.int .i64 x21) ∧
 FnW Tryz.prog f_conn_Conn_wants ⟨[(Value.pointer (some ⟨c0b, 0, none⟩))]⟩ H fun x24v H1 =>
 ∃ x24 : Int, x24v = (Value.int .u32 x24) ∧
 KeptIn bs H H1 ∧ FnW Tryz.prog f_conn_Conn_window ⟨[(Value.pointer (some ⟨c0b, 0, none⟩))]⟩ H1 fun x27v H2 =>
 ∃ x27 : Int, x27v = (Value.int .i64 x27) ∧
 KeptIn bs H H2 ∧ NewW H2 (Obj.cells ⟨[(Value.int .i64 x17), (Value.int .i64 x21), (Value.int .u32 at1), (Value.int .u32 x24), (Value.int .i64 flags2), (Value.int .i64 x27), (Value.int .i64 0), (Value.int .i64 0), (Value.slice b3a b3n b3c)]⟩ T_seg_Segment) fun x30b H3 =>
 AppW Tryz.prog #[T_sl_seg_Segment, T_sl_seg_Segment] T_sl_seg_Segment [(Value.slice x13a x13n x13c), (Value.slice (some ⟨x30b, 0, none⟩) 1 1)] H3 fun x31v H4 =>
 ∃ (x31a : Option Addr) (x31n x31c : Nat), x31v = (Value.slice x31a x31n x31c) ∧
 KeptIn bs H H4 ∧ StCell H4 ⟨c0b, 12, none⟩ (Value.slice x31a x31n x31c) fun H5 =>
 ∃ (x37a : Option Addr) (x37n x37c : Nat), H5.cell ⟨c0b, 12, none⟩ = some (Value.slice x37a x37n x37c) ∧
 ∃ (x41a : Option Addr) (x41n x41c : Nat), H5.cell ⟨c0b, 12, none⟩ = some (Value.slice x41a x41n x41c) ∧
 NilP x37a fun x44q =>
 InB (IntKind.wrap .i64 ((x41n : Int) - 1)) x37n fun x44i =>
 elemAt x44q x44i 9 fun x44p =>
 R (Value.pointer (some x44p)) H5
theorem conn_Conn_say_heq (c0b : Nat) (at1 : Int) (flags2 : Int) (b3a : Option Addr) (b3n : Nat) (b3c : Nat) (H : Heap) (R : Value → Heap → Prop) : conn_Conn_say_p c0b at1 flags2 b3a b3n b3c H R = CodeW Tryz.prog hplan_conn_Conn_say (bodyOf Tryz.f46) (env0 [(Value.pointer (some ⟨c0b, 0, none⟩)), (Value.int .u32 at1), (Value.int .i64 flags2), (Value.slice b3a b3n b3c)]) H (RetW Tryz.prog Tryz.f46.results.toList R) := by kernel_rfl
theorem conn_Conn_say_sh (c0b : Nat) (at1 : Int) (flags2 : Int) (b3a : Option Addr) (b3n : Nat) (b3c : Nat) {H : Heap} {R : Value → Heap → Prop} (h : conn_Conn_say_p c0b at1 flags2 b3a b3n b3c H fun v H1 => ∀ H2, Shut H H1 H2 → R v H2) : FnW Tryz.prog f_conn_Conn_say ⟨[(Value.pointer (some ⟨c0b, 0, none⟩)), (Value.int .u32 at1), (Value.int .i64 flags2), (Value.slice b3a b3n b3c)]⟩ H R := FnW.of_code hk_conn_Conn_say (by kernel_rfl) (Eq.mp (conn_Conn_say_heq c0b at1 flags2 b3a b3n b3c H _) h)
def hplan_conn_Conn_last : Plan := ⟨[], [], [], []⟩
theorem hk_conn_Conn_last : Known Tryz.prog f_conn_Conn_last Tryz.f47 hplan_conn_Conn_last (bodyOf Tryz.f47) := ⟨Tryz.func47, by kernel_rfl, by kernel_rfl, by kernel_rfl, by kernel_rfl, by kernel_rfl⟩
def conn_Conn_last_p (c0b : Nat) (H : Heap) (R : Value → Heap → Prop) : Prop :=
 ∃ x7 : Option Addr, H.cell ⟨c0b, 4, none⟩ = some (Value.pointer x7) ∧
 FnW Tryz.prog f_send_Outbox_Next ⟨[(Value.pointer x7)]⟩ H fun x8v H1 =>
 ∃ x8 : Int, x8v = (Value.int .u32 x8) ∧
 ∃ x13 : Bool, H1.cell ⟨c0b, 7, none⟩ = some (Value.bool x13) ∧
 IfB x13
 (R (Value.int .u32 (IntKind.wrap .u32 (x8 + 1))) H1)
 (R (Value.int .u32 x8) H1)
theorem conn_Conn_last_heq (c0b : Nat) (H : Heap) (R : Value → Heap → Prop) : conn_Conn_last_p c0b H R = CodeW Tryz.prog hplan_conn_Conn_last (bodyOf Tryz.f47) (env0 [(Value.pointer (some ⟨c0b, 0, none⟩))]) H (RetW Tryz.prog Tryz.f47.results.toList R) := by kernel_rfl
theorem conn_Conn_last_sh (c0b : Nat) {H : Heap} {R : Value → Heap → Prop} (h : conn_Conn_last_p c0b H fun v H1 => ∀ H2, Shut H H1 H2 → R v H2) : FnW Tryz.prog f_conn_Conn_last ⟨[(Value.pointer (some ⟨c0b, 0, none⟩))]⟩ H R := FnW.of_code hk_conn_Conn_last (by kernel_rfl) (Eq.mp (conn_Conn_last_heq c0b H _) h)
def hplan_conn_Conn_die : Plan := ⟨[], [], [], []⟩
theorem hk_conn_Conn_die : Known Tryz.prog f_conn_Conn_die Tryz.f48 hplan_conn_Conn_die (bodyOf Tryz.f48) := ⟨Tryz.func48, by kernel_rfl, by kernel_rfl, by kernel_rfl, by kernel_rfl, by kernel_rfl⟩
def conn_Conn_die_p (c0b : Nat) (H : Heap) (R : Value → Heap → Prop) : Prop :=
 StCell H ⟨c0b, 0, none⟩ (Value.int .i64 0) fun H1 =>
 R (Value.tuple ⟨[]⟩) H1
theorem conn_Conn_die_heq (c0b : Nat) (H : Heap) (R : Value → Heap → Prop) : conn_Conn_die_p c0b H R = CodeW Tryz.prog hplan_conn_Conn_die (bodyOf Tryz.f48) (env0 [(Value.pointer (some ⟨c0b, 0, none⟩))]) H (RetW Tryz.prog Tryz.f48.results.toList R) := by kernel_rfl
theorem conn_Conn_die_sh (c0b : Nat) {H : Heap} {R : Value → Heap → Prop} (h : conn_Conn_die_p c0b H fun v H1 => ∀ H2, Shut H H1 H2 → R v H2) : FnW Tryz.prog f_conn_Conn_die ⟨[(Value.pointer (some ⟨c0b, 0, none⟩))]⟩ H R := FnW.of_code hk_conn_Conn_die (by kernel_rfl) (Eq.mp (conn_Conn_die_heq c0b H _) h)
def hplan_conn_can : Plan := ⟨[], [], [], []⟩
theorem hk_conn_can : Known Tryz.prog f_conn_can Tryz.f53 hplan_conn_can (bodyOf Tryz.f53) := ⟨Tryz.func53, by kernel_rfl, by kernel_rfl, by kernel_rfl, by kernel_rfl, by kernel_rfl⟩
def conn_can_p (s0c0 : Int) (s0c1 : Int) (s0c2 : Int) (s0c3 : Int) (s0c4 : Int) (s0c5 : Int) (s0c6 : Int) (s0c7 : Int) (s0c8a : Option Addr) (s0c8n : Nat) (s0c8c : Nat) (H : Heap) (R : Value → Heap → Prop) : Prop :=
 NewW H (Obj.cells ⟨[(Value.int .i64 s0c0), (Value.int .i64 s0c1), (Value.int .u32 s0c2), (Value.int .u32 s0c3), (Value.int .i64 s0c4), (Value.int .i64 s0c5), (Value.int .i64 s0c6), (Value.int .i64 s0c7), (Value.slice s0c8a s0c8n s0c8c)]⟩ T_seg_Segment) fun s1b H1 =>
 ∃ x6c0 : Int, H1.cell ⟨s1b, 0, none⟩ = some (Value.int .i64 x6c0) ∧ ∃ x6c1 : Int, H1.cell ⟨s1b, 1, none⟩ = some (Value.int .i64 x6c1) ∧ ∃ x6c2 : Int, H1.cell ⟨s1b, 2, none⟩ = some (Value.int .u32 x6c2) ∧ ∃ x6c3 : Int, H1.cell ⟨s1b, 3, none⟩ = some (Value.int .u32 x6c3) ∧ ∃ x6c4 : Int, H1.cell ⟨s1b, 4, none⟩ = some (Value.int .i64 x6c4) ∧ ∃ x6c5 : Int, H1.cell ⟨s1b, 5, none⟩ = some (Value.int .i64 x6c5) ∧ ∃ x6c6 : Int, H1.cell ⟨s1b, 6, none⟩ = some (Value.int .i64 x6c6) ∧ ∃ x6c7 : Int, H1.cell ⟨s1b, 7, none⟩ = some (Value.int .i64 x6c7) ∧ ∃ (x6c8a : Option Addr) (x6c8n x6c8c : Nat), H1.cell ⟨s1b, 8, none⟩ = some (Value.slice x6c8a x6c8n x6c8c) ∧ FnW Tryz.prog f_seg_Build ⟨[(Value.int .u32 0), (Value.int .u32 0), (Value.agg ⟨[(Value.int .i64 x6c0), (Value.int .i64 x6c1), (Value.int .u32 x6c2), (Value.int .u32 x6c3), (Value.int .i64 x6c4), (Value.int .i64 x6c5), (Value.int .i64 x6c6), (Value.int .i64 x6c7), (Value.slice x6c8a x6c8n x6c8c)]⟩)]⟩ H1 fun x7v H2 =>
 ∃ (x7r0a : Option Addr) (x7r0n x7r0c : Nat), ∃ x7r1 : Int, x7v = (Value.tuple ⟨[(Value.slice x7r0a x7r0n x7r0c), (Value.int .i64 x7r1)]⟩) ∧
 R (Value.bool ((x7r1 : Int) == 0)) H2
theorem conn_can_heq (s0c0 : Int) (s0c1 : Int) (s0c2 : Int) (s0c3 : Int) (s0c4 : Int) (s0c5 : Int) (s0c6 : Int) (s0c7 : Int) (s0c8a : Option Addr) (s0c8n : Nat) (s0c8c : Nat) (H : Heap) (R : Value → Heap → Prop) : conn_can_p s0c0 s0c1 s0c2 s0c3 s0c4 s0c5 s0c6 s0c7 s0c8a s0c8n s0c8c H R = CodeW Tryz.prog hplan_conn_can (bodyOf Tryz.f53) (env0 [(Value.agg ⟨[(Value.int .i64 s0c0), (Value.int .i64 s0c1), (Value.int .u32 s0c2), (Value.int .u32 s0c3), (Value.int .i64 s0c4), (Value.int .i64 s0c5), (Value.int .i64 s0c6), (Value.int .i64 s0c7), (Value.slice s0c8a s0c8n s0c8c)]⟩)]) H (RetW Tryz.prog Tryz.f53.results.toList R) := by kernel_rfl
theorem conn_can_sh (s0c0 : Int) (s0c1 : Int) (s0c2 : Int) (s0c3 : Int) (s0c4 : Int) (s0c5 : Int) (s0c6 : Int) (s0c7 : Int) (s0c8a : Option Addr) (s0c8n : Nat) (s0c8c : Nat) {H : Heap} {R : Value → Heap → Prop} (h : conn_can_p s0c0 s0c1 s0c2 s0c3 s0c4 s0c5 s0c6 s0c7 s0c8a s0c8n s0c8c H fun v H1 => ∀ H2, Shut H H1 H2 → R v H2) : FnW Tryz.prog f_conn_can ⟨[(Value.agg ⟨[(Value.int .i64 s0c0), (Value.int .i64 s0c1), (Value.int .u32 s0c2), (Value.int .u32 s0c3), (Value.int .i64 s0c4), (Value.int .i64 s0c5), (Value.int .i64 s0c6), (Value.int .i64 s0c7), (Value.slice s0c8a s0c8n s0c8c)]⟩)]⟩ H R := FnW.of_code hk_conn_can (by kernel_rfl) (Eq.mp (conn_can_heq s0c0 s0c1 s0c2 s0c3 s0c4 s0c5 s0c6 s0c7 s0c8a s0c8n s0c8c H _) h)
def hplan_conn_Conn_answer : Plan := ⟨[(1, [0, 1, 2, 3, 4, 5, 6, 7, 8, 9, 10, 11], [9])], [], [], []⟩
theorem hk_conn_Conn_answer : Known Tryz.prog f_conn_Conn_answer Tryz.f54 hplan_conn_Conn_answer (bodyOf Tryz.f54) := ⟨Tryz.func54, by kernel_rfl, by kernel_rfl, by kernel_rfl, by kernel_rfl, by kernel_rfl⟩
def conn_Conn_answer_j1 (H17 : Heap) (R : Value → Heap → Prop) : Prop :=
 R (Value.int .i64 0) H17
def conn_Conn_answer_j0 (c0b : Nat) (s3b : Nat) (x16 : Bool) (H4 : Heap) (R : Value → Heap → Prop) : Prop :=
 IfB x16
 (∃ x18c0 : Int, H4.cell ⟨s3b, 0, none⟩ = some (Value.int .i64 x18c0) ∧ ∃ x18c1 : Int, H4.cell ⟨s3b, 1, none⟩ = some (Value.int .i64 x18c1) ∧ ∃ x18c2 : Int, H4.cell ⟨s3b, 2, none⟩ = some (Value.int .u32 x18c2) ∧ ∃ x18c3 : Int, H4.cell ⟨s3b, 3, none⟩ = some (Value.int .u32 x18c3) ∧ ∃ x18c4 : Int, H4.cell ⟨s3b, 4, none⟩ = some (Value.int .i64 x18c4) ∧ ∃ x18c5 : Int, H4.cell ⟨s3b, 5, none⟩ = some (Value.int .i64 x18c5) ∧ ∃ x18c6 : Int, H4.cell ⟨s3b, 6, none⟩ = some (Value.int .i64 x18c6) ∧ ∃ x18c7 : Int, H4.cell ⟨s3b, 7, none⟩ = some (Value.int .i64 x18c7) ∧ ∃ (x18c8a : Option Addr) (x18c8n x18c8c : Nat), H4.cell ⟨s3b, 8, none⟩ = some (Value.slice x18c8a x18c8n x18c8c) ∧ FnW Tryz.prog f_conn_Conn_refuse ⟨[(Value.pointer (some ⟨c0b, 0, none⟩)), (Value.agg ⟨[(Value.int .i64 x18c0), (Value.int .i64 x18c1), (Value.int .u32 x18c2), (Value.int .u32 x18c3), (Value.int .i64 x18c4), (Value.int .i64 x18c5), (Value.int .i64 x18c6), (Value.int .i64 x18c7), (Value.slice x18c8a x18c8n x18c8c)]⟩)]⟩ H4 fun x19v H5 =>
 x19v = (Value.tuple ⟨[]⟩) ∧
 R (Value.int .i64 0) H5)
 (∃ x20c0 : Int, H4.cell ⟨s3b, 0, none⟩ = some (Value.int .i64 x20c0) ∧ ∃ x20c1 : Int, H4.cell ⟨s3b, 1, none⟩ = some (Value.int .i64 x20c1) ∧ ∃ x20c2 : Int, H4.cell ⟨s3b, 2, none⟩ = some (Value.int .u32 x20c2) ∧ ∃ x20c3 : Int, H4.cell ⟨s3b, 3, none⟩ = some (Value.int .u32 x20c3) ∧ ∃ x20c4 : Int, H4.cell ⟨s3b, 4, none⟩ = some (Value.int .i64 x20c4) ∧ ∃ x20c5 : Int, H4.cell ⟨s3b, 5, none⟩ = some (Value.int .i64 x20c5) ∧ ∃ x20c6 : Int, H4.cell ⟨s3b, 6, none⟩ = some (Value.int .i64 x20c6) ∧ ∃ x20c7 : Int, H4.cell ⟨s3b, 7, none⟩ = some (Value.int .i64 x20c7) ∧ ∃ (x20c8a : Option Addr) (x20c8n x20c8c : Nat), H4.cell ⟨s3b, 8, none⟩ = some (Value.slice x20c8a x20c8n x20c8c) ∧ FnW Tryz.prog f_conn_has ⟨[(Value.agg ⟨[(Value.int .i64 x20c0), (Value.int .i64 x20c1), (Value.int .u32 x20c2), (Value.int .u32 x20c3), (Value.int .i64 x20c4), (Value.int .i64 x20c5), (Value.int .i64 x20c6), (Value.int .i64 x20c7), (Value.slice x20c8a x20c8n x20c8c)]⟩), (Value.int .i64 4)]⟩ H4 fun x21v H6 =>
 ∃ x21 : Bool, x21v = (Value.bool x21) ∧
 IfB x21
 (∃ x22c0 : Int, H6.cell ⟨s3b, 0, none⟩ = some (Value.int .i64 x22c0) ∧ ∃ x22c1 : Int, H6.cell ⟨s3b, 1, none⟩ = some (Value.int .i64 x22c1) ∧ ∃ x22c2 : Int, H6.cell ⟨s3b, 2, none⟩ = some (Value.int .u32 x22c2) ∧ ∃ x22c3 : Int, H6.cell ⟨s3b, 3, none⟩ = some (Value.int .u32 x22c3) ∧ ∃ x22c4 : Int, H6.cell ⟨s3b, 4, none⟩ = some (Value.int .i64 x22c4) ∧ ∃ x22c5 : Int, H6.cell ⟨s3b, 5, none⟩ = some (Value.int .i64 x22c5) ∧ ∃ x22c6 : Int, H6.cell ⟨s3b, 6, none⟩ = some (Value.int .i64 x22c6) ∧ ∃ x22c7 : Int, H6.cell ⟨s3b, 7, none⟩ = some (Value.int .i64 x22c7) ∧ ∃ (x22c8a : Option Addr) (x22c8n x22c8c : Nat), H6.cell ⟨s3b, 8, none⟩ = some (Value.slice x22c8a x22c8n x22c8c) ∧ FnW Tryz.prog f_conn_has ⟨[(Value.agg ⟨[(Value.int .i64 x22c0), (Value.int .i64 x22c1), (Value.int .u32 x22c2), (Value.int .u32 x22c3), (Value.int .i64 x22c4), (Value.int .i64 x22c5), (Value.int .i64 x22c6), (Value.int .i64 x22c7), (Value.slice x22c8a x22c8n x22c8c)]⟩), (Value.int .i64 16)]⟩ H6 fun x23v H7 =>
 ∃ x23 : Bool, x23v = (Value.bool x23) ∧
 IfB (!x23)
 (R (Value.int .i64 0) H7)
 (FnW Tryz.prog f_conn_Conn_lost ⟨[(Value.pointer (some ⟨c0b, 0, none⟩))]⟩ H7 fun x26v H8 =>
 ∃ x26 : Int, x26v = (Value.int .i64 x26) ∧
 R (Value.int .i64 x26) H8))
 (∃ x27c0 : Int, H6.cell ⟨s3b, 0, none⟩ = some (Value.int .i64 x27c0) ∧ ∃ x27c1 : Int, H6.cell ⟨s3b, 1, none⟩ = some (Value.int .i64 x27c1) ∧ ∃ x27c2 : Int, H6.cell ⟨s3b, 2, none⟩ = some (Value.int .u32 x27c2) ∧ ∃ x27c3 : Int, H6.cell ⟨s3b, 3, none⟩ = some (Value.int .u32 x27c3) ∧ ∃ x27c4 : Int, H6.cell ⟨s3b, 4, none⟩ = some (Value.int .i64 x27c4) ∧ ∃ x27c5 : Int, H6.cell ⟨s3b, 5, none⟩ = some (Value.int .i64 x27c5) ∧ ∃ x27c6 : Int, H6.cell ⟨s3b, 6, none⟩ = some (Value.int .i64 x27c6) ∧ ∃ x27c7 : Int, H6.cell ⟨s3b, 7, none⟩ = some (Value.int .i64 x27c7) ∧ ∃ (x27c8a : Option Addr) (x27c8n x27c8c : Nat), H6.cell ⟨s3b, 8, none⟩ = some (Value.slice x27c8a x27c8n x27c8c) ∧ FnW Tryz.prog f_conn_has ⟨[(Value.agg ⟨[(Value.int .i64 x27c0), (Value.int .i64 x27c1), (Value.int .u32 x27c2), (Value.int .u32 x27c3), (Value.int .i64 x27c4), (Value.int .i64 x27c5), (Value.int .i64 x27c6), (Value.int .i64 x27c7), (Value.slice x27c8a x27c8n x27c8c)]⟩), (Value.int .i64 2)]⟩ H6 fun x28v H9 =>
 ∃ x28 : Bool, x28v = (Value.bool x28) ∧
 IfB (!x28)
 (R (Value.int .i64 0) H9)
 (∃ x31c0 : Int, H9.cell ⟨s3b, 0, none⟩ = some (Value.int .i64 x31c0) ∧ ∃ x31c1 : Int, H9.cell ⟨s3b, 1, none⟩ = some (Value.int .i64 x31c1) ∧ ∃ x31c2 : Int, H9.cell ⟨s3b, 2, none⟩ = some (Value.int .u32 x31c2) ∧ ∃ x31c3 : Int, H9.cell ⟨s3b, 3, none⟩ = some (Value.int .u32 x31c3) ∧ ∃ x31c4 : Int, H9.cell ⟨s3b, 4, none⟩ = some (Value.int .i64 x31c4) ∧ ∃ x31c5 : Int, H9.cell ⟨s3b, 5, none⟩ = some (Value.int .i64 x31c5) ∧ ∃ x31c6 : Int, H9.cell ⟨s3b, 6, none⟩ = some (Value.int .i64 x31c6) ∧ ∃ x31c7 : Int, H9.cell ⟨s3b, 7, none⟩ = some (Value.int .i64 x31c7) ∧ ∃ (x31c8a : Option Addr) (x31c8n x31c8c : Nat), H9.cell ⟨s3b, 8, none⟩ = some (Value.slice x31c8a x31c8n x31c8c) ∧ FnW Tryz.prog f_conn_Conn_begin ⟨[(Value.pointer (some ⟨c0b, 0, none⟩)), (Value.agg ⟨[(Value.int .i64 x31c0), (Value.int .i64 x31c1), (Value.int .u32 x31c2), (Value.int .u32 x31c3), (Value.int .i64 x31c4), (Value.int .i64 x31c5), (Value.int .i64 x31c6), (Value.int .i64 x31c7), (Value.slice x31c8a x31c8n x31c8c)]⟩)]⟩ H9 fun x32v H10 =>
 x32v = (Value.tuple ⟨[]⟩) ∧
 ∃ x33c0 : Int, H10.cell ⟨s3b, 0, none⟩ = some (Value.int .i64 x33c0) ∧ ∃ x33c1 : Int, H10.cell ⟨s3b, 1, none⟩ = some (Value.int .i64 x33c1) ∧ ∃ x33c2 : Int, H10.cell ⟨s3b, 2, none⟩ = some (Value.int .u32 x33c2) ∧ ∃ x33c3 : Int, H10.cell ⟨s3b, 3, none⟩ = some (Value.int .u32 x33c3) ∧ ∃ x33c4 : Int, H10.cell ⟨s3b, 4, none⟩ = some (Value.int .i64 x33c4) ∧ ∃ x33c5 : Int, H10.cell ⟨s3b, 5, none⟩ = some (Value.int .i64 x33c5) ∧ ∃ x33c6 : Int, H10.cell ⟨s3b, 6, none⟩ = some (Value.int .i64 x33c6) ∧ ∃ x33c7 : Int, H10.cell ⟨s3b, 7, none⟩ = some (Value.int .i64 x33c7) ∧ ∃ (x33c8a : Option Addr) (x33c8n x33c8c : Nat), H10.cell ⟨s3b, 8, none⟩ = some (Value.slice x33c8a x33c8n x33c8c) ∧ FnW Tryz.prog f_conn_has ⟨[(Value.agg ⟨[(Value.int .i64 x33c0), (Value.int .i64 x33c1), (Value.int .u32 x33c2), (Value.int .u32 x33c3), (Value.int .i64 x33c4), (Value.int .i64 x33c5), (Value.int .i64 x33c6), (Value.int .i64 x33c7), (Value.slice x33c8a x33c8n x33c8c)]⟩), (Value.int .i64 16)]⟩ H10 fun x34v H11 =>
 ∃ x34 : Bool, x34v = (Value.bool x34) ∧
 IfB (!x34)
 (StCell H11 ⟨c0b, 0, none⟩ (Value.int .i64 2) fun H12 =>
 FnW Tryz.prog f_conn_Conn_hello ⟨[(Value.pointer (some ⟨c0b, 0, none⟩))]⟩ H12 fun x40v H13 =>
 x40v = (Value.tuple ⟨[]⟩) ∧
 R (Value.int .i64 0) H13)
 (∃ x42c0 : Int, H11.cell ⟨s3b, 0, none⟩ = some (Value.int .i64 x42c0) ∧ ∃ x42c1 : Int, H11.cell ⟨s3b, 1, none⟩ = some (Value.int .i64 x42c1) ∧ ∃ x42c2 : Int, H11.cell ⟨s3b, 2, none⟩ = some (Value.int .u32 x42c2) ∧ ∃ x42c3 : Int, H11.cell ⟨s3b, 3, none⟩ = some (Value.int .u32 x42c3) ∧ ∃ x42c4 : Int, H11.cell ⟨s3b, 4, none⟩ = some (Value.int .i64 x42c4) ∧ ∃ x42c5 : Int, H11.cell ⟨s3b, 5, none⟩ = some (Value.int .i64 x42c5) ∧ ∃ x42c6 : Int, H11.cell ⟨s3b, 6, none⟩ = some (Value.int .i64 x42c6) ∧ ∃ x42c7 : Int, H11.cell ⟨s3b, 7, none⟩ = some (Value.int .i64 x42c7) ∧ ∃ (x42c8a : Option Addr) (x42c8n x42c8c : Nat), H11.cell ⟨s3b, 8, none⟩ = some (Value.slice x42c8a x42c8n x42c8c) ∧ FnW Tryz.prog f_conn_Conn_welcome ⟨[(Value.pointer (some ⟨c0b, 0, none⟩)), (Value.agg ⟨[(Value.int .i64 x42c0), (Value.int .i64 x42c1), (Value.int .u32 x42c2), (Value.int .u32 x42c3), (Value.int .i64 x42c4), (Value.int .i64 x42c5), (Value.int .i64 x42c6), (Value.int .i64 x42c7), (Value.slice x42c8a x42c8n x42c8c)]⟩)]⟩ H11 fun x43v H14 =>
 x43v = (Value.tuple ⟨[]⟩) ∧
 FnW Tryz.prog f_conn_Conn_flush ⟨[(Value.pointer (some ⟨c0b, 0, none⟩))]⟩ H14 fun x45v H15 =>
 x45v = (Value.tuple ⟨[]⟩) ∧
 ∃ (x49a : Option Addr) (x49n x49c : Nat), H15.cell ⟨c0b, 12, none⟩ = some (Value.slice x49a x49n x49c) ∧
 IfB (((x49n : Int) : Int) == 0)
 (FnW Tryz.prog f_conn_Conn_nod ⟨[(Value.pointer (some ⟨c0b, 0, none⟩))]⟩ H15 fun x53v H16 =>
 x53v = (Value.tuple ⟨[]⟩) ∧
 conn_Conn_answer_j1 H16 R)
 (conn_Conn_answer_j1 H15 R)))))
def conn_Conn_answer_p (c0b : Nat) (s1c0 : Int) (s1c1 : Int) (s1c2 : Int) (s1c3 : Int) (s1c4 : Int) (s1c5 : Int) (s1c6 : Int) (s1c7 : Int) (s1c8a : Option Addr) (s1c8n : Nat) (s1c8c : Nat) (H : Heap) (R : Value → Heap → Prop) : Prop :=
 NewW H (Obj.cells ⟨[(Value.int .i64 s1c0), (Value.int .i64 s1c1), (Value.int .u32 s1c2), (Value.int .u32 s1c3), (Value.int .i64 s1c4), (Value.int .i64 s1c5), (Value.int .i64 s1c6), (Value.int .i64 s1c7), (Value.slice s1c8a s1c8n s1c8c)]⟩ T_seg_Segment) fun s3b H1 =>
 ∃ bs : List Nat, (∀ b ∈ bs, ∃ o, H1 b = some o) ∧
 ∃ x5c0 : Int, H1.cell ⟨s3b, 0, none⟩ = some (Value.int .i64 x5c0) ∧ ∃ x5c1 : Int, H1.cell ⟨s3b, 1, none⟩ = some (Value.int .i64 x5c1) ∧ ∃ x5c2 : Int, H1.cell ⟨s3b, 2, none⟩ = some (Value.int .u32 x5c2) ∧ ∃ x5c3 : Int, H1.cell ⟨s3b, 3, none⟩ = some (Value.int .u32 x5c3) ∧ ∃ x5c4 : Int, H1.cell ⟨s3b, 4, none⟩ = some (Value.int .i64 x5c4) ∧ ∃ x5c5 : Int, H1.cell ⟨s3b, 5, none⟩ = some (Value.int .i64 x5c5) ∧ ∃ x5c6 : Int, H1.cell ⟨s3b, 6, none⟩ = some (Value.int .i64 x5c6) ∧ ∃ x5c7 : Int, H1.cell ⟨s3b, 7, none⟩ = some (Value.int .i64 x5c7) ∧ ∃ (x5c8a : Option Addr) (x5c8n x5c8c : Nat), H1.cell ⟨s3b, 8, none⟩ = some (Value.slice x5c8a x5c8n x5c8c) ∧ FnW Tryz.prog f_conn_has ⟨[(Value.agg ⟨[(Value.int .i64 x5c0), (Value.int .i64 x5c1), (Value.int .u32 x5c2), (Value.int .u32 x5c3), (Value.int .i64 x5c4), (Value.int .i64 x5c5), (Value.int .i64 x5c6), (Value.int .i64 x5c7), (Value.slice x5c8a x5c8n x5c8c)]⟩), (Value.int .i64 16)]⟩ H1 fun x6v H2 =>
 ∃ x6 : Bool, x6v = (Value.bool x6) ∧
 KeptIn bs H1 H2 ∧ IfB x6
 (s3b ∈ bs ∧ ∃ x9 : Int, H1.cell ⟨s3b, 3, none⟩ = some (Value.int .u32 x9) ∧
 ∃ x13 : Int, H2.cell ⟨c0b, 3, none⟩ = some (Value.int .u32 x13) ∧
 FnW Tryz.prog f_seq_Add ⟨[(Value.int .u32 x13), (Value.int .i64 1)]⟩ H2 fun x14v H3 =>
 ∃ x14 : Int, x14v = (Value.int .u32 x14) ∧
 KeptIn bs H1 H3 ∧ conn_Conn_answer_j0 c0b s3b ((x9 : Int) != x14) H3 R)
 (conn_Conn_answer_j0 c0b s3b false H2 R)
theorem conn_Conn_answer_heq (c0b : Nat) (s1c0 : Int) (s1c1 : Int) (s1c2 : Int) (s1c3 : Int) (s1c4 : Int) (s1c5 : Int) (s1c6 : Int) (s1c7 : Int) (s1c8a : Option Addr) (s1c8n : Nat) (s1c8c : Nat) (H : Heap) (R : Value → Heap → Prop) : conn_Conn_answer_p c0b s1c0 s1c1 s1c2 s1c3 s1c4 s1c5 s1c6 s1c7 s1c8a s1c8n s1c8c H R = CodeW Tryz.prog hplan_conn_Conn_answer (bodyOf Tryz.f54) (env0 [(Value.pointer (some ⟨c0b, 0, none⟩)), (Value.agg ⟨[(Value.int .i64 s1c0), (Value.int .i64 s1c1), (Value.int .u32 s1c2), (Value.int .u32 s1c3), (Value.int .i64 s1c4), (Value.int .i64 s1c5), (Value.int .i64 s1c6), (Value.int .i64 s1c7), (Value.slice s1c8a s1c8n s1c8c)]⟩)]) H (RetW Tryz.prog Tryz.f54.results.toList R) := by kernel_rfl
theorem conn_Conn_answer_sh (c0b : Nat) (s1c0 : Int) (s1c1 : Int) (s1c2 : Int) (s1c3 : Int) (s1c4 : Int) (s1c5 : Int) (s1c6 : Int) (s1c7 : Int) (s1c8a : Option Addr) (s1c8n : Nat) (s1c8c : Nat) {H : Heap} {R : Value → Heap → Prop} (h : conn_Conn_answer_p c0b s1c0 s1c1 s1c2 s1c3 s1c4 s1c5 s1c6 s1c7 s1c8a s1c8n s1c8c H fun v H1 => ∀ H2, Shut H H1 H2 → R v H2) : FnW Tryz.prog f_conn_Conn_answer ⟨[(Value.pointer (some ⟨c0b, 0, none⟩)), (Value.agg ⟨[(Value.int .i64 s1c0), (Value.int .i64 s1c1), (Value.int .u32 s1c2), (Value.int .u32 s1c3), (Value.int .i64 s1c4), (Value.int .i64 s1c5), (Value.int .i64 s1c6), (Value.int .i64 s1c7), (Value.slice s1c8a s1c8n s1c8c)]⟩)]⟩ H R := FnW.of_code hk_conn_Conn_answer (by kernel_rfl) (Eq.mp (conn_Conn_answer_heq c0b s1c0 s1c1 s1c2 s1c3 s1c4 s1c5 s1c6 s1c7 s1c8a s1c8n s1c8c H _) h)
def hplan_conn_Conn_take : Plan := ⟨[(1, [0, 2, 3, 4, 5, 7, 8, 9, 1, 6, 10, 11, 12, 13, 14, 15, 16], [13, 16, 17]), (3, [0, 1, 2, 3, 4, 5, 6, 7, 8, 9, 10, 11, 12, 13, 14, 15, 16, 17, 18, 19, 20, 21], [44]), (9, [0, 1, 2, 3, 4, 5, 6, 7], [67])], [], [], []⟩
theorem hk_conn_Conn_take : Known Tryz.prog f_conn_Conn_take Tryz.f55 hplan_conn_Conn_take (bodyOf Tryz.f55) := ⟨Tryz.func55, by kernel_rfl, by kernel_rfl, by kernel_rfl, by kernel_rfl, by kernel_rfl⟩
def conn_Conn_take_j3 (H11 : Heap) (R : Value → Heap → Prop) : Prop :=
 R (Value.int .i64 0) H11
def conn_Conn_take_j2 (c0b : Nat) (H9 : Heap) (R : Value → Heap → Prop) : Prop :=
 FnW Tryz.prog f_conn_Conn_nod ⟨[(Value.pointer (some ⟨c0b, 0, none⟩))]⟩ H9 fun x102v H10 =>
 x102v = (Value.tuple ⟨[]⟩) ∧
 conn_Conn_take_j3 H10 R
def conn_Conn_take_j5 (c0b : Nat) (x100 : Bool) (H19 : Heap) (R : Value → Heap → Prop) : Prop :=
 IfB x100
 (R (Value.int .i64 0) H19)
 (conn_Conn_take_j2 c0b H19 R)
def conn_Conn_take_j4 (c0b : Nat) (s3b : Nat) (H16 : Heap) (R : Value → Heap → Prop) : Prop :=
 ∃ x83 : Int, H16.cell ⟨c0b, 0, none⟩ = some (Value.int .i64 x83) ∧
 IfB ((x83 : Int) == 0)
 (R (Value.int .i64 0) H16)
 (∃ x86c0 : Int, H16.cell ⟨s3b, 0, none⟩ = some (Value.int .i64 x86c0) ∧ ∃ x86c1 : Int, H16.cell ⟨s3b, 1, none⟩ = some (Value.int .i64 x86c1) ∧ ∃ x86c2 : Int, H16.cell ⟨s3b, 2, none⟩ = some (Value.int .u32 x86c2) ∧ ∃ x86c3 : Int, H16.cell ⟨s3b, 3, none⟩ = some (Value.int .u32 x86c3) ∧ ∃ x86c4 : Int, H16.cell ⟨s3b, 4, none⟩ = some (Value.int .i64 x86c4) ∧ ∃ x86c5 : Int, H16.cell ⟨s3b, 5, none⟩ = some (Value.int .i64 x86c5) ∧ ∃ x86c6 : Int, H16.cell ⟨s3b, 6, none⟩ = some (Value.int .i64 x86c6) ∧ ∃ x86c7 : Int, H16.cell ⟨s3b, 7, none⟩ = some (Value.int .i64 x86c7) ∧ ∃ (x86c8a : Option Addr) (x86c8n x86c8c : Nat), H16.cell ⟨s3b, 8, none⟩ = some (Value.slice x86c8a x86c8n x86c8c) ∧ FnW Tryz.prog f_conn_Conn_data ⟨[(Value.pointer (some ⟨c0b, 0, none⟩)), (Value.agg ⟨[(Value.int .i64 x86c0), (Value.int .i64 x86c1), (Value.int .u32 x86c2), (Value.int .u32 x86c3), (Value.int .i64 x86c4), (Value.int .i64 x86c5), (Value.int .i64 x86c6), (Value.int .i64 x86c7), (Value.slice x86c8a x86c8n x86c8c)]⟩)]⟩ H16 fun x87v H17 =>
 x87v = (Value.tuple ⟨[]⟩) ∧
 FnW Tryz.prog f_conn_Conn_flush ⟨[(Value.pointer (some ⟨c0b, 0, none⟩))]⟩ H17 fun x89v H18 =>
 x89v = (Value.tuple ⟨[]⟩) ∧
 ∃ (x93a : Option Addr) (x93n x93c : Nat), H18.cell ⟨c0b, 12, none⟩ = some (Value.slice x93a x93n x93c) ∧
 IfB (decide (((x93n : Int) : Int) > 0))
 (conn_Conn_take_j5 c0b true H18 R)
 (∃ x97c0 : Int, H18.cell ⟨s3b, 0, none⟩ = some (Value.int .i64 x97c0) ∧ ∃ x97c1 : Int, H18.cell ⟨s3b, 1, none⟩ = some (Value.int .i64 x97c1) ∧ ∃ x97c2 : Int, H18.cell ⟨s3b, 2, none⟩ = some (Value.int .u32 x97c2) ∧ ∃ x97c3 : Int, H18.cell ⟨s3b, 3, none⟩ = some (Value.int .u32 x97c3) ∧ ∃ x97c4 : Int, H18.cell ⟨s3b, 4, none⟩ = some (Value.int .i64 x97c4) ∧ ∃ x97c5 : Int, H18.cell ⟨s3b, 5, none⟩ = some (Value.int .i64 x97c5) ∧ ∃ x97c6 : Int, H18.cell ⟨s3b, 6, none⟩ = some (Value.int .i64 x97c6) ∧ ∃ x97c7 : Int, H18.cell ⟨s3b, 7, none⟩ = some (Value.int .i64 x97c7) ∧ ∃ (x97c8a : Option Addr) (x97c8n x97c8c : Nat), H18.cell ⟨s3b, 8, none⟩ = some (Value.slice x97c8a x97c8n x97c8c) ∧ FnW Tryz.prog f_seg_Span ⟨[(Value.agg ⟨[(Value.int .i64 x97c0), (Value.int .i64 x97c1), (Value.int .u32 x97c2), (Value.int .u32 x97c3), (Value.int .i64 x97c4), (Value.int .i64 x97c5), (Value.int .i64 x97c6), (Value.int .i64 x97c7), (Value.slice x97c8a x97c8n x97c8c)]⟩)]⟩ H18 fun x98v H20 =>
 ∃ x98 : Int, x98v = (Value.int .i64 x98) ∧
 conn_Conn_take_j5 c0b ((x98 : Int) == 0) H20 R))
def conn_Conn_take_j1 (c0b : Nat) (s3b : Nat) (x49 : Bool) (H8 : Heap) (R : Value → Heap → Prop) : Prop :=
 IfB x49
 (conn_Conn_take_j2 c0b H8 R)
 (∃ x50c0 : Int, H8.cell ⟨s3b, 0, none⟩ = some (Value.int .i64 x50c0) ∧ ∃ x50c1 : Int, H8.cell ⟨s3b, 1, none⟩ = some (Value.int .i64 x50c1) ∧ ∃ x50c2 : Int, H8.cell ⟨s3b, 2, none⟩ = some (Value.int .u32 x50c2) ∧ ∃ x50c3 : Int, H8.cell ⟨s3b, 3, none⟩ = some (Value.int .u32 x50c3) ∧ ∃ x50c4 : Int, H8.cell ⟨s3b, 4, none⟩ = some (Value.int .i64 x50c4) ∧ ∃ x50c5 : Int, H8.cell ⟨s3b, 5, none⟩ = some (Value.int .i64 x50c5) ∧ ∃ x50c6 : Int, H8.cell ⟨s3b, 6, none⟩ = some (Value.int .i64 x50c6) ∧ ∃ x50c7 : Int, H8.cell ⟨s3b, 7, none⟩ = some (Value.int .i64 x50c7) ∧ ∃ (x50c8a : Option Addr) (x50c8n x50c8c : Nat), H8.cell ⟨s3b, 8, none⟩ = some (Value.slice x50c8a x50c8n x50c8c) ∧ FnW Tryz.prog f_conn_has ⟨[(Value.agg ⟨[(Value.int .i64 x50c0), (Value.int .i64 x50c1), (Value.int .u32 x50c2), (Value.int .u32 x50c3), (Value.int .i64 x50c4), (Value.int .i64 x50c5), (Value.int .i64 x50c6), (Value.int .i64 x50c7), (Value.slice x50c8a x50c8n x50c8c)]⟩), (Value.int .i64 4)]⟩ H8 fun x51v H12 =>
 ∃ x51 : Bool, x51v = (Value.bool x51) ∧
 IfB x51
 (FnW Tryz.prog f_conn_Conn_lost ⟨[(Value.pointer (some ⟨c0b, 0, none⟩))]⟩ H12 fun x53v H13 =>
 ∃ x53 : Int, x53v = (Value.int .i64 x53) ∧
 R (Value.int .i64 x53) H13)
 (∃ x54c0 : Int, H12.cell ⟨s3b, 0, none⟩ = some (Value.int .i64 x54c0) ∧ ∃ x54c1 : Int, H12.cell ⟨s3b, 1, none⟩ = some (Value.int .i64 x54c1) ∧ ∃ x54c2 : Int, H12.cell ⟨s3b, 2, none⟩ = some (Value.int .u32 x54c2) ∧ ∃ x54c3 : Int, H12.cell ⟨s3b, 3, none⟩ = some (Value.int .u32 x54c3) ∧ ∃ x54c4 : Int, H12.cell ⟨s3b, 4, none⟩ = some (Value.int .i64 x54c4) ∧ ∃ x54c5 : Int, H12.cell ⟨s3b, 5, none⟩ = some (Value.int .i64 x54c5) ∧ ∃ x54c6 : Int, H12.cell ⟨s3b, 6, none⟩ = some (Value.int .i64 x54c6) ∧ ∃ x54c7 : Int, H12.cell ⟨s3b, 7, none⟩ = some (Value.int .i64 x54c7) ∧ ∃ (x54c8a : Option Addr) (x54c8n x54c8c : Nat), H12.cell ⟨s3b, 8, none⟩ = some (Value.slice x54c8a x54c8n x54c8c) ∧ FnW Tryz.prog f_conn_has ⟨[(Value.agg ⟨[(Value.int .i64 x54c0), (Value.int .i64 x54c1), (Value.int .u32 x54c2), (Value.int .u32 x54c3), (Value.int .i64 x54c4), (Value.int .i64 x54c5), (Value.int .i64 x54c6), (Value.int .i64 x54c7), (Value.slice x54c8a x54c8n x54c8c)]⟩), (Value.int .i64 16)]⟩ H12 fun x55v H14 =>
 ∃ x55 : Bool, x55v = (Value.bool x55) ∧
 IfB (!x55)
 (R (Value.int .i64 0) H14)
 (∃ x60 : Int, H14.cell ⟨c0b, 0, none⟩ = some (Value.int .i64 x60) ∧
 IfB ((x60 : Int) != 2)
 (∃ x63c0 : Int, H14.cell ⟨s3b, 0, none⟩ = some (Value.int .i64 x63c0) ∧ ∃ x63c1 : Int, H14.cell ⟨s3b, 1, none⟩ = some (Value.int .i64 x63c1) ∧ ∃ x63c2 : Int, H14.cell ⟨s3b, 2, none⟩ = some (Value.int .u32 x63c2) ∧ ∃ x63c3 : Int, H14.cell ⟨s3b, 3, none⟩ = some (Value.int .u32 x63c3) ∧ ∃ x63c4 : Int, H14.cell ⟨s3b, 4, none⟩ = some (Value.int .i64 x63c4) ∧ ∃ x63c5 : Int, H14.cell ⟨s3b, 5, none⟩ = some (Value.int .i64 x63c5) ∧ ∃ x63c6 : Int, H14.cell ⟨s3b, 6, none⟩ = some (Value.int .i64 x63c6) ∧ ∃ x63c7 : Int, H14.cell ⟨s3b, 7, none⟩ = some (Value.int .i64 x63c7) ∧ ∃ (x63c8a : Option Addr) (x63c8n x63c8c : Nat), H14.cell ⟨s3b, 8, none⟩ = some (Value.slice x63c8a x63c8n x63c8c) ∧ FnW Tryz.prog f_conn_Conn_acknowledged ⟨[(Value.pointer (some ⟨c0b, 0, none⟩)), (Value.agg ⟨[(Value.int .i64 x63c0), (Value.int .i64 x63c1), (Value.int .u32 x63c2), (Value.int .u32 x63c3), (Value.int .i64 x63c4), (Value.int .i64 x63c5), (Value.int .i64 x63c6), (Value.int .i64 x63c7), (Value.slice x63c8a x63c8n x63c8c)]⟩)]⟩ H14 fun x64v H15 =>
 ∃ x64 : Bool, x64v = (Value.bool x64) ∧
 IfB (!x64)
 (conn_Conn_take_j2 c0b H15 R)
 (conn_Conn_take_j4 c0b s3b H15 R))
 (∃ bs : List Nat, (∀ b ∈ bs, ∃ o, H14 b = some o) ∧
 s3b ∈ bs ∧ ∃ x67 : Int, H14.cell ⟨s3b, 3, none⟩ = some (Value.int .u32 x67) ∧
 ∃ x71 : Int, H14.cell ⟨c0b, 3, none⟩ = some (Value.int .u32 x71) ∧
 FnW Tryz.prog f_seq_Add ⟨[(Value.int .u32 x71), (Value.int .i64 1)]⟩ H14 fun x72v H21 =>
 ∃ x72 : Int, x72v = (Value.int .u32 x72) ∧
 KeptIn bs H14 H21 ∧ IfB ((x67 : Int) != x72)
 (∃ x75c0 : Int, H21.cell ⟨s3b, 0, none⟩ = some (Value.int .i64 x75c0) ∧ ∃ x75c1 : Int, H21.cell ⟨s3b, 1, none⟩ = some (Value.int .i64 x75c1) ∧ ∃ x75c2 : Int, H21.cell ⟨s3b, 2, none⟩ = some (Value.int .u32 x75c2) ∧ ∃ x75c3 : Int, H21.cell ⟨s3b, 3, none⟩ = some (Value.int .u32 x75c3) ∧ ∃ x75c4 : Int, H21.cell ⟨s3b, 4, none⟩ = some (Value.int .i64 x75c4) ∧ ∃ x75c5 : Int, H21.cell ⟨s3b, 5, none⟩ = some (Value.int .i64 x75c5) ∧ ∃ x75c6 : Int, H21.cell ⟨s3b, 6, none⟩ = some (Value.int .i64 x75c6) ∧ ∃ x75c7 : Int, H21.cell ⟨s3b, 7, none⟩ = some (Value.int .i64 x75c7) ∧ ∃ (x75c8a : Option Addr) (x75c8n x75c8c : Nat), H21.cell ⟨s3b, 8, none⟩ = some (Value.slice x75c8a x75c8n x75c8c) ∧ FnW Tryz.prog f_conn_Conn_refuse ⟨[(Value.pointer (some ⟨c0b, 0, none⟩)), (Value.agg ⟨[(Value.int .i64 x75c0), (Value.int .i64 x75c1), (Value.int .u32 x75c2), (Value.int .u32 x75c3), (Value.int .i64 x75c4), (Value.int .i64 x75c5), (Value.int .i64 x75c6), (Value.int .i64 x75c7), (Value.slice x75c8a x75c8n x75c8c)]⟩)]⟩ H21 fun x76v H22 =>
 x76v = (Value.tuple ⟨[]⟩) ∧
 R (Value.int .i64 0) H22)
 (∃ x78c0 : Int, H21.cell ⟨s3b, 0, none⟩ = some (Value.int .i64 x78c0) ∧ ∃ x78c1 : Int, H21.cell ⟨s3b, 1, none⟩ = some (Value.int .i64 x78c1) ∧ ∃ x78c2 : Int, H21.cell ⟨s3b, 2, none⟩ = some (Value.int .u32 x78c2) ∧ ∃ x78c3 : Int, H21.cell ⟨s3b, 3, none⟩ = some (Value.int .u32 x78c3) ∧ ∃ x78c4 : Int, H21.cell ⟨s3b, 4, none⟩ = some (Value.int .i64 x78c4) ∧ ∃ x78c5 : Int, H21.cell ⟨s3b, 5, none⟩ = some (Value.int .i64 x78c5) ∧ ∃ x78c6 : Int, H21.cell ⟨s3b, 6, none⟩ = some (Value.int .i64 x78c6) ∧ ∃ x78c7 : Int, H21.cell ⟨s3b, 7, none⟩ = some (Value.int .i64 x78c7) ∧ ∃ (x78c8a : Option Addr) (x78c8n x78c8c : Nat), H21.cell ⟨s3b, 8, none⟩ = some (Value.slice x78c8a x78c8n x78c8c) ∧ FnW Tryz.prog f_conn_Conn_welcome ⟨[(Value.pointer (some ⟨c0b, 0, none⟩)), (Value.agg ⟨[(Value.int .i64 x78c0), (Value.int .i64 x78c1), (Value.int .u32 x78c2), (Value.int .u32 x78c3), (Value.int .i64 x78c4), (Value.int .i64 x78c5), (Value.int .i64 x78c6), (Value.int .i64 x78c7), (Value.slice x78c8a x78c8n x78c8c)]⟩)]⟩ H21 fun x79v H23 =>
 x79v = (Value.tuple ⟨[]⟩) ∧
 conn_Conn_take_j4 c0b s3b H23 R)))))
def conn_Conn_take_j0 (c0b : Nat) (s3b : Nat) (x19r0 : Bool) (x27 : Bool) (H7 : Heap) (R : Value → Heap → Prop) : Prop :=
 IfB x27
 (R (Value.int .i64 0) H7)
 (∃ bs : List Nat, (∀ b ∈ bs, ∃ o, H7 b = some o) ∧
 IfB (!x19r0)
 (conn_Conn_take_j1 c0b s3b true H7 R)
 (∃ x31c0 : Int, H7.cell ⟨s3b, 0, none⟩ = some (Value.int .i64 x31c0) ∧ ∃ x31c1 : Int, H7.cell ⟨s3b, 1, none⟩ = some (Value.int .i64 x31c1) ∧ ∃ x31c2 : Int, H7.cell ⟨s3b, 2, none⟩ = some (Value.int .u32 x31c2) ∧ ∃ x31c3 : Int, H7.cell ⟨s3b, 3, none⟩ = some (Value.int .u32 x31c3) ∧ ∃ x31c4 : Int, H7.cell ⟨s3b, 4, none⟩ = some (Value.int .i64 x31c4) ∧ ∃ x31c5 : Int, H7.cell ⟨s3b, 5, none⟩ = some (Value.int .i64 x31c5) ∧ ∃ x31c6 : Int, H7.cell ⟨s3b, 6, none⟩ = some (Value.int .i64 x31c6) ∧ ∃ x31c7 : Int, H7.cell ⟨s3b, 7, none⟩ = some (Value.int .i64 x31c7) ∧ ∃ (x31c8a : Option Addr) (x31c8n x31c8c : Nat), H7.cell ⟨s3b, 8, none⟩ = some (Value.slice x31c8a x31c8n x31c8c) ∧ FnW Tryz.prog f_conn_has ⟨[(Value.agg ⟨[(Value.int .i64 x31c0), (Value.int .i64 x31c1), (Value.int .u32 x31c2), (Value.int .u32 x31c3), (Value.int .i64 x31c4), (Value.int .i64 x31c5), (Value.int .i64 x31c6), (Value.int .i64 x31c7), (Value.slice x31c8a x31c8n x31c8c)]⟩), (Value.int .i64 2)]⟩ H7 fun x32v H24 =>
 ∃ x32 : Bool, x32v = (Value.bool x32) ∧
 KeptIn bs H7 H24 ∧ IfB x32
 (∃ x34c0 : Int, H24.cell ⟨s3b, 0, none⟩ = some (Value.int .i64 x34c0) ∧ ∃ x34c1 : Int, H24.cell ⟨s3b, 1, none⟩ = some (Value.int .i64 x34c1) ∧ ∃ x34c2 : Int, H24.cell ⟨s3b, 2, none⟩ = some (Value.int .u32 x34c2) ∧ ∃ x34c3 : Int, H24.cell ⟨s3b, 3, none⟩ = some (Value.int .u32 x34c3) ∧ ∃ x34c4 : Int, H24.cell ⟨s3b, 4, none⟩ = some (Value.int .i64 x34c4) ∧ ∃ x34c5 : Int, H24.cell ⟨s3b, 5, none⟩ = some (Value.int .i64 x34c5) ∧ ∃ x34c6 : Int, H24.cell ⟨s3b, 6, none⟩ = some (Value.int .i64 x34c6) ∧ ∃ x34c7 : Int, H24.cell ⟨s3b, 7, none⟩ = some (Value.int .i64 x34c7) ∧ ∃ (x34c8a : Option Addr) (x34c8n x34c8c : Nat), H24.cell ⟨s3b, 8, none⟩ = some (Value.slice x34c8a x34c8n x34c8c) ∧ FnW Tryz.prog f_conn_has ⟨[(Value.agg ⟨[(Value.int .i64 x34c0), (Value.int .i64 x34c1), (Value.int .u32 x34c2), (Value.int .u32 x34c3), (Value.int .i64 x34c4), (Value.int .i64 x34c5), (Value.int .i64 x34c6), (Value.int .i64 x34c7), (Value.slice x34c8a x34c8n x34c8c)]⟩), (Value.int .i64 4)]⟩ H24 fun x35v H25 =>
 ∃ x35 : Bool, x35v = (Value.bool x35) ∧
 KeptIn bs H7 H25 ∧ IfB (!x35)
 (conn_Conn_take_j1 c0b s3b true H25 R)
 (∃ x40c0 : Int, H25.cell ⟨s3b, 0, none⟩ = some (Value.int .i64 x40c0) ∧ ∃ x40c1 : Int, H25.cell ⟨s3b, 1, none⟩ = some (Value.int .i64 x40c1) ∧ ∃ x40c2 : Int, H25.cell ⟨s3b, 2, none⟩ = some (Value.int .u32 x40c2) ∧ ∃ x40c3 : Int, H25.cell ⟨s3b, 3, none⟩ = some (Value.int .u32 x40c3) ∧ ∃ x40c4 : Int, H25.cell ⟨s3b, 4, none⟩ = some (Value.int .i64 x40c4) ∧ ∃ x40c5 : Int, H25.cell ⟨s3b, 5, none⟩ = some (Value.int .i64 x40c5) ∧ ∃ x40c6 : Int, H25.cell ⟨s3b, 6, none⟩ = some (Value.int .i64 x40c6) ∧ ∃ x40c7 : Int, H25.cell ⟨s3b, 7, none⟩ = some (Value.int .i64 x40c7) ∧ ∃ (x40c8a : Option Addr) (x40c8n x40c8c : Nat), H25.cell ⟨s3b, 8, none⟩ = some (Value.slice x40c8a x40c8n x40c8c) ∧ FnW Tryz.prog f_conn_has ⟨[(Value.agg ⟨[(Value.int .i64 x40c0), (Value.int .i64 x40c1), (Value.int .u32 x40c2), (Value.int .u32 x40c3), (Value.int .i64 x40c4), (Value.int .i64 x40c5), (Value.int .i64 x40c6), (Value.int .i64 x40c7), (Value.slice x40c8a x40c8n x40c8c)]⟩), (Value.int .i64 4)]⟩ H25 fun x41v H26 =>
 ∃ x41 : Bool, x41v = (Value.bool x41) ∧
 KeptIn bs H7 H26 ∧ IfB x41
 (s3b ∈ bs ∧ ∃ x44 : Int, H7.cell ⟨s3b, 2, none⟩ = some (Value.int .u32 x44) ∧
 FnW Tryz.prog f_conn_Conn_wants ⟨[(Value.pointer (some ⟨c0b, 0, none⟩))]⟩ H26 fun x46v H27 =>
 ∃ x46 : Int, x46v = (Value.int .u32 x46) ∧
 KeptIn bs H7 H27 ∧ conn_Conn_take_j1 c0b s3b ((x44 : Int) != x46) H27 R)
 (conn_Conn_take_j1 c0b s3b false H26 R)))
 (∃ x40c0_1 : Int, H24.cell ⟨s3b, 0, none⟩ = some (Value.int .i64 x40c0_1) ∧ ∃ x40c1_1 : Int, H24.cell ⟨s3b, 1, none⟩ = some (Value.int .i64 x40c1_1) ∧ ∃ x40c2_1 : Int, H24.cell ⟨s3b, 2, none⟩ = some (Value.int .u32 x40c2_1) ∧ ∃ x40c3_1 : Int, H24.cell ⟨s3b, 3, none⟩ = some (Value.int .u32 x40c3_1) ∧ ∃ x40c4_1 : Int, H24.cell ⟨s3b, 4, none⟩ = some (Value.int .i64 x40c4_1) ∧ ∃ x40c5_1 : Int, H24.cell ⟨s3b, 5, none⟩ = some (Value.int .i64 x40c5_1) ∧ ∃ x40c6_1 : Int, H24.cell ⟨s3b, 6, none⟩ = some (Value.int .i64 x40c6_1) ∧ ∃ x40c7_1 : Int, H24.cell ⟨s3b, 7, none⟩ = some (Value.int .i64 x40c7_1) ∧ ∃ (x40c8a_1 : Option Addr) (x40c8n_1 x40c8c_1 : Nat), H24.cell ⟨s3b, 8, none⟩ = some (Value.slice x40c8a_1 x40c8n_1 x40c8c_1) ∧ FnW Tryz.prog f_conn_has ⟨[(Value.agg ⟨[(Value.int .i64 x40c0_1), (Value.int .i64 x40c1_1), (Value.int .u32 x40c2_1), (Value.int .u32 x40c3_1), (Value.int .i64 x40c4_1), (Value.int .i64 x40c5_1), (Value.int .i64 x40c6_1), (Value.int .i64 x40c7_1), (Value.slice x40c8a_1 x40c8n_1 x40c8c_1)]⟩), (Value.int .i64 4)]⟩ H24 fun x41v_1 H28 =>
 ∃ x41_1 : Bool, x41v_1 = (Value.bool x41_1) ∧
 KeptIn bs H7 H28 ∧ IfB x41_1
 (s3b ∈ bs ∧ ∃ x44_1 : Int, H7.cell ⟨s3b, 2, none⟩ = some (Value.int .u32 x44_1) ∧
 FnW Tryz.prog f_conn_Conn_wants ⟨[(Value.pointer (some ⟨c0b, 0, none⟩))]⟩ H28 fun x46v_1 H29 =>
 ∃ x46_1 : Int, x46v_1 = (Value.int .u32 x46_1) ∧
 KeptIn bs H7 H29 ∧ conn_Conn_take_j1 c0b s3b ((x44_1 : Int) != x46_1) H29 R)
 (conn_Conn_take_j1 c0b s3b false H28 R))))
def conn_Conn_take_p (c0b : Nat) (s1c0 : Int) (s1c1 : Int) (s1c2 : Int) (s1c3 : Int) (s1c4 : Int) (s1c5 : Int) (s1c6 : Int) (s1c7 : Int) (s1c8a : Option Addr) (s1c8n : Nat) (s1c8c : Nat) (H : Heap) (R : Value → Heap → Prop) : Prop :=
 NewW H (Obj.cells ⟨[(Value.int .i64 s1c0), (Value.int .i64 s1c1), (Value.int .u32 s1c2), (Value.int .u32 s1c3), (Value.int .i64 s1c4), (Value.int .i64 s1c5), (Value.int .i64 s1c6), (Value.int .i64 s1c7), (Value.slice s1c8a s1c8n s1c8c)]⟩ T_seg_Segment) fun s3b H1 =>
 ∃ bs : List Nat, (∀ b ∈ bs, ∃ o, H1 b = some o) ∧
 c0b ∈ bs ∧ ∃ x13 : Option Addr, H1.cell ⟨c0b, 5, none⟩ = some (Value.pointer x13) ∧
 s3b ∈ bs ∧ ∃ x16 : Int, H1.cell ⟨s3b, 2, none⟩ = some (Value.int .u32 x16) ∧
 s3b ∈ bs ∧ ∃ x17c0 : Int, H1.cell ⟨s3b, 0, none⟩ = some (Value.int .i64 x17c0) ∧ ∃ x17c1 : Int, H1.cell ⟨s3b, 1, none⟩ = some (Value.int .i64 x17c1) ∧ ∃ x17c2 : Int, H1.cell ⟨s3b, 2, none⟩ = some (Value.int .u32 x17c2) ∧ ∃ x17c3 : Int, H1.cell ⟨s3b, 3, none⟩ = some (Value.int .u32 x17c3) ∧ ∃ x17c4 : Int, H1.cell ⟨s3b, 4, none⟩ = some (Value.int .i64 x17c4) ∧ ∃ x17c5 : Int, H1.cell ⟨s3b, 5, none⟩ = some (Value.int .i64 x17c5) ∧ ∃ x17c6 : Int, H1.cell ⟨s3b, 6, none⟩ = some (Value.int .i64 x17c6) ∧ ∃ x17c7 : Int, H1.cell ⟨s3b, 7, none⟩ = some (Value.int .i64 x17c7) ∧ ∃ (x17c8a : Option Addr) (x17c8n x17c8c : Nat), H1.cell ⟨s3b, 8, none⟩ = some (Value.slice x17c8a x17c8n x17c8c) ∧ FnW Tryz.prog f_conn_Conn_wants ⟨[(Value.pointer (some ⟨c0b, 0, none⟩))]⟩ H1 fun x9v H2 =>
 ∃ x9 : Int, x9v = (Value.int .u32 x9) ∧
 KeptIn bs H1 H2 ∧ FnW Tryz.prog f_join_Joint_Window ⟨[(Value.pointer x13)]⟩ H2 fun x14v H3 =>
 ∃ x14 : Int, x14v = (Value.int .i64 x14) ∧
 KeptIn bs H1 H3 ∧ FnW Tryz.prog f_seg_Span ⟨[(Value.agg ⟨[(Value.int .i64 x17c0), (Value.int .i64 x17c1), (Value.int .u32 x17c2), (Value.int .u32 x17c3), (Value.int .i64 x17c4), (Value.int .i64 x17c5), (Value.int .i64 x17c6), (Value.int .i64 x17c7), (Value.slice x17c8a x17c8n x17c8c)]⟩)]⟩ H3 fun x18v H4 =>
 ∃ x18 : Int, x18v = (Value.int .i64 x18) ∧
 KeptIn bs H1 H4 ∧ FnW Tryz.prog f_seq_Accepts ⟨[(Value.int .u32 x9), (Value.int .i64 x14), (Value.int .u32 x16), (Value.int .i64 x18)]⟩ H4 fun x19v H5 =>
 ∃ x19r0 : Bool, ∃ x19r1 : Int, x19v = (Value.tuple ⟨[(Value.bool x19r0), (Value.int .i64 x19r1)]⟩) ∧
 KeptIn bs H1 H5 ∧ IfB (!x19r0)
 (∃ x25c0 : Int, H5.cell ⟨s3b, 0, none⟩ = some (Value.int .i64 x25c0) ∧ ∃ x25c1 : Int, H5.cell ⟨s3b, 1, none⟩ = some (Value.int .i64 x25c1) ∧ ∃ x25c2 : Int, H5.cell ⟨s3b, 2, none⟩ = some (Value.int .u32 x25c2) ∧ ∃ x25c3 : Int, H5.cell ⟨s3b, 3, none⟩ = some (Value.int .u32 x25c3) ∧ ∃ x25c4 : Int, H5.cell ⟨s3b, 4, none⟩ = some (Value.int .i64 x25c4) ∧ ∃ x25c5 : Int, H5.cell ⟨s3b, 5, none⟩ = some (Value.int .i64 x25c5) ∧ ∃ x25c6 : Int, H5.cell ⟨s3b, 6, none⟩ = some (Value.int .i64 x25c6) ∧ ∃ x25c7 : Int, H5.cell ⟨s3b, 7, none⟩ = some (Value.int .i64 x25c7) ∧ ∃ (x25c8a : Option Addr) (x25c8n x25c8c : Nat), H5.cell ⟨s3b, 8, none⟩ = some (Value.slice x25c8a x25c8n x25c8c) ∧ FnW Tryz.prog f_conn_has ⟨[(Value.agg ⟨[(Value.int .i64 x25c0), (Value.int .i64 x25c1), (Value.int .u32 x25c2), (Value.int .u32 x25c3), (Value.int .i64 x25c4), (Value.int .i64 x25c5), (Value.int .i64 x25c6), (Value.int .i64 x25c7), (Value.slice x25c8a x25c8n x25c8c)]⟩), (Value.int .i64 4)]⟩ H5 fun x26v H6 =>
 ∃ x26 : Bool, x26v = (Value.bool x26) ∧
 conn_Conn_take_j0 c0b s3b x19r0 x26 H6 R)
 (conn_Conn_take_j0 c0b s3b x19r0 false H5 R)
theorem conn_Conn_take_heq (c0b : Nat) (s1c0 : Int) (s1c1 : Int) (s1c2 : Int) (s1c3 : Int) (s1c4 : Int) (s1c5 : Int) (s1c6 : Int) (s1c7 : Int) (s1c8a : Option Addr) (s1c8n : Nat) (s1c8c : Nat) (H : Heap) (R : Value → Heap → Prop) : conn_Conn_take_p c0b s1c0 s1c1 s1c2 s1c3 s1c4 s1c5 s1c6 s1c7 s1c8a s1c8n s1c8c H R = CodeW Tryz.prog hplan_conn_Conn_take (bodyOf Tryz.f55) (env0 [(Value.pointer (some ⟨c0b, 0, none⟩)), (Value.agg ⟨[(Value.int .i64 s1c0), (Value.int .i64 s1c1), (Value.int .u32 s1c2), (Value.int .u32 s1c3), (Value.int .i64 s1c4), (Value.int .i64 s1c5), (Value.int .i64 s1c6), (Value.int .i64 s1c7), (Value.slice s1c8a s1c8n s1c8c)]⟩)]) H (RetW Tryz.prog Tryz.f55.results.toList R) := by kernel_rfl
theorem conn_Conn_take_sh (c0b : Nat) (s1c0 : Int) (s1c1 : Int) (s1c2 : Int) (s1c3 : Int) (s1c4 : Int) (s1c5 : Int) (s1c6 : Int) (s1c7 : Int) (s1c8a : Option Addr) (s1c8n : Nat) (s1c8c : Nat) {H : Heap} {R : Value → Heap → Prop} (h : conn_Conn_take_p c0b s1c0 s1c1 s1c2 s1c3 s1c4 s1c5 s1c6 s1c7 s1c8a s1c8n s1c8c H fun v H1 => ∀ H2, Shut H H1 H2 → R v H2) : FnW Tryz.prog f_conn_Conn_take ⟨[(Value.pointer (some ⟨c0b, 0, none⟩)), (Value.agg ⟨[(Value.int .i64 s1c0), (Value.int .i64 s1c1), (Value.int .u32 s1c2), (Value.int .u32 s1c3), (Value.int .i64 s1c4), (Value.int .i64 s1c5), (Value.int .i64 s1c6), (Value.int .i64 s1c7), (Value.slice s1c8a s1c8n s1c8c)]⟩)]⟩ H R := FnW.of_code hk_conn_Conn_take (by kernel_rfl) (Eq.mp (conn_Conn_take_heq c0b s1c0 s1c1 s1c2 s1c3 s1c4 s1c5 s1c6 s1c7 s1c8a s1c8n s1c8c H _) h)
def hplan_conn_Conn_again : Plan := ⟨[], [], [], []⟩
theorem hk_conn_Conn_again : Known Tryz.prog f_conn_Conn_again Tryz.f56 hplan_conn_Conn_again (bodyOf Tryz.f56) := ⟨Tryz.func56, by kernel_rfl, by kernel_rfl, by kernel_rfl, by kernel_rfl, by kernel_rfl⟩
def conn_Conn_again_j1 (c0b : Nat) (H4 : Heap) (R : Value → Heap → Prop) : Prop :=
 FnW Tryz.prog f_conn_Conn_lost ⟨[(Value.pointer (some ⟨c0b, 0, none⟩))]⟩ H4 fun x109v H5 =>
 ∃ x109 : Int, x109v = (Value.int .i64 x109) ∧
 R (Value.int .i64 x109) H5
def conn_Conn_again_j2 (c0b : Nat) (at3 : Int) (b4a : Option Addr) (b4n : Nat) (b4c : Nat) (e5 : Int) (H9 : Heap) (R : Value → Heap → Prop) : Prop :=
 IfB ((e5 : Int) != 0)
 (conn_Conn_again_j1 c0b H9 R)
 (FnW Tryz.prog f_conn_Conn_say ⟨[(Value.pointer (some ⟨c0b, 0, none⟩)), (Value.int .u32 at3), (Value.int .i64 24), (Value.slice b4a b4n b4c)]⟩ H9 fun x106v H10 =>
 ∃ x106 : Option Addr, x106v = (Value.pointer x106) ∧
 R (Value.int .i64 e5) H10)
def conn_Conn_again_j3 (c0b : Nat) (x74 : Bool) (H11 : Heap) (R : Value → Heap → Prop) : Prop :=
 IfB x74
 (∃ x91 : Option Addr, H11.cell ⟨c0b, 4, none⟩ = some (Value.pointer x91) ∧
 NilP x91 fun x92p =>
 ∃ x94 : Option Addr, H11.cell x92p = some (Value.pointer x94) ∧
 FnW Tryz.prog f_rto_Estimate_Back ⟨[(Value.pointer x94)]⟩ H11 fun x95v H12 =>
 ∃ x95 : Int, x95v = (Value.int .i64 x95) ∧
 IfB ((x95 : Int) != 0)
 (conn_Conn_again_j1 c0b H12 R)
 (FnW Tryz.prog f_conn_Conn_bye ⟨[(Value.pointer (some ⟨c0b, 0, none⟩))]⟩ H12 fun x99v H13 =>
 x99v = (Value.tuple ⟨[]⟩) ∧
 R (Value.int .i64 x95) H13))
 (∃ x10 : Option Addr, H11.cell ⟨c0b, 4, none⟩ = some (Value.pointer x10) ∧
 ∃ x14 : Int, H11.cell ⟨c0b, 10, none⟩ = some (Value.int .i64 x14) ∧
 FnW Tryz.prog f_send_Outbox_Probe ⟨[(Value.pointer x10), (Value.int .i64 x14)]⟩ H11 fun x15v H14 =>
 ∃ x15r0 : Int, ∃ (x15r1a : Option Addr) (x15r1n x15r1c : Nat), ∃ x15r2 : Int, x15v = (Value.tuple ⟨[(Value.int .u32 x15r0), (Value.slice x15r1a x15r1n x15r1c), (Value.int .i64 x15r2)]⟩) ∧
 conn_Conn_again_j2 c0b x15r0 x15r1a x15r1n x15r1c x15r2 H14 R)
def conn_Conn_again_j0 (c0b : Nat) (x28 : Bool) (H2 : Heap) (R : Value → Heap → Prop) : Prop :=
 IfB x28
 (∃ x44 : Option Addr, H2.cell ⟨c0b, 4, none⟩ = some (Value.pointer x44) ∧
 NilP x44 fun x45p =>
 ∃ x47 : Option Addr, H2.cell x45p = some (Value.pointer x47) ∧
 FnW Tryz.prog f_rto_Estimate_Back ⟨[(Value.pointer x47)]⟩ H2 fun x48v H3 =>
 ∃ x48 : Int, x48v = (Value.int .i64 x48) ∧
 IfB ((x48 : Int) != 0)
 (conn_Conn_again_j1 c0b H3 R)
 (FnW Tryz.prog f_conn_Conn_hello ⟨[(Value.pointer (some ⟨c0b, 0, none⟩))]⟩ H3 fun x52v H6 =>
 x52v = (Value.tuple ⟨[]⟩) ∧
 R (Value.int .i64 x48) H6))
 (∃ x58 : Option Addr, H2.cell ⟨c0b, 4, none⟩ = some (Value.pointer x58) ∧
 FnW Tryz.prog f_send_Outbox_Flight ⟨[(Value.pointer x58)]⟩ H2 fun x59v H7 =>
 ∃ x59 : Int, x59v = (Value.int .i64 x59) ∧
 IfB (decide ((x59 : Int) > 0))
 (∃ x65 : Option Addr, H7.cell ⟨c0b, 4, none⟩ = some (Value.pointer x65) ∧
 ∃ x69 : Int, H7.cell ⟨c0b, 10, none⟩ = some (Value.int .i64 x69) ∧
 FnW Tryz.prog f_send_Outbox_Again ⟨[(Value.pointer x65), (Value.int .i64 x69)]⟩ H7 fun x70v H8 =>
 ∃ x70r0 : Int, ∃ (x70r1a : Option Addr) (x70r1n x70r1c : Nat), ∃ x70r2 : Int, x70v = (Value.tuple ⟨[(Value.int .u32 x70r0), (Value.slice x70r1a x70r1n x70r1c), (Value.int .i64 x70r2)]⟩) ∧
 conn_Conn_again_j2 c0b x70r0 x70r1a x70r1n x70r1c x70r2 H8 R)
 (∃ x79 : Bool, H7.cell ⟨c0b, 7, none⟩ = some (Value.bool x79) ∧
 IfB x79
 (∃ x85 : Bool, H7.cell ⟨c0b, 8, none⟩ = some (Value.bool x85) ∧
 conn_Conn_again_j3 c0b (!x85) H7 R)
 (conn_Conn_again_j3 c0b false H7 R)))
def conn_Conn_again_p (c0b : Nat) (H : Heap) (R : Value → Heap → Prop) : Prop :=
 ∃ x23 : Int, H.cell ⟨c0b, 0, none⟩ = some (Value.int .i64 x23) ∧
 IfB ((x23 : Int) == 9)
 (FnW Tryz.prog f_conn_Conn_die ⟨[(Value.pointer (some ⟨c0b, 0, none⟩))]⟩ H fun x26v H1 =>
 x26v = (Value.tuple ⟨[]⟩) ∧
 R (Value.int .i64 0) H1)
 (∃ x32 : Int, H.cell ⟨c0b, 0, none⟩ = some (Value.int .i64 x32) ∧
 IfB ((x32 : Int) == 1)
 (conn_Conn_again_j0 c0b true H R)
 (∃ x38 : Int, H.cell ⟨c0b, 0, none⟩ = some (Value.int .i64 x38) ∧
 conn_Conn_again_j0 c0b ((x38 : Int) == 2) H R))
theorem conn_Conn_again_heq (c0b : Nat) (H : Heap) (R : Value → Heap → Prop) : conn_Conn_again_p c0b H R = CodeW Tryz.prog hplan_conn_Conn_again (bodyOf Tryz.f56) (env0 [(Value.pointer (some ⟨c0b, 0, none⟩))]) H (RetW Tryz.prog Tryz.f56.results.toList R) := by kernel_rfl
theorem conn_Conn_again_sh (c0b : Nat) {H : Heap} {R : Value → Heap → Prop} (h : conn_Conn_again_p c0b H fun v H1 => ∀ H2, Shut H H1 H2 → R v H2) : FnW Tryz.prog f_conn_Conn_again ⟨[(Value.pointer (some ⟨c0b, 0, none⟩))]⟩ H R := FnW.of_code hk_conn_Conn_again (by kernel_rfl) (Eq.mp (conn_Conn_again_heq c0b H _) h)
def hplan_send_Outbox_Write : Plan := ⟨[], [], [], []⟩
theorem hk_send_Outbox_Write : Known Tryz.prog f_send_Outbox_Write Tryz.f57 hplan_send_Outbox_Write (bodyOf Tryz.f57) := ⟨Tryz.func57, by kernel_rfl, by kernel_rfl, by kernel_rfl, by kernel_rfl, by kernel_rfl⟩
def send_Outbox_Write_p (o0b : Nat) (b1a : Option Addr) (b1n : Nat) (b1c : Nat) (H : Heap) (R : Value → Heap → Prop) : Prop :=
 FnW Tryz.prog f_send_Outbox_is ⟨[(Value.pointer (some ⟨o0b, 0, none⟩))]⟩ H fun x7v H1 =>
 ∃ x7 : Bool, x7v = (Value.bool x7) ∧
 IfB (!x7)
 (R (Value.int .i64 0) H1)
 (∃ x14 : Int, H1.cell ⟨o0b, 7, none⟩ = some (Value.int .i64 x14) ∧
 ∃ (x18a : Option Addr) (x18n x18c : Nat), H1.cell ⟨o0b, 5, none⟩ = some (Value.slice x18a x18n x18c) ∧
 ∃ (x26a : Option Addr) (x26n x26c : Nat), H1.cell ⟨o0b, 5, none⟩ = some (Value.slice x26a x26n x26c) ∧
 InC (min (b1n : Int) (IntKind.wrap .i64 (x14 - (x18n : Int)))) b1c fun x29h =>
 NewW H1 (Obj.cells ⟨[(Value.slice x26a x26n x26c), (Value.slice b1a x29h b1c)]⟩ T_sl_uint8) fun x30b H2 =>
 FnW Tryz.prog f_slices_Concatasl_byte_byte ⟨[(Value.slice (some ⟨x30b, 0, none⟩) 2 2)]⟩ H2 fun x31v H3 =>
 ∃ (x31a : Option Addr) (x31n x31c : Nat), x31v = (Value.slice x31a x31n x31c) ∧
 StCell H3 ⟨o0b, 5, none⟩ (Value.slice x31a x31n x31c) fun H4 =>
 R (Value.int .i64 (min (b1n : Int) (IntKind.wrap .i64 (x14 - (x18n : Int))))) H4)
theorem send_Outbox_Write_heq (o0b : Nat) (b1a : Option Addr) (b1n : Nat) (b1c : Nat) (H : Heap) (R : Value → Heap → Prop) : send_Outbox_Write_p o0b b1a b1n b1c H R = CodeW Tryz.prog hplan_send_Outbox_Write (bodyOf Tryz.f57) (env0 [(Value.pointer (some ⟨o0b, 0, none⟩)), (Value.slice b1a b1n b1c)]) H (RetW Tryz.prog Tryz.f57.results.toList R) := by kernel_rfl
theorem send_Outbox_Write_sh (o0b : Nat) (b1a : Option Addr) (b1n : Nat) (b1c : Nat) {H : Heap} {R : Value → Heap → Prop} (h : send_Outbox_Write_p o0b b1a b1n b1c H fun v H1 => ∀ H2, Shut H H1 H2 → R v H2) : FnW Tryz.prog f_send_Outbox_Write ⟨[(Value.pointer (some ⟨o0b, 0, none⟩)), (Value.slice b1a b1n b1c)]⟩ H R := FnW.of_code hk_send_Outbox_Write (by kernel_rfl) (Eq.mp (send_Outbox_Write_heq o0b b1a b1n b1c H _) h)
def hplan_conn_Conn_flush : Plan := ⟨[(9, [0, 1, 2, 3, 4, 5, 6, 7, 8, 9, 10, 11, 12, 13, 14, 15, 16, 17, 19, 20, 21, 22, 18, 23, 24, 25], [56])], [(6, [], [], [0])], [], []⟩
theorem hk_conn_Conn_flush : Known Tryz.prog f_conn_Conn_flush Tryz.f58 hplan_conn_Conn_flush (bodyOf Tryz.f58) := ⟨Tryz.func58, by kernel_rfl, by kernel_rfl, by kernel_rfl, by kernel_rfl, by kernel_rfl⟩
def conn_Conn_flush_j2 (c0b : Nat) (next6 : (Unit) → Heap → Prop) (x59 : Bool) (H7 : Heap) (R : Value → Heap → Prop) : Prop :=
 IfB x59
 (FnW Tryz.prog f_conn_Conn_bye ⟨[(Value.pointer (some ⟨c0b, 0, none⟩))]⟩ H7 fun x61v H8 =>
 x61v = (Value.tuple ⟨[]⟩) ∧
 StCell H8 ⟨c0b, 7, none⟩ (Value.bool true) fun H9 =>
 R (Value.tuple ⟨[]⟩) H9)
 (R (Value.tuple ⟨[]⟩) H7)
def conn_Conn_flush_l6 (c0b : Nat) (H3 : Heap) (next6 : (Unit) → Heap → Prop) (R : Value → Heap → Prop) : Prop :=
 ∃ x19 : Option Addr, H3.cell ⟨c0b, 4, none⟩ = some (Value.pointer x19) ∧
 ∃ x23 : Int, H3.cell ⟨c0b, 10, none⟩ = some (Value.int .i64 x23) ∧
 FnW Tryz.prog f_send_Outbox_Send ⟨[(Value.pointer x19), (Value.int .i64 x23)]⟩ H3 fun x24v H4 =>
 ∃ x24r0 : Int, ∃ (x24r1a : Option Addr) (x24r1n x24r1c : Nat), ∃ x24r2 : Int, x24v = (Value.tuple ⟨[(Value.int .u32 x24r0), (Value.slice x24r1a x24r1n x24r1c), (Value.int .i64 x24r2)]⟩) ∧
 IfB ((x24r2 : Int) != 0)
 (∃ bs : List Nat, (∀ b ∈ bs, ∃ o, H4 b = some o) ∧
 ∃ x38 : Bool, H4.cell ⟨c0b, 6, none⟩ = some (Value.bool x38) ∧
 IfB x38
 (∃ x44 : Bool, H4.cell ⟨c0b, 7, none⟩ = some (Value.bool x44) ∧
 IfB (!x44)
 (∃ x51 : Option Addr, H4.cell ⟨c0b, 4, none⟩ = some (Value.pointer x51) ∧
 c0b ∈ bs ∧ ∃ x56 : Option Addr, H4.cell ⟨c0b, 4, none⟩ = some (Value.pointer x56) ∧
 FnW Tryz.prog f_send_Outbox_Flight ⟨[(Value.pointer x51)]⟩ H4 fun x52v H5 =>
 ∃ x52 : Int, x52v = (Value.int .i64 x52) ∧
 KeptIn bs H4 H5 ∧ FnW Tryz.prog f_send_Outbox_Queued ⟨[(Value.pointer x56)]⟩ H5 fun x57v H6 =>
 ∃ x57 : Int, x57v = (Value.int .i64 x57) ∧
 conn_Conn_flush_j2 c0b next6 ((x52 : Int) == x57) H6 R)
 (conn_Conn_flush_j2 c0b next6 false H4 R))
 (conn_Conn_flush_j2 c0b next6 false H4 R))
 (FnW Tryz.prog f_conn_Conn_say ⟨[(Value.pointer (some ⟨c0b, 0, none⟩)), (Value.int .u32 x24r0), (Value.int .i64 24), (Value.slice x24r1a x24r1n x24r1c)]⟩ H4 fun x33v H10 =>
 ∃ x33 : Option Addr, x33v = (Value.pointer x33) ∧
 next6 () H10)
def conn_Conn_flush_j1 (c0b : Nat) (H2 : Heap) (R : Value → Heap → Prop) : Prop :=
 LoopI (Unit) () H2 fun x H next => ∀ _g : Env, conn_Conn_flush_l6 c0b H next R
def conn_Conn_flush_j0 (c0b : Nat) (x9 : Bool) (H1 : Heap) (R : Value → Heap → Prop) : Prop :=
 IfB x9
 (conn_Conn_flush_j1 c0b H1 R)
 (R (Value.tuple ⟨[]⟩) H1)
def conn_Conn_flush_p (c0b : Nat) (H : Heap) (R : Value → Heap → Prop) : Prop :=
 ∃ x8 : Int, H.cell ⟨c0b, 0, none⟩ = some (Value.int .i64 x8) ∧
 IfB ((x8 : Int) == 3)
 (conn_Conn_flush_j0 c0b ((x8 : Int) == 3) H R)
 (IfB ((x8 : Int) == 4)
 (conn_Conn_flush_j0 c0b ((x8 : Int) == 4) H R)
 (IfB ((x8 : Int) == 6)
 (conn_Conn_flush_j0 c0b ((x8 : Int) == 6) H R)
 (IfB ((x8 : Int) == 7)
 (conn_Conn_flush_j0 c0b ((x8 : Int) == 7) H R)
 (conn_Conn_flush_j0 c0b ((x8 : Int) == 8) H R))))
theorem conn_Conn_flush_heq (c0b : Nat) (H : Heap) (R : Value → Heap → Prop) : conn_Conn_flush_p c0b H R = CodeW Tryz.prog hplan_conn_Conn_flush (bodyOf Tryz.f58) (env0 [(Value.pointer (some ⟨c0b, 0, none⟩))]) H (RetW Tryz.prog Tryz.f58.results.toList R) := by kernel_rfl
theorem conn_Conn_flush_sh (c0b : Nat) {H : Heap} {R : Value → Heap → Prop} (h : conn_Conn_flush_p c0b H fun v H1 => ∀ H2, Shut H H1 H2 → R v H2) : FnW Tryz.prog f_conn_Conn_flush ⟨[(Value.pointer (some ⟨c0b, 0, none⟩))]⟩ H R := FnW.of_code hk_conn_Conn_flush (by kernel_rfl) (Eq.mp (conn_Conn_flush_heq c0b H _) h)
def hplan_join_Joint_Window : Plan := ⟨[], [], [], []⟩
theorem hk_join_Joint_Window : Known Tryz.prog f_join_Joint_Window Tryz.f59 hplan_join_Joint_Window (bodyOf Tryz.f59) := ⟨Tryz.func59, by kernel_rfl, by kernel_rfl, by kernel_rfl, by kernel_rfl, by kernel_rfl⟩
def join_Joint_Window_p (j0b : Nat) (H : Heap) (R : Value → Heap → Prop) : Prop :=
 FnW Tryz.prog f_join_Joint_is ⟨[(Value.pointer (some ⟨j0b, 0, none⟩))]⟩ H fun x4v H1 =>
 ∃ x4 : Bool, x4v = (Value.bool x4) ∧
 IfB (!x4)
 (R (Value.int .i64 0) H1)
 (∃ (x9a : Option Addr) (x9n x9c : Nat), H1.cell ⟨j0b, 2, none⟩ = some (Value.slice x9a x9n x9c) ∧
 ∃ (x14a : Option Addr) (x14n x14c : Nat), H1.cell ⟨j0b, 5, none⟩ = some (Value.slice x14a x14n x14c) ∧
 R (Value.int .i64 (IntKind.wrap .i64 ((x9n : Int) - (x14n : Int)))) H1)
theorem join_Joint_Window_heq (j0b : Nat) (H : Heap) (R : Value → Heap → Prop) : join_Joint_Window_p j0b H R = CodeW Tryz.prog hplan_join_Joint_Window (bodyOf Tryz.f59) (env0 [(Value.pointer (some ⟨j0b, 0, none⟩))]) H (RetW Tryz.prog Tryz.f59.results.toList R) := by kernel_rfl
theorem join_Joint_Window_sh (j0b : Nat) {H : Heap} {R : Value → Heap → Prop} (h : join_Joint_Window_p j0b H fun v H1 => ∀ H2, Shut H H1 H2 → R v H2) : FnW Tryz.prog f_join_Joint_Window ⟨[(Value.pointer (some ⟨j0b, 0, none⟩))]⟩ H R := FnW.of_code hk_join_Joint_Window (by kernel_rfl) (Eq.mp (join_Joint_Window_heq j0b H _) h)
def hplan_join_Joint_Read : Plan := ⟨[], [], [], []⟩
theorem hk_join_Joint_Read : Known Tryz.prog f_join_Joint_Read Tryz.f60 hplan_join_Joint_Read (bodyOf Tryz.f60) := ⟨Tryz.func60, by kernel_rfl, by kernel_rfl, by kernel_rfl, by kernel_rfl, by kernel_rfl⟩
def join_Joint_Read_p (j0b : Nat) (n1 : Int) (H : Heap) (R : Value → Heap → Prop) : Prop :=
 FnW Tryz.prog f_join_Joint_is ⟨[(Value.pointer (some ⟨j0b, 0, none⟩))]⟩ H fun x9v H1 =>
 ∃ x9 : Bool, x9v = (Value.bool x9) ∧
 IfB (!x9)
 (R (Value.tuple ⟨[(Value.slice none 0 0), (Value.int .i64 1)]⟩) H1)
 (IfB (decide ((n1 : Int) < 0))
 (R (Value.tuple ⟨[(Value.slice none 0 0), (Value.int .i64 2)]⟩) H1)
 (∃ (x18a : Option Addr) (x18n x18c : Nat), H1.cell ⟨j0b, 5, none⟩ = some (Value.slice x18a x18n x18c) ∧
 ∃ (x24a : Option Addr) (x24n x24c : Nat), H1.cell ⟨j0b, 5, none⟩ = some (Value.slice x24a x24n x24c) ∧
 InC (min n1 (x18n : Int)) x24c fun x26h =>
 FnW Tryz.prog f_slices_Cloneasl_byte_byte ⟨[(Value.slice x24a x26h x24c)]⟩ H1 fun x27v H2 =>
 ∃ (x27a : Option Addr) (x27n x27c : Nat), x27v = (Value.slice x27a x27n x27c) ∧
 ∃ (x32a : Option Addr) (x32n x32c : Nat), H2.cell ⟨j0b, 5, none⟩ = some (Value.slice x32a x32n x32c) ∧
 InC (min n1 (x18n : Int)) x32n fun x34l =>
 FnW Tryz.prog f_slices_Cloneasl_byte_byte ⟨[(Value.slice (if x32c = x34l then x32a else Option.map (fun a => Addr.add a (x34l * 1)) x32a) (x32n - x34l) (x32c - x34l))]⟩ H2 fun x35v H3 =>
 ∃ (x35a : Option Addr) (x35n x35c : Nat), x35v = (Value.slice x35a x35n x35c) ∧
 StCell H3 ⟨j0b, 5, none⟩ (Value.slice x35a x35n x35c) fun H4 =>
 R (Value.tuple ⟨[(Value.slice x27a x27n x27c), (Value.int .i64 0)]⟩) H4))
theorem join_Joint_Read_heq (j0b : Nat) (n1 : Int) (H : Heap) (R : Value → Heap → Prop) : join_Joint_Read_p j0b n1 H R = CodeW Tryz.prog hplan_join_Joint_Read (bodyOf Tryz.f60) (env0 [(Value.pointer (some ⟨j0b, 0, none⟩)), (Value.int .i64 n1)]) H (RetW Tryz.prog Tryz.f60.results.toList R) := by kernel_rfl
theorem join_Joint_Read_sh (j0b : Nat) (n1 : Int) {H : Heap} {R : Value → Heap → Prop} (h : join_Joint_Read_p j0b n1 H fun v H1 => ∀ H2, Shut H H1 H2 → R v H2) : FnW Tryz.prog f_join_Joint_Read ⟨[(Value.pointer (some ⟨j0b, 0, none⟩)), (Value.int .i64 n1)]⟩ H R := FnW.of_code hk_join_Joint_Read (by kernel_rfl) (Eq.mp (join_Joint_Read_heq j0b n1 H _) h)
def hplan_conn_Conn_nod : Plan := ⟨[], [], [], []⟩
theorem hk_conn_Conn_nod : Known Tryz.prog f_conn_Conn_nod Tryz.f61 hplan_conn_Conn_nod (bodyOf Tryz.f61) := ⟨Tryz.func61, by kernel_rfl, by kernel_rfl, by kernel_rfl, by kernel_rfl, by kernel_rfl⟩
def conn_Conn_nod_p (c0b : Nat) (H : Heap) (R : Value → Heap → Prop) : Prop :=
 FnW Tryz.prog f_conn_Conn_last ⟨[(Value.pointer (some ⟨c0b, 0, none⟩))]⟩ H fun x4v H1 =>
 ∃ x4 : Int, x4v = (Value.int .u32 x4) ∧
 FnW Tryz.prog f_conn_Conn_say ⟨[(Value.pointer (some ⟨c0b, 0, none⟩)), (Value.int .u32 x4), (Value.int .i64 16), (Value.slice none 0 0)]⟩ H1 fun x5v H2 =>
 ∃ x5 : Option Addr, x5v = (Value.pointer x5) ∧
 R (Value.tuple ⟨[]⟩) H2
theorem conn_Conn_nod_heq (c0b : Nat) (H : Heap) (R : Value → Heap → Prop) : conn_Conn_nod_p c0b H R = CodeW Tryz.prog hplan_conn_Conn_nod (bodyOf Tryz.f61) (env0 [(Value.pointer (some ⟨c0b, 0, none⟩))]) H (RetW Tryz.prog Tryz.f61.results.toList R) := by kernel_rfl
theorem conn_Conn_nod_sh (c0b : Nat) {H : Heap} {R : Value → Heap → Prop} (h : conn_Conn_nod_p c0b H fun v H1 => ∀ H2, Shut H H1 H2 → R v H2) : FnW Tryz.prog f_conn_Conn_nod ⟨[(Value.pointer (some ⟨c0b, 0, none⟩))]⟩ H R := FnW.of_code hk_conn_Conn_nod (by kernel_rfl) (Eq.mp (conn_Conn_nod_heq c0b H _) h)
def hplan_conn_Conn_is : Plan := ⟨[], [], [], []⟩
theorem hk_conn_Conn_is : Known Tryz.prog f_conn_Conn_is Tryz.f62 hplan_conn_Conn_is (bodyOf Tryz.f62) := ⟨Tryz.func62, by kernel_rfl, by kernel_rfl, by kernel_rfl, by kernel_rfl, by kernel_rfl⟩
def conn_Conn_is_p (c0b : Nat) (H : Heap) (R : Value → Heap → Prop) : Prop :=
 ∃ x9 : Option Addr, H.cell ⟨c0b, 4, none⟩ = some (Value.pointer x9) ∧
 R (Value.bool (!x9.isNone)) H
theorem conn_Conn_is_heq (c0b : Nat) (H : Heap) (R : Value → Heap → Prop) : conn_Conn_is_p c0b H R = CodeW Tryz.prog hplan_conn_Conn_is (bodyOf Tryz.f62) (env0 [(Value.pointer (some ⟨c0b, 0, none⟩))]) H (RetW Tryz.prog Tryz.f62.results.toList R) := by kernel_rfl
theorem conn_Conn_is_sh (c0b : Nat) {H : Heap} {R : Value → Heap → Prop} (h : conn_Conn_is_p c0b H fun v H1 => ∀ H2, Shut H H1 H2 → R v H2) : FnW Tryz.prog f_conn_Conn_is ⟨[(Value.pointer (some ⟨c0b, 0, none⟩))]⟩ H R := FnW.of_code hk_conn_Conn_is (by kernel_rfl) (Eq.mp (conn_Conn_is_heq c0b H _) h)
def hplan_join_Joint_Ready : Plan := ⟨[], [], [], []⟩
theorem hk_join_Joint_Ready : Known Tryz.prog f_join_Joint_Ready Tryz.f63 hplan_join_Joint_Ready (bodyOf Tryz.f63) := ⟨Tryz.func63, by kernel_rfl, by kernel_rfl, by kernel_rfl, by kernel_rfl, by kernel_rfl⟩
def join_Joint_Ready_p (j0b : Nat) (H : Heap) (R : Value → Heap → Prop) : Prop :=
 FnW Tryz.prog f_join_Joint_is ⟨[(Value.pointer (some ⟨j0b, 0, none⟩))]⟩ H fun x4v H1 =>
 ∃ x4 : Bool, x4v = (Value.bool x4) ∧
 IfB (!x4)
 (R (Value.int .i64 0) H1)
 (∃ (x9a : Option Addr) (x9n x9c : Nat), H1.cell ⟨j0b, 5, none⟩ = some (Value.slice x9a x9n x9c) ∧
 R (Value.int .i64 (x9n : Int)) H1)
theorem join_Joint_Ready_heq (j0b : Nat) (H : Heap) (R : Value → Heap → Prop) : join_Joint_Ready_p j0b H R = CodeW Tryz.prog hplan_join_Joint_Ready (bodyOf Tryz.f63) (env0 [(Value.pointer (some ⟨j0b, 0, none⟩))]) H (RetW Tryz.prog Tryz.f63.results.toList R) := by kernel_rfl
theorem join_Joint_Ready_sh (j0b : Nat) {H : Heap} {R : Value → Heap → Prop} (h : join_Joint_Ready_p j0b H fun v H1 => ∀ H2, Shut H H1 H2 → R v H2) : FnW Tryz.prog f_join_Joint_Ready ⟨[(Value.pointer (some ⟨j0b, 0, none⟩))]⟩ H R := FnW.of_code hk_join_Joint_Ready (by kernel_rfl) (Eq.mp (join_Joint_Ready_heq j0b H _) h)
def join_Joint_Ready_nil_p (H : Heap) (R : Value → Heap → Prop) : Prop :=
 FnW Tryz.prog f_join_Joint_is ⟨[(Value.pointer none)]⟩ H fun x4v H1 =>
 ∃ x4 : Bool, x4v = (Value.bool x4) ∧
 IfB (!x4)
 (R (Value.int .i64 0) H1)
 (False)
theorem join_Joint_Ready_nil_heq  (H : Heap) (R : Value → Heap → Prop) : join_Joint_Ready_nil_p  H R = CodeW Tryz.prog hplan_join_Joint_Ready (bodyOf Tryz.f63) (env0 [(Value.pointer none)]) H (RetW Tryz.prog Tryz.f63.results.toList R) := by kernel_rfl
theorem join_Joint_Ready_nil_sh  {H : Heap} {R : Value → Heap → Prop} (h : join_Joint_Ready_nil_p  H fun v H1 => ∀ H2, Shut H H1 H2 → R v H2) : FnW Tryz.prog f_join_Joint_Ready ⟨[(Value.pointer none)]⟩ H R := FnW.of_code hk_join_Joint_Ready (by kernel_rfl) (Eq.mp (join_Joint_Ready_nil_heq  H _) h)
def hplan_send_Outbox_Queued : Plan := ⟨[], [], [], []⟩
theorem hk_send_Outbox_Queued : Known Tryz.prog f_send_Outbox_Queued Tryz.f64 hplan_send_Outbox_Queued (bodyOf Tryz.f64) := ⟨Tryz.func64, by kernel_rfl, by kernel_rfl, by kernel_rfl, by kernel_rfl, by kernel_rfl⟩
def send_Outbox_Queued_p (o0b : Nat) (H : Heap) (R : Value → Heap → Prop) : Prop :=
 FnW Tryz.prog f_send_Outbox_is ⟨[(Value.pointer (some ⟨o0b, 0, none⟩))]⟩ H fun x4v H1 =>
 ∃ x4 : Bool, x4v = (Value.bool x4) ∧
 IfB (!x4)
 (R (Value.int .i64 0) H1)
 (∃ (x9a : Option Addr) (x9n x9c : Nat), H1.cell ⟨o0b, 5, none⟩ = some (Value.slice x9a x9n x9c) ∧
 R (Value.int .i64 (x9n : Int)) H1)
theorem send_Outbox_Queued_heq (o0b : Nat) (H : Heap) (R : Value → Heap → Prop) : send_Outbox_Queued_p o0b H R = CodeW Tryz.prog hplan_send_Outbox_Queued (bodyOf Tryz.f64) (env0 [(Value.pointer (some ⟨o0b, 0, none⟩))]) H (RetW Tryz.prog Tryz.f64.results.toList R) := by kernel_rfl
theorem send_Outbox_Queued_sh (o0b : Nat) {H : Heap} {R : Value → Heap → Prop} (h : send_Outbox_Queued_p o0b H fun v H1 => ∀ H2, Shut H H1 H2 → R v H2) : FnW Tryz.prog f_send_Outbox_Queued ⟨[(Value.pointer (some ⟨o0b, 0, none⟩))]⟩ H R := FnW.of_code hk_send_Outbox_Queued (by kernel_rfl) (Eq.mp (send_Outbox_Queued_heq o0b H _) h)
def hplan_conn_has : Plan := ⟨[], [], [], []⟩
theorem hk_conn_has : Known Tryz.prog f_conn_has Tryz.f65 hplan_conn_has (bodyOf Tryz.f65) := ⟨Tryz.func65, by kernel_rfl, by kernel_rfl, by kernel_rfl, by kernel_rfl, by kernel_rfl⟩
def conn_has_p (s0c0 : Int) (s0c1 : Int) (s0c2 : Int) (s0c3 : Int) (s0c4 : Int) (s0c5 : Int) (s0c6 : Int) (s0c7 : Int) (s0c8a : Option Addr) (s0c8n : Nat) (s0c8c : Nat) (flag1 : Int) (H : Heap) (R : Value → Heap → Prop) : Prop :=
 NewW H (Obj.cells ⟨[(Value.int .i64 s0c0), (Value.int .i64 s0c1), (Value.int .u32 s0c2), (Value.int .u32 s0c3), (Value.int .i64 s0c4), (Value.int .i64 s0c5), (Value.int .i64 s0c6), (Value.int .i64 s0c7), (Value.slice s0c8a s0c8n s0c8c)]⟩ T_seg_Segment) fun s2b H1 =>
 ∃ x6 : Int, H1.cell ⟨s2b, 4, none⟩ = some (Value.int .i64 x6) ∧
 R (Value.bool (((bitsAnd .i64 x6 flag1) : Int) != 0)) H1
theorem conn_has_heq (s0c0 : Int) (s0c1 : Int) (s0c2 : Int) (s0c3 : Int) (s0c4 : Int) (s0c5 : Int) (s0c6 : Int) (s0c7 : Int) (s0c8a : Option Addr) (s0c8n : Nat) (s0c8c : Nat) (flag1 : Int) (H : Heap) (R : Value → Heap → Prop) : conn_has_p s0c0 s0c1 s0c2 s0c3 s0c4 s0c5 s0c6 s0c7 s0c8a s0c8n s0c8c flag1 H R = CodeW Tryz.prog hplan_conn_has (bodyOf Tryz.f65) (env0 [(Value.agg ⟨[(Value.int .i64 s0c0), (Value.int .i64 s0c1), (Value.int .u32 s0c2), (Value.int .u32 s0c3), (Value.int .i64 s0c4), (Value.int .i64 s0c5), (Value.int .i64 s0c6), (Value.int .i64 s0c7), (Value.slice s0c8a s0c8n s0c8c)]⟩), (Value.int .i64 flag1)]) H (RetW Tryz.prog Tryz.f65.results.toList R) := by kernel_rfl
theorem conn_has_sh (s0c0 : Int) (s0c1 : Int) (s0c2 : Int) (s0c3 : Int) (s0c4 : Int) (s0c5 : Int) (s0c6 : Int) (s0c7 : Int) (s0c8a : Option Addr) (s0c8n : Nat) (s0c8c : Nat) (flag1 : Int) {H : Heap} {R : Value → Heap → Prop} (h : conn_has_p s0c0 s0c1 s0c2 s0c3 s0c4 s0c5 s0c6 s0c7 s0c8a s0c8n s0c8c flag1 H fun v H1 => ∀ H2, Shut H H1 H2 → R v H2) : FnW Tryz.prog f_conn_has ⟨[(Value.agg ⟨[(Value.int .i64 s0c0), (Value.int .i64 s0c1), (Value.int .u32 s0c2), (Value.int .u32 s0c3), (Value.int .i64 s0c4), (Value.int .i64 s0c5), (Value.int .i64 s0c6), (Value.int .i64 s0c7), (Value.slice s0c8a s0c8n s0c8c)]⟩), (Value.int .i64 flag1)]⟩ H R := FnW.of_code hk_conn_has (by kernel_rfl) (Eq.mp (conn_has_heq s0c0 s0c1 s0c2 s0c3 s0c4 s0c5 s0c6 s0c7 s0c8a s0c8n s0c8c flag1 H _) h)
def hplan_conn_Conn_begin : Plan := ⟨[], [], [], []⟩
theorem hk_conn_Conn_begin : Known Tryz.prog f_conn_Conn_begin Tryz.f66 hplan_conn_Conn_begin (bodyOf Tryz.f66) := ⟨Tryz.func66, by kernel_rfl, by kernel_rfl, by kernel_rfl, by kernel_rfl, by kernel_rfl⟩
def conn_Conn_begin_p (c0b : Nat) (s1c0 : Int) (s1c1 : Int) (s1c2 : Int) (s1c3 : Int) (s1c4 : Int) (s1c5 : Int) (s1c6 : Int) (s1c7 : Int) (s1c8a : Option Addr) (s1c8n : Nat) (s1c8c : Nat) (H : Heap) (R : Value → Heap → Prop) : Prop :=
 NewW H (Obj.cells ⟨[(Value.int .i64 s1c0), (Value.int .i64 s1c1), (Value.int .u32 s1c2), (Value.int .u32 s1c3), (Value.int .i64 s1c4), (Value.int .i64 s1c5), (Value.int .i64 s1c6), (Value.int .i64 s1c7), (Value.slice s1c8a s1c8n s1c8c)]⟩ T_seg_Segment) fun s3b H1 =>
 ∃ x7 : Int, H1.cell ⟨s3b, 2, none⟩ = some (Value.int .u32 x7) ∧
 FnW Tryz.prog f_seq_Add ⟨[(Value.int .u32 x7), (Value.int .i64 1)]⟩ H1 fun x8v H2 =>
 ∃ x8 : Int, x8v = (Value.int .u32 x8) ∧
 FnW Tryz.prog f_join_New ⟨[(Value.int .u32 x8), (Value.int .i64 4096)]⟩ H2 fun x9v H3 =>
 ∃ x9r0 : Option Addr, ∃ x9r1 : Int, x9v = (Value.tuple ⟨[(Value.pointer x9r0), (Value.int .i64 x9r1)]⟩) ∧
 StCell H3 ⟨c0b, 5, none⟩ (Value.pointer x9r0) fun H4 =>
 ∃ x15c0 : Int, H4.cell ⟨s3b, 0, none⟩ = some (Value.int .i64 x15c0) ∧ ∃ x15c1 : Int, H4.cell ⟨s3b, 1, none⟩ = some (Value.int .i64 x15c1) ∧ ∃ x15c2 : Int, H4.cell ⟨s3b, 2, none⟩ = some (Value.int .u32 x15c2) ∧ ∃ x15c3 : Int, H4.cell ⟨s3b, 3, none⟩ = some (Value.int .u32 x15c3) ∧ ∃ x15c4 : Int, H4.cell ⟨s3b, 4, none⟩ = some (Value.int .i64 x15c4) ∧ ∃ x15c5 : Int, H4.cell ⟨s3b, 5, none⟩ = some (Value.int .i64 x15c5) ∧ ∃ x15c6 : Int, H4.cell ⟨s3b, 6, none⟩ = some (Value.int .i64 x15c6) ∧ ∃ x15c7 : Int, H4.cell ⟨s3b, 7, none⟩ = some (Value.int .i64 x15c7) ∧ ∃ (x15c8a : Option Addr) (x15c8n x15c8c : Nat), H4.cell ⟨s3b, 8, none⟩ = some (Value.slice x15c8a x15c8n x15c8c) ∧ FnW Tryz.prog f_conn_greatest ⟨[(Value.agg ⟨[(Value.int .i64 x15c0), (Value.int .i64 x15c1), (Value.int .u32 x15c2), (Value.int .u32 x15c3), (Value.int .i64 x15c4), (Value.int .i64 x15c5), (Value.int .i64 x15c6), (Value.int .i64 x15c7), (Value.slice x15c8a x15c8n x15c8c)]⟩)]⟩ H4 fun x16v H5 =>
 ∃ x16 : Int, x16v = (Value.int .i64 x16) ∧
 FnW Tryz.prog f_conn_Conn_fresh ⟨[(Value.pointer (some ⟨c0b, 0, none⟩)), (Value.int .i64 x16)]⟩ H5 fun x17v H6 =>
 x17v = (Value.tuple ⟨[]⟩) ∧
 R (Value.tuple ⟨[]⟩) H6
theorem conn_Conn_begin_heq (c0b : Nat) (s1c0 : Int) (s1c1 : Int) (s1c2 : Int) (s1c3 : Int) (s1c4 : Int) (s1c5 : Int) (s1c6 : Int) (s1c7 : Int) (s1c8a : Option Addr) (s1c8n : Nat) (s1c8c : Nat) (H : Heap) (R : Value → Heap → Prop) : conn_Conn_begin_p c0b s1c0 s1c1 s1c2 s1c3 s1c4 s1c5 s1c6 s1c7 s1c8a s1c8n s1c8c H R = CodeW Tryz.prog hplan_conn_Conn_begin (bodyOf Tryz.f66) (env0 [(Value.pointer (some ⟨c0b, 0, none⟩)), (Value.agg ⟨[(Value.int .i64 s1c0), (Value.int .i64 s1c1), (Value.int .u32 s1c2), (Value.int .u32 s1c3), (Value.int .i64 s1c4), (Value.int .i64 s1c5), (Value.int .i64 s1c6), (Value.int .i64 s1c7), (Value.slice s1c8a s1c8n s1c8c)]⟩)]) H (RetW Tryz.prog Tryz.f66.results.toList R) := by kernel_rfl
theorem conn_Conn_begin_sh (c0b : Nat) (s1c0 : Int) (s1c1 : Int) (s1c2 : Int) (s1c3 : Int) (s1c4 : Int) (s1c5 : Int) (s1c6 : Int) (s1c7 : Int) (s1c8a : Option Addr) (s1c8n : Nat) (s1c8c : Nat) {H : Heap} {R : Value → Heap → Prop} (h : conn_Conn_begin_p c0b s1c0 s1c1 s1c2 s1c3 s1c4 s1c5 s1c6 s1c7 s1c8a s1c8n s1c8c H fun v H1 => ∀ H2, Shut H H1 H2 → R v H2) : FnW Tryz.prog f_conn_Conn_begin ⟨[(Value.pointer (some ⟨c0b, 0, none⟩)), (Value.agg ⟨[(Value.int .i64 s1c0), (Value.int .i64 s1c1), (Value.int .u32 s1c2), (Value.int .u32 s1c3), (Value.int .i64 s1c4), (Value.int .i64 s1c5), (Value.int .i64 s1c6), (Value.int .i64 s1c7), (Value.slice s1c8a s1c8n s1c8c)]⟩)]⟩ H R := FnW.of_code hk_conn_Conn_begin (by kernel_rfl) (Eq.mp (conn_Conn_begin_heq c0b s1c0 s1c1 s1c2 s1c3 s1c4 s1c5 s1c6 s1c7 s1c8a s1c8n s1c8c H _) h)
def hplan_conn_Conn_fresh : Plan := ⟨[], [], [], []⟩
theorem hk_conn_Conn_fresh : Known Tryz.prog f_conn_Conn_fresh Tryz.f68 hplan_conn_Conn_fresh (bodyOf Tryz.f68) := ⟨Tryz.func68, by kernel_rfl, by kernel_rfl, by kernel_rfl, by kernel_rfl, by kernel_rfl⟩
def conn_Conn_fresh_p (c0b : Nat) (most1 : Int) (H : Heap) (R : Value → Heap → Prop) : Prop :=
 ∃ x9 : Int, H.cell ⟨c0b, 3, none⟩ = some (Value.int .u32 x9) ∧
 FnW Tryz.prog f_seq_Add ⟨[(Value.int .u32 x9), (Value.int .i64 1)]⟩ H fun x10v H1 =>
 ∃ x10 : Int, x10v = (Value.int .u32 x10) ∧
 FnW Tryz.prog f_send_New ⟨[(Value.int .u32 x10), (Value.int .i64 4096), (Value.int .i64 0), (Value.int .i64 most1)]⟩ H1 fun x12v H2 =>
 ∃ x12r0 : Option Addr, ∃ x12r1 : Int, x12v = (Value.tuple ⟨[(Value.pointer x12r0), (Value.int .i64 x12r1)]⟩) ∧
 StCell H2 ⟨c0b, 4, none⟩ (Value.pointer x12r0) fun H3 =>
 R (Value.tuple ⟨[]⟩) H3
theorem conn_Conn_fresh_heq (c0b : Nat) (most1 : Int) (H : Heap) (R : Value → Heap → Prop) : conn_Conn_fresh_p c0b most1 H R = CodeW Tryz.prog hplan_conn_Conn_fresh (bodyOf Tryz.f68) (env0 [(Value.pointer (some ⟨c0b, 0, none⟩)), (Value.int .i64 most1)]) H (RetW Tryz.prog Tryz.f68.results.toList R) := by kernel_rfl
theorem conn_Conn_fresh_sh (c0b : Nat) (most1 : Int) {H : Heap} {R : Value → Heap → Prop} (h : conn_Conn_fresh_p c0b most1 H fun v H1 => ∀ H2, Shut H H1 H2 → R v H2) : FnW Tryz.prog f_conn_Conn_fresh ⟨[(Value.pointer (some ⟨c0b, 0, none⟩)), (Value.int .i64 most1)]⟩ H R := FnW.of_code hk_conn_Conn_fresh (by kernel_rfl) (Eq.mp (conn_Conn_fresh_heq c0b most1 H _) h)
def hplan_conn_Conn_open : Plan := ⟨[], [], [], []⟩
theorem hk_conn_Conn_open : Known Tryz.prog f_conn_Conn_open Tryz.f69 hplan_conn_Conn_open (bodyOf Tryz.f69) := ⟨Tryz.func69, by kernel_rfl, by kernel_rfl, by kernel_rfl, by kernel_rfl, by kernel_rfl⟩
def conn_Conn_open_j2 (c0b : Nat) (x30 : Bool) (H5 : Heap) (R : Value → Heap → Prop) : Prop :=
 IfB x30
 (R (Value.bool true) H5)
 (∃ x48 : Option Addr, H5.cell ⟨c0b, 4, none⟩ = some (Value.pointer x48) ∧
 FnW Tryz.prog f_send_Outbox_Flight ⟨[(Value.pointer x48)]⟩ H5 fun x49v H6 =>
 ∃ x49 : Int, x49v = (Value.int .i64 x49) ∧
 R (Value.bool (decide ((x49 : Int) > 0))) H6)
def conn_Conn_open_j1 (c0b : Nat) (x16 : Bool) (H2 : Heap) (R : Value → Heap → Prop) : Prop :=
 IfB x16
 (R (Value.bool true) H2)
 (∃ x34 : Option Addr, H2.cell ⟨c0b, 4, none⟩ = some (Value.pointer x34) ∧
 FnW Tryz.prog f_send_Outbox_Window ⟨[(Value.pointer x34)]⟩ H2 fun x35v H3 =>
 ∃ x35 : Int, x35v = (Value.int .i64 x35) ∧
 IfB ((x35 : Int) == 0)
 (∃ x41 : Option Addr, H3.cell ⟨c0b, 4, none⟩ = some (Value.pointer x41) ∧
 FnW Tryz.prog f_send_Outbox_Queued ⟨[(Value.pointer x41)]⟩ H3 fun x42v H4 =>
 ∃ x42 : Int, x42v = (Value.int .i64 x42) ∧
 conn_Conn_open_j2 c0b (decide ((x42 : Int) > 0)) H4 R)
 (conn_Conn_open_j2 c0b false H3 R))
def conn_Conn_open_j0 (c0b : Nat) (x3 : Bool) (H1 : Heap) (R : Value → Heap → Prop) : Prop :=
 IfB x3
 (R (Value.bool true) H1)
 (∃ x21 : Bool, H1.cell ⟨c0b, 7, none⟩ = some (Value.bool x21) ∧
 IfB x21
 (∃ x27 : Bool, H1.cell ⟨c0b, 8, none⟩ = some (Value.bool x27) ∧
 conn_Conn_open_j1 c0b (!x27) H1 R)
 (conn_Conn_open_j1 c0b false H1 R))
def conn_Conn_open_p (c0b : Nat) (H : Heap) (R : Value → Heap → Prop) : Prop :=
 ∃ x7 : Int, H.cell ⟨c0b, 0, none⟩ = some (Value.int .i64 x7) ∧
 IfB ((x7 : Int) == 1)
 (conn_Conn_open_j0 c0b true H R)
 (∃ x13 : Int, H.cell ⟨c0b, 0, none⟩ = some (Value.int .i64 x13) ∧
 conn_Conn_open_j0 c0b ((x13 : Int) == 2) H R)
theorem conn_Conn_open_heq (c0b : Nat) (H : Heap) (R : Value → Heap → Prop) : conn_Conn_open_p c0b H R = CodeW Tryz.prog hplan_conn_Conn_open (bodyOf Tryz.f69) (env0 [(Value.pointer (some ⟨c0b, 0, none⟩))]) H (RetW Tryz.prog Tryz.f69.results.toList R) := by kernel_rfl
theorem conn_Conn_open_sh (c0b : Nat) {H : Heap} {R : Value → Heap → Prop} (h : conn_Conn_open_p c0b H fun v H1 => ∀ H2, Shut H H1 H2 → R v H2) : FnW Tryz.prog f_conn_Conn_open ⟨[(Value.pointer (some ⟨c0b, 0, none⟩))]⟩ H R := FnW.of_code hk_conn_Conn_open (by kernel_rfl) (Eq.mp (conn_Conn_open_heq c0b H _) h)
def hplan_send_Outbox_Wait : Plan := ⟨[], [], [], []⟩
theorem hk_send_Outbox_Wait : Known Tryz.prog f_send_Outbox_Wait Tryz.f70 hplan_send_Outbox_Wait (bodyOf Tryz.f70) := ⟨Tryz.func70, by kernel_rfl, by kernel_rfl, by kernel_rfl, by kernel_rfl, by kernel_rfl⟩
def send_Outbox_Wait_p (o0b : Nat) (H : Heap) (R : Value → Heap → Prop) : Prop :=
 FnW Tryz.prog f_send_Outbox_is ⟨[(Value.pointer (some ⟨o0b, 0, none⟩))]⟩ H fun x4v H1 =>
 ∃ x4 : Bool, x4v = (Value.bool x4) ∧
 IfB (!x4)
 (R (Value.int .i64 0) H1)
 (∃ x9 : Option Addr, H1.cell ⟨o0b, 0, none⟩ = some (Value.pointer x9) ∧
 FnW Tryz.prog f_rto_Estimate_Wait ⟨[(Value.pointer x9)]⟩ H1 fun x10v H2 =>
 ∃ x10 : Int, x10v = (Value.int .i64 x10) ∧
 R (Value.int .i64 x10) H2)
theorem send_Outbox_Wait_heq (o0b : Nat) (H : Heap) (R : Value → Heap → Prop) : send_Outbox_Wait_p o0b H R = CodeW Tryz.prog hplan_send_Outbox_Wait (bodyOf Tryz.f70) (env0 [(Value.pointer (some ⟨o0b, 0, none⟩))]) H (RetW Tryz.prog Tryz.f70.results.toList R) := by kernel_rfl
theorem send_Outbox_Wait_sh (o0b : Nat) {H : Heap} {R : Value → Heap → Prop} (h : send_Outbox_Wait_p o0b H fun v H1 => ∀ H2, Shut H H1 H2 → R v H2) : FnW Tryz.prog f_send_Outbox_Wait ⟨[(Value.pointer (some ⟨o0b, 0, none⟩))]⟩ H R := FnW.of_code hk_send_Outbox_Wait (by kernel_rfl) (Eq.mp (send_Outbox_Wait_heq o0b H _) h)
def hplan_conn_Conn_wants : Plan := ⟨[], [], [], []⟩
theorem hk_conn_Conn_wants : Known Tryz.prog f_conn_Conn_wants Tryz.f74 hplan_conn_Conn_wants (bodyOf Tryz.f74) := ⟨Tryz.func74, by kernel_rfl, by kernel_rfl, by kernel_rfl, by kernel_rfl, by kernel_rfl⟩
def conn_Conn_wants_p (c0b : Nat) (H : Heap) (R : Value → Heap → Prop) : Prop :=
 ∃ x7 : Option Addr, H.cell ⟨c0b, 5, none⟩ = some (Value.pointer x7) ∧
 FnW Tryz.prog f_join_Joint_Next ⟨[(Value.pointer x7)]⟩ H fun x8v H1 =>
 ∃ x8 : Int, x8v = (Value.int .u32 x8) ∧
 ∃ x13 : Bool, H1.cell ⟨c0b, 9, none⟩ = some (Value.bool x13) ∧
 IfB x13
 (R (Value.int .u32 (IntKind.wrap .u32 (x8 + 1))) H1)
 (R (Value.int .u32 x8) H1)
theorem conn_Conn_wants_heq (c0b : Nat) (H : Heap) (R : Value → Heap → Prop) : conn_Conn_wants_p c0b H R = CodeW Tryz.prog hplan_conn_Conn_wants (bodyOf Tryz.f74) (env0 [(Value.pointer (some ⟨c0b, 0, none⟩))]) H (RetW Tryz.prog Tryz.f74.results.toList R) := by kernel_rfl
theorem conn_Conn_wants_sh (c0b : Nat) {H : Heap} {R : Value → Heap → Prop} (h : conn_Conn_wants_p c0b H fun v H1 => ∀ H2, Shut H H1 H2 → R v H2) : FnW Tryz.prog f_conn_Conn_wants ⟨[(Value.pointer (some ⟨c0b, 0, none⟩))]⟩ H R := FnW.of_code hk_conn_Conn_wants (by kernel_rfl) (Eq.mp (conn_Conn_wants_heq c0b H _) h)
def hplan_conn_Conn_window : Plan := ⟨[], [], [], []⟩
theorem hk_conn_Conn_window : Known Tryz.prog f_conn_Conn_window Tryz.f75 hplan_conn_Conn_window (bodyOf Tryz.f75) := ⟨Tryz.func75, by kernel_rfl, by kernel_rfl, by kernel_rfl, by kernel_rfl, by kernel_rfl⟩
def conn_Conn_window_p (c0b : Nat) (H : Heap) (R : Value → Heap → Prop) : Prop :=
 ∃ x6 : Option Addr, H.cell ⟨c0b, 5, none⟩ = some (Value.pointer x6) ∧
 IfB x6.isNone
 (R (Value.int .i64 4096) H)
 (∃ x11 : Option Addr, H.cell ⟨c0b, 5, none⟩ = some (Value.pointer x11) ∧
 FnW Tryz.prog f_join_Joint_Window ⟨[(Value.pointer x11)]⟩ H fun x12v H1 =>
 ∃ x12 : Int, x12v = (Value.int .i64 x12) ∧
 R (Value.int .i64 x12) H1)
theorem conn_Conn_window_heq (c0b : Nat) (H : Heap) (R : Value → Heap → Prop) : conn_Conn_window_p c0b H R = CodeW Tryz.prog hplan_conn_Conn_window (bodyOf Tryz.f75) (env0 [(Value.pointer (some ⟨c0b, 0, none⟩))]) H (RetW Tryz.prog Tryz.f75.results.toList R) := by kernel_rfl
theorem conn_Conn_window_sh (c0b : Nat) {H : Heap} {R : Value → Heap → Prop} (h : conn_Conn_window_p c0b H fun v H1 => ∀ H2, Shut H H1 H2 → R v H2) : FnW Tryz.prog f_conn_Conn_window ⟨[(Value.pointer (some ⟨c0b, 0, none⟩))]⟩ H R := FnW.of_code hk_conn_Conn_window (by kernel_rfl) (Eq.mp (conn_Conn_window_heq c0b H _) h)
def hplan_send_Outbox_Next : Plan := ⟨[], [], [], []⟩
theorem hk_send_Outbox_Next : Known Tryz.prog f_send_Outbox_Next Tryz.f76 hplan_send_Outbox_Next (bodyOf Tryz.f76) := ⟨Tryz.func76, by kernel_rfl, by kernel_rfl, by kernel_rfl, by kernel_rfl, by kernel_rfl⟩
def send_Outbox_Next_p (o0b : Nat) (H : Heap) (R : Value → Heap → Prop) : Prop :=
 FnW Tryz.prog f_send_Outbox_is ⟨[(Value.pointer (some ⟨o0b, 0, none⟩))]⟩ H fun x4v H1 =>
 ∃ x4 : Bool, x4v = (Value.bool x4) ∧
 IfB (!x4)
 (R (Value.int .u32 0) H1)
 (∃ x9 : Int, H1.cell ⟨o0b, 4, none⟩ = some (Value.int .u32 x9) ∧
 ∃ x13 : Int, H1.cell ⟨o0b, 6, none⟩ = some (Value.int .i64 x13) ∧
 FnW Tryz.prog f_seq_Add ⟨[(Value.int .u32 x9), (Value.int .i64 x13)]⟩ H1 fun x14v H2 =>
 ∃ x14 : Int, x14v = (Value.int .u32 x14) ∧
 R (Value.int .u32 x14) H2)
theorem send_Outbox_Next_heq (o0b : Nat) (H : Heap) (R : Value → Heap → Prop) : send_Outbox_Next_p o0b H R = CodeW Tryz.prog hplan_send_Outbox_Next (bodyOf Tryz.f76) (env0 [(Value.pointer (some ⟨o0b, 0, none⟩))]) H (RetW Tryz.prog Tryz.f76.results.toList R) := by kernel_rfl
theorem send_Outbox_Next_sh (o0b : Nat) {H : Heap} {R : Value → Heap → Prop} (h : send_Outbox_Next_p o0b H fun v H1 => ∀ H2, Shut H H1 H2 → R v H2) : FnW Tryz.prog f_send_Outbox_Next ⟨[(Value.pointer (some ⟨o0b, 0, none⟩))]⟩ H R := FnW.of_code hk_send_Outbox_Next (by kernel_rfl) (Eq.mp (send_Outbox_Next_heq o0b H _) h)
def hplan_seg_Build : Plan := ⟨[(11, [0, 1, 2, 3, 4, 5, 6, 7, 8, 9, 10, 11, 12, 13, 14], [57]), (14, [0, 1, 3, 4, 2, 5, 6], [75])], [], [], []⟩
theorem hk_seg_Build : Known Tryz.prog f_seg_Build Tryz.f79 hplan_seg_Build (bodyOf Tryz.f79) := ⟨Tryz.func79, by kernel_rfl, by kernel_rfl, by kernel_rfl, by kernel_rfl, by kernel_rfl⟩
def seg_Build_p (from0 : Int) (to1 : Int) (s2c0 : Int) (s2c1 : Int) (s2c2 : Int) (s2c3 : Int) (s2c4 : Int) (s2c5 : Int) (s2c6 : Int) (s2c7 : Int) (s2c8a : Option Addr) (s2c8n : Nat) (s2c8c : Nat) (H : Heap) (R : Value → Heap → Prop) : Prop :=
 NewW H (Obj.cells ⟨[(Value.int .i64 s2c0), (Value.int .i64 s2c1), (Value.int .u32 s2c2), (Value.int .u32 s2c3), (Value.int .i64 s2c4), (Value.int .i64 s2c5), (Value.int .i64 s2c6), (Value.int .i64 s2c7), (Value.slice s2c8a s2c8n s2c8c)]⟩ T_seg_Segment) fun s5b H1 =>
 ∃ x11c0 : Int, H1.cell ⟨s5b, 0, none⟩ = some (Value.int .i64 x11c0) ∧ ∃ x11c1 : Int, H1.cell ⟨s5b, 1, none⟩ = some (Value.int .i64 x11c1) ∧ ∃ x11c2 : Int, H1.cell ⟨s5b, 2, none⟩ = some (Value.int .u32 x11c2) ∧ ∃ x11c3 : Int, H1.cell ⟨s5b, 3, none⟩ = some (Value.int .u32 x11c3) ∧ ∃ x11c4 : Int, H1.cell ⟨s5b, 4, none⟩ = some (Value.int .i64 x11c4) ∧ ∃ x11c5 : Int, H1.cell ⟨s5b, 5, none⟩ = some (Value.int .i64 x11c5) ∧ ∃ x11c6 : Int, H1.cell ⟨s5b, 6, none⟩ = some (Value.int .i64 x11c6) ∧ ∃ x11c7 : Int, H1.cell ⟨s5b, 7, none⟩ = some (Value.int .i64 x11c7) ∧ ∃ (x11c8a : Option Addr) (x11c8n x11c8c : Nat), H1.cell ⟨s5b, 8, none⟩ = some (Value.slice x11c8a x11c8n x11c8c) ∧ FnW Tryz.prog f_seg_Segment_fits ⟨[(Value.agg ⟨[(Value.int .i64 x11c0), (Value.int .i64 x11c1), (Value.int .u32 x11c2), (Value.int .u32 x11c3), (Value.int .i64 x11c4), (Value.int .i64 x11c5), (Value.int .i64 x11c6), (Value.int .i64 x11c7), (Value.slice x11c8a x11c8n x11c8c)]⟩)]⟩ H1 fun x12v H2 =>
 ∃ x12 : Bool, x12v = (Value.bool x12) ∧
 IfB (!x12)
 (R (Value.tuple ⟨[(Value.slice none 0 0), (Value.int .i64 2)]⟩) H2)
 (∃ (x16a : Option Addr) (x16n x16c : Nat), H2.cell ⟨s5b, 8, none⟩ = some (Value.slice x16a x16n x16c) ∧
 IfB (decide (((x16n : Int) : Int) > 65495))
 (R (Value.tuple ⟨[(Value.slice none 0 0), (Value.int .i64 3)]⟩) H2)
 (∃ x19c0 : Int, H2.cell ⟨s5b, 0, none⟩ = some (Value.int .i64 x19c0) ∧ ∃ x19c1 : Int, H2.cell ⟨s5b, 1, none⟩ = some (Value.int .i64 x19c1) ∧ ∃ x19c2 : Int, H2.cell ⟨s5b, 2, none⟩ = some (Value.int .u32 x19c2) ∧ ∃ x19c3 : Int, H2.cell ⟨s5b, 3, none⟩ = some (Value.int .u32 x19c3) ∧ ∃ x19c4 : Int, H2.cell ⟨s5b, 4, none⟩ = some (Value.int .i64 x19c4) ∧ ∃ x19c5 : Int, H2.cell ⟨s5b, 5, none⟩ = some (Value.int .i64 x19c5) ∧ ∃ x19c6 : Int, H2.cell ⟨s5b, 6, none⟩ = some (Value.int .i64 x19c6) ∧ ∃ x19c7 : Int, H2.cell ⟨s5b, 7, none⟩ = some (Value.int .i64 x19c7) ∧ ∃ (x19c8a : Option Addr) (x19c8n x19c8c : Nat), H2.cell ⟨s5b, 8, none⟩ = some (Value.slice x19c8a x19c8n x19c8c) ∧ FnW Tryz.prog f_seg_Segment_options ⟨[(Value.agg ⟨[(Value.int .i64 x19c0), (Value.int .i64 x19c1), (Value.int .u32 x19c2), (Value.int .u32 x19c3), (Value.int .i64 x19c4), (Value.int .i64 x19c5), (Value.int .i64 x19c6), (Value.int .i64 x19c7), (Value.slice x19c8a x19c8n x19c8c)]⟩)]⟩ H2 fun x20v H3 =>
 ∃ (x20a : Option Addr) (x20n x20c : Nat), x20v = (Value.slice x20a x20n x20c) ∧
 ∃ (x25a : Option Addr) (x25n x25c : Nat), H3.cell ⟨s5b, 8, none⟩ = some (Value.slice x25a x25n x25c) ∧
 MakeW Tryz.prog T_sl_uint8 (Value.int .i64 20) (Value.int .i64 (IntKind.wrap .i64 ((IntKind.wrap .i64 (20 + (x20n : Int))) + (x25n : Int)))) H3 fun x28v H4 =>
 ∃ (x28a : Option Addr) (x28n x28c : Nat), x28v = (Value.slice x28a x28n x28c) ∧
 ∃ x31 : Int, H4.cell ⟨s5b, 0, none⟩ = some (Value.int .i64 x31) ∧
 FnW Tryz.prog f_seg_put16 ⟨[(Value.slice x28a x28n x28c), (Value.int .i64 x31)]⟩ H4 fun x32v H5 =>
 x32v = (Value.tuple ⟨[]⟩) ∧
 InC 2 x28n fun x34l =>
 ∃ x36 : Int, H5.cell ⟨s5b, 1, none⟩ = some (Value.int .i64 x36) ∧
 FnW Tryz.prog f_seg_put16 ⟨[(Value.slice (if x28c = x34l then x28a else Option.map (fun a => Addr.add a (x34l * 1)) x28a) (x28n - x34l) (x28c - x34l)), (Value.int .i64 x36)]⟩ H5 fun x37v H6 =>
 x37v = (Value.tuple ⟨[]⟩) ∧
 InC 4 x28n fun x39l =>
 ∃ x41 : Int, H6.cell ⟨s5b, 2, none⟩ = some (Value.int .u32 x41) ∧
 FnW Tryz.prog f_seg_put32 ⟨[(Value.slice (if x28c = x39l then x28a else Option.map (fun a => Addr.add a (x39l * 1)) x28a) (x28n - x39l) (x28c - x39l)), (Value.int .u32 x41)]⟩ H6 fun x42v H7 =>
 x42v = (Value.tuple ⟨[]⟩) ∧
 InC 8 x28n fun x44l =>
 ∃ x46 : Int, H7.cell ⟨s5b, 3, none⟩ = some (Value.int .u32 x46) ∧
 FnW Tryz.prog f_seg_put32 ⟨[(Value.slice (if x28c = x44l then x28a else Option.map (fun a => Addr.add a (x44l * 1)) x28a) (x28n - x44l) (x28c - x44l)), (Value.int .u32 x46)]⟩ H7 fun x47v H8 =>
 x47v = (Value.tuple ⟨[]⟩) ∧
 ∃ bs : List Nat, (∀ b ∈ bs, ∃ o, H8 b = some o) ∧
 (4 : Int) ≠ 0 ∧
 (0 : Int) ≤ 4 ∧
 s5b ∈ bs ∧ ∃ x57 : Int, H8.cell ⟨s5b, 4, none⟩ = some (Value.int .i64 x57) ∧
 NilP x28a fun x59q =>
 InB 12 x28n fun x59i =>
 elemAt x59q x59i 1 fun x59p =>
 StCell H8 x59p (Value.int .u8 (IntKind.wrap .u8 (IntKind.wrap .i64 ((IntKind.wrap .i64 (Int.tdiv (IntKind.wrap .i64 (20 + (x20n : Int))) 4)) * 2 ^ (min (4 : Int).toNat (IntKind.bits .i64)))))) fun H9 =>
 KeptIn bs H8 H9 ∧ NilP x28a fun x60q =>
 InB 13 x28n fun x60i =>
 elemAt x60q x60i 1 fun x60p =>
 StCell H9 x60p (Value.int .u8 (IntKind.wrap .u8 x57)) fun H10 =>
 InC 14 x28n fun x62l =>
 ∃ x64 : Int, H10.cell ⟨s5b, 5, none⟩ = some (Value.int .i64 x64) ∧
 FnW Tryz.prog f_seg_put16 ⟨[(Value.slice (if x28c = x62l then x28a else Option.map (fun a => Addr.add a (x62l * 1)) x28a) (x28n - x62l) (x28c - x62l)), (Value.int .i64 x64)]⟩ H10 fun x65v H11 =>
 x65v = (Value.tuple ⟨[]⟩) ∧
 InC 18 x28n fun x67l =>
 ∃ x69 : Int, H11.cell ⟨s5b, 6, none⟩ = some (Value.int .i64 x69) ∧
 FnW Tryz.prog f_seg_put16 ⟨[(Value.slice (if x28c = x67l then x28a else Option.map (fun a => Addr.add a (x67l * 1)) x28a) (x28n - x67l) (x28c - x67l)), (Value.int .i64 x69)]⟩ H11 fun x70v H12 =>
 x70v = (Value.tuple ⟨[]⟩) ∧
 ∃ bs : List Nat, (∀ b ∈ bs, ∃ o, H12 b = some o) ∧
 s5b ∈ bs ∧ ∃ (x75a : Option Addr) (x75n x75c : Nat), H12.cell ⟨s5b, 8, none⟩ = some (Value.slice x75a x75n x75c) ∧
 AppW Tryz.prog #[T_sl_uint8, T_sl_uint8] T_sl_uint8 [(Value.slice x28a x28n x28c), (Value.slice x20a x20n x20c)] H12 fun x73v H13 =>
 ∃ (x73a : Option Addr) (x73n x73c : Nat), x73v = (Value.slice x73a x73n x73c) ∧
 KeptIn bs H12 H13 ∧ AppW Tryz.prog #[T_sl_uint8, T_sl_uint8] T_sl_uint8 [(Value.slice x73a x73n x73c), (Value.slice x75a x75n x75c)] H13 fun x76v H14 =>
 ∃ (x76a : Option Addr) (x76n x76c : Nat), x76v = (Value.slice x76a x76n x76c) ∧
 InC 16 x76n fun x78l =>
 FnW Tryz.prog f_seg_total ⟨[(Value.int .u32 from0), (Value.int .u32 to1), (Value.slice x76a x76n x76c)]⟩ H14 fun x82v H15 =>
 ∃ x82 : Int, x82v = (Value.int .u32 x82) ∧
 FnW Tryz.prog f_sum_Fold ⟨[(Value.int .u32 x82)]⟩ H15 fun x83v H16 =>
 ∃ x83 : Int, x83v = (Value.int .u16 x83) ∧
 FnW Tryz.prog f_seg_put16 ⟨[(Value.slice (if x76c = x78l then x76a else Option.map (fun a => Addr.add a (x78l * 1)) x76a) (x76n - x78l) (x76c - x78l)), (Value.int .i64 (IntKind.wrap .i64 x83))]⟩ H16 fun x85v H17 =>
 x85v = (Value.tuple ⟨[]⟩) ∧
 R (Value.tuple ⟨[(Value.slice x76a x76n x76c), (Value.int .i64 0)]⟩) H17))
theorem seg_Build_heq (from0 : Int) (to1 : Int) (s2c0 : Int) (s2c1 : Int) (s2c2 : Int) (s2c3 : Int) (s2c4 : Int) (s2c5 : Int) (s2c6 : Int) (s2c7 : Int) (s2c8a : Option Addr) (s2c8n : Nat) (s2c8c : Nat) (H : Heap) (R : Value → Heap → Prop) : seg_Build_p from0 to1 s2c0 s2c1 s2c2 s2c3 s2c4 s2c5 s2c6 s2c7 s2c8a s2c8n s2c8c H R = CodeW Tryz.prog hplan_seg_Build (bodyOf Tryz.f79) (env0 [(Value.int .u32 from0), (Value.int .u32 to1), (Value.agg ⟨[(Value.int .i64 s2c0), (Value.int .i64 s2c1), (Value.int .u32 s2c2), (Value.int .u32 s2c3), (Value.int .i64 s2c4), (Value.int .i64 s2c5), (Value.int .i64 s2c6), (Value.int .i64 s2c7), (Value.slice s2c8a s2c8n s2c8c)]⟩)]) H (RetW Tryz.prog Tryz.f79.results.toList R) := by kernel_rfl
theorem seg_Build_sh (from0 : Int) (to1 : Int) (s2c0 : Int) (s2c1 : Int) (s2c2 : Int) (s2c3 : Int) (s2c4 : Int) (s2c5 : Int) (s2c6 : Int) (s2c7 : Int) (s2c8a : Option Addr) (s2c8n : Nat) (s2c8c : Nat) {H : Heap} {R : Value → Heap → Prop} (h : seg_Build_p from0 to1 s2c0 s2c1 s2c2 s2c3 s2c4 s2c5 s2c6 s2c7 s2c8a s2c8n s2c8c H fun v H1 => ∀ H2, Shut H H1 H2 → R v H2) : FnW Tryz.prog f_seg_Build ⟨[(Value.int .u32 from0), (Value.int .u32 to1), (Value.agg ⟨[(Value.int .i64 s2c0), (Value.int .i64 s2c1), (Value.int .u32 s2c2), (Value.int .u32 s2c3), (Value.int .i64 s2c4), (Value.int .i64 s2c5), (Value.int .i64 s2c6), (Value.int .i64 s2c7), (Value.slice s2c8a s2c8n s2c8c)]⟩)]⟩ H R := FnW.of_code hk_seg_Build (by kernel_rfl) (Eq.mp (seg_Build_heq from0 to1 s2c0 s2c1 s2c2 s2c3 s2c4 s2c5 s2c6 s2c7 s2c8a s2c8n s2c8c H _) h)
def hplan_seq_Add : Plan := ⟨[], [], [], []⟩
theorem hk_seq_Add : Known Tryz.prog f_seq_Add Tryz.f80 hplan_seq_Add (bodyOf Tryz.f80) := ⟨Tryz.func80, by kernel_rfl, by kernel_rfl, by kernel_rfl, by kernel_rfl, by kernel_rfl⟩
def seq_Add_p (a0 : Int) (n1 : Int) (H : Heap) (R : Value → Heap → Prop) : Prop :=
 R (Value.int .u32 (IntKind.wrap .u32 (a0 + (IntKind.wrap .u32 n1)))) H
theorem seq_Add_heq (a0 : Int) (n1 : Int) (H : Heap) (R : Value → Heap → Prop) : seq_Add_p a0 n1 H R = CodeW Tryz.prog hplan_seq_Add (bodyOf Tryz.f80) (env0 [(Value.int .u32 a0), (Value.int .i64 n1)]) H (RetW Tryz.prog Tryz.f80.results.toList R) := by kernel_rfl
theorem seq_Add_sh (a0 : Int) (n1 : Int) {H : Heap} {R : Value → Heap → Prop} (h : seq_Add_p a0 n1 H fun v H1 => ∀ H2, Shut H H1 H2 → R v H2) : FnW Tryz.prog f_seq_Add ⟨[(Value.int .u32 a0), (Value.int .i64 n1)]⟩ H R := FnW.of_code hk_seq_Add (by kernel_rfl) (Eq.mp (seq_Add_heq a0 n1 H _) h)
def hplan_conn_Conn_refuse : Plan := ⟨[], [], [], []⟩
theorem hk_conn_Conn_refuse : Known Tryz.prog f_conn_Conn_refuse Tryz.f81 hplan_conn_Conn_refuse (bodyOf Tryz.f81) := ⟨Tryz.func81, by kernel_rfl, by kernel_rfl, by kernel_rfl, by kernel_rfl, by kernel_rfl⟩
def conn_Conn_refuse_p (c0b : Nat) (s1c0 : Int) (s1c1 : Int) (s1c2 : Int) (s1c3 : Int) (s1c4 : Int) (s1c5 : Int) (s1c6 : Int) (s1c7 : Int) (s1c8a : Option Addr) (s1c8n : Nat) (s1c8c : Nat) (H : Heap) (R : Value → Heap → Prop) : Prop :=
 NewW H (Obj.cells ⟨[(Value.int .i64 s1c0), (Value.int .i64 s1c1), (Value.int .u32 s1c2), (Value.int .u32 s1c3), (Value.int .i64 s1c4), (Value.int .i64 s1c5), (Value.int .i64 s1c6), (Value.int .i64 s1c7), (Value.slice s1c8a s1c8n s1c8c)]⟩ T_seg_Segment) fun s3b H1 =>
 ∃ x7c0 : Int, H1.cell ⟨s3b, 0, none⟩ = some (Value.int .i64 x7c0) ∧ ∃ x7c1 : Int, H1.cell ⟨s3b, 1, none⟩ = some (Value.int .i64 x7c1) ∧ ∃ x7c2 : Int, H1.cell ⟨s3b, 2, none⟩ = some (Value.int .u32 x7c2) ∧ ∃ x7c3 : Int, H1.cell ⟨s3b, 3, none⟩ = some (Value.int .u32 x7c3) ∧ ∃ x7c4 : Int, H1.cell ⟨s3b, 4, none⟩ = some (Value.int .i64 x7c4) ∧ ∃ x7c5 : Int, H1.cell ⟨s3b, 5, none⟩ = some (Value.int .i64 x7c5) ∧ ∃ x7c6 : Int, H1.cell ⟨s3b, 6, none⟩ = some (Value.int .i64 x7c6) ∧ ∃ x7c7 : Int, H1.cell ⟨s3b, 7, none⟩ = some (Value.int .i64 x7c7) ∧ ∃ (x7c8a : Option Addr) (x7c8n x7c8c : Nat), H1.cell ⟨s3b, 8, none⟩ = some (Value.slice x7c8a x7c8n x7c8c) ∧ FnW Tryz.prog f_seg_Reset ⟨[(Value.agg ⟨[(Value.int .i64 x7c0), (Value.int .i64 x7c1), (Value.int .u32 x7c2), (Value.int .u32 x7c3), (Value.int .i64 x7c4), (Value.int .i64 x7c5), (Value.int .i64 x7c6), (Value.int .i64 x7c7), (Value.slice x7c8a x7c8n x7c8c)]⟩)]⟩ H1 fun x8v H2 =>
 ∃ x8r0c0 : Int, ∃ x8r0c1 : Int, ∃ x8r0c2 : Int, ∃ x8r0c3 : Int, ∃ x8r0c4 : Int, ∃ x8r0c5 : Int, ∃ x8r0c6 : Int, ∃ x8r0c7 : Int, ∃ (x8r0c8a : Option Addr) (x8r0c8n x8r0c8c : Nat), ∃ x8r1 : Bool, x8v = (Value.tuple ⟨[(Value.agg ⟨[(Value.int .i64 x8r0c0), (Value.int .i64 x8r0c1), (Value.int .u32 x8r0c2), (Value.int .u32 x8r0c3), (Value.int .i64 x8r0c4), (Value.int .i64 x8r0c5), (Value.int .i64 x8r0c6), (Value.int .i64 x8r0c7), (Value.slice x8r0c8a x8r0c8n x8r0c8c)]⟩), (Value.bool x8r1)]⟩) ∧
 NewW H2 (Obj.cells ⟨[(Value.int .i64 0), (Value.int .i64 0), (Value.int .u32 0), (Value.int .u32 0), (Value.int .i64 0), (Value.int .i64 0), (Value.int .i64 0), (Value.int .i64 0), (Value.slice none 0 0)]⟩ T_seg_Segment) fun r4b H3 =>
 StCell H3 ⟨r4b, 0, none⟩ (Value.int .i64 x8r0c0) fun H4 =>
 StCell H4 ⟨r4b, 1, none⟩ (Value.int .i64 x8r0c1) fun H5 =>
 StCell H5 ⟨r4b, 2, none⟩ (Value.int .u32 x8r0c2) fun H6 =>
 StCell H6 ⟨r4b, 3, none⟩ (Value.int .u32 x8r0c3) fun H7 =>
 StCell H7 ⟨r4b, 4, none⟩ (Value.int .i64 x8r0c4) fun H8 =>
 StCell H8 ⟨r4b, 5, none⟩ (Value.int .i64 x8r0c5) fun H9 =>
 StCell H9 ⟨r4b, 6, none⟩ (Value.int .i64 x8r0c6) fun H10 =>
 StCell H10 ⟨r4b, 7, none⟩ (Value.int .i64 x8r0c7) fun H11 =>
 StCell H11 ⟨r4b, 8, none⟩ (Value.slice x8r0c8a x8r0c8n x8r0c8c) fun H12 =>
 IfB x8r1
 (∃ (x16a : Option Addr) (x16n x16c : Nat), H12.cell ⟨c0b, 12, none⟩ = some (Value.slice x16a x16n x16c) ∧
 ∃ x17c0 : Int, H12.cell ⟨r4b, 0, none⟩ = some (Value.int .i64 x17c0) ∧ ∃ x17c1 : Int, H12.cell ⟨r4b, 1, none⟩ = some (Value.int .i64 x17c1) ∧ ∃ x17c2 : Int, H12.cell ⟨r4b, 2, none⟩ = some (Value.int .u32 x17c2) ∧ ∃ x17c3 : Int, H12.cell ⟨r4b, 3, none⟩ = some (Value.int .u32 x17c3) ∧ ∃ x17c4 : Int, H12.cell ⟨r4b, 4, none⟩ = some (Value.int .i64 x17c4) ∧ ∃ x17c5 : Int, H12.cell ⟨r4b, 5, none⟩ = some (Value.int .i64 x17c5) ∧ ∃ x17c6 : Int, H12.cell ⟨r4b, 6, none⟩ = some (Value.int .i64 x17c6) ∧ ∃ x17c7 : Int, H12.cell ⟨r4b, 7, none⟩ = some (Value.int .i64 x17c7) ∧ ∃ (x17c8a : Option Addr) (x17c8n x17c8c : Nat), H12.cell ⟨r4b, 8, none⟩ = some (Value.slice x17c8a x17c8n x17c8c) ∧ NewW H12 (Obj.cells ⟨[(Value.int .i64 x17c0), (Value.int .i64 x17c1), (Value.int .u32 x17c2), (Value.int .u32 x17c3), (Value.int .i64 x17c4), (Value.int .i64 x17c5), (Value.int .i64 x17c6), (Value.int .i64 x17c7), (Value.slice x17c8a x17c8n x17c8c)]⟩ T_seg_Segment) fun x18b H13 =>
 AppW Tryz.prog #[T_sl_seg_Segment, T_sl_seg_Segment] T_sl_seg_Segment [(Value.slice x16a x16n x16c), (Value.slice (some ⟨x18b, 0, none⟩) 1 1)] H13 fun x19v H14 =>
 ∃ (x19a : Option Addr) (x19n x19c : Nat), x19v = (Value.slice x19a x19n x19c) ∧
 StCell H14 ⟨c0b, 12, none⟩ (Value.slice x19a x19n x19c) fun H15 =>
 R (Value.tuple ⟨[]⟩) H15)
 (R (Value.tuple ⟨[]⟩) H12)
theorem conn_Conn_refuse_heq (c0b : Nat) (s1c0 : Int) (s1c1 : Int) (s1c2 : Int) (s1c3 : Int) (s1c4 : Int) (s1c5 : Int) (s1c6 : Int) (s1c7 : Int) (s1c8a : Option Addr) (s1c8n : Nat) (s1c8c : Nat) (H : Heap) (R : Value → Heap → Prop) : conn_Conn_refuse_p c0b s1c0 s1c1 s1c2 s1c3 s1c4 s1c5 s1c6 s1c7 s1c8a s1c8n s1c8c H R = CodeW Tryz.prog hplan_conn_Conn_refuse (bodyOf Tryz.f81) (env0 [(Value.pointer (some ⟨c0b, 0, none⟩)), (Value.agg ⟨[(Value.int .i64 s1c0), (Value.int .i64 s1c1), (Value.int .u32 s1c2), (Value.int .u32 s1c3), (Value.int .i64 s1c4), (Value.int .i64 s1c5), (Value.int .i64 s1c6), (Value.int .i64 s1c7), (Value.slice s1c8a s1c8n s1c8c)]⟩)]) H (RetW Tryz.prog Tryz.f81.results.toList R) := by kernel_rfl
theorem conn_Conn_refuse_sh (c0b : Nat) (s1c0 : Int) (s1c1 : Int) (s1c2 : Int) (s1c3 : Int) (s1c4 : Int) (s1c5 : Int) (s1c6 : Int) (s1c7 : Int) (s1c8a : Option Addr) (s1c8n : Nat) (s1c8c : Nat) {H : Heap} {R : Value → Heap → Prop} (h : conn_Conn_refuse_p c0b s1c0 s1c1 s1c2 s1c3 s1c4 s1c5 s1c6 s1c7 s1c8a s1c8n s1c8c H fun v H1 => ∀ H2, Shut H H1 H2 → R v H2) : FnW Tryz.prog f_conn_Conn_refuse ⟨[(Value.pointer (some ⟨c0b, 0, none⟩)), (Value.agg ⟨[(Value.int .i64 s1c0), (Value.int .i64 s1c1), (Value.int .u32 s1c2), (Value.int .u32 s1c3), (Value.int .i64 s1c4), (Value.int .i64 s1c5), (Value.int .i64 s1c6), (Value.int .i64 s1c7), (Value.slice s1c8a s1c8n s1c8c)]⟩)]⟩ H R := FnW.of_code hk_conn_Conn_refuse (by kernel_rfl) (Eq.mp (conn_Conn_refuse_heq c0b s1c0 s1c1 s1c2 s1c3 s1c4 s1c5 s1c6 s1c7 s1c8a s1c8n s1c8c H _) h)
def hplan_conn_Conn_lost : Plan := ⟨[], [], [], []⟩
theorem hk_conn_Conn_lost : Known Tryz.prog f_conn_Conn_lost Tryz.f82 hplan_conn_Conn_lost (bodyOf Tryz.f82) := ⟨Tryz.func82, by kernel_rfl, by kernel_rfl, by kernel_rfl, by kernel_rfl, by kernel_rfl⟩
def conn_Conn_lost_p (c0b : Nat) (H : Heap) (R : Value → Heap → Prop) : Prop :=
 FnW Tryz.prog f_conn_Conn_die ⟨[(Value.pointer (some ⟨c0b, 0, none⟩))]⟩ H fun x4v H1 =>
 x4v = (Value.tuple ⟨[]⟩) ∧
 StCell H1 ⟨c0b, 12, none⟩ (Value.slice none 0 0) fun H2 =>
 R (Value.int .i64 151) H2
theorem conn_Conn_lost_heq (c0b : Nat) (H : Heap) (R : Value → Heap → Prop) : conn_Conn_lost_p c0b H R = CodeW Tryz.prog hplan_conn_Conn_lost (bodyOf Tryz.f82) (env0 [(Value.pointer (some ⟨c0b, 0, none⟩))]) H (RetW Tryz.prog Tryz.f82.results.toList R) := by kernel_rfl
theorem conn_Conn_lost_sh (c0b : Nat) {H : Heap} {R : Value → Heap → Prop} (h : conn_Conn_lost_p c0b H fun v H1 => ∀ H2, Shut H H1 H2 → R v H2) : FnW Tryz.prog f_conn_Conn_lost ⟨[(Value.pointer (some ⟨c0b, 0, none⟩))]⟩ H R := FnW.of_code hk_conn_Conn_lost (by kernel_rfl) (Eq.mp (conn_Conn_lost_heq c0b H _) h)
def hplan_conn_Conn_welcome : Plan := ⟨[], [], [], []⟩
theorem hk_conn_Conn_welcome : Known Tryz.prog f_conn_Conn_welcome Tryz.f83 hplan_conn_Conn_welcome (bodyOf Tryz.f83) := ⟨Tryz.func83, by kernel_rfl, by kernel_rfl, by kernel_rfl, by kernel_rfl, by kernel_rfl⟩
def conn_Conn_welcome_p (c0b : Nat) (s1c0 : Int) (s1c1 : Int) (s1c2 : Int) (s1c3 : Int) (s1c4 : Int) (s1c5 : Int) (s1c6 : Int) (s1c7 : Int) (s1c8a : Option Addr) (s1c8n : Nat) (s1c8c : Nat) (H : Heap) (R : Value → Heap → Prop) : Prop :=
 NewW H (Obj.cells ⟨[(Value.int .i64 s1c0), (Value.int .i64 s1c1), (Value.int .u32 s1c2), (Value.int .u32 s1c3), (Value.int .i64 s1c4), (Value.int .i64 s1c5), (Value.int .i64 s1c6), (Value.int .i64 s1c7), (Value.slice s1c8a s1c8n s1c8c)]⟩ T_seg_Segment) fun s3b H1 =>
 StCell H1 ⟨c0b, 0, none⟩ (Value.int .i64 3) fun H2 =>
 FnW Tryz.prog f_conn_Conn_news ⟨[(Value.pointer (some ⟨c0b, 0, none⟩))]⟩ H2 fun x8v H3 =>
 x8v = (Value.tuple ⟨[]⟩) ∧
 ∃ x12 : Option Addr, H3.cell ⟨c0b, 4, none⟩ = some (Value.pointer x12) ∧
 ∃ x16 : Int, H3.cell ⟨c0b, 10, none⟩ = some (Value.int .i64 x16) ∧
 ∃ x18 : Int, H3.cell ⟨s3b, 3, none⟩ = some (Value.int .u32 x18) ∧
 ∃ x20 : Int, H3.cell ⟨s3b, 5, none⟩ = some (Value.int .i64 x20) ∧
 FnW Tryz.prog f_send_Outbox_Ack ⟨[(Value.pointer x12), (Value.int .i64 x16), (Value.int .u32 x18), (Value.int .i64 x20)]⟩ H3 fun x21v H4 =>
 ∃ x21r0 : Int, ∃ x21r1 : Int, x21v = (Value.tuple ⟨[(Value.int .i64 x21r0), (Value.int .i64 x21r1)]⟩) ∧
 R (Value.tuple ⟨[]⟩) H4
theorem conn_Conn_welcome_heq (c0b : Nat) (s1c0 : Int) (s1c1 : Int) (s1c2 : Int) (s1c3 : Int) (s1c4 : Int) (s1c5 : Int) (s1c6 : Int) (s1c7 : Int) (s1c8a : Option Addr) (s1c8n : Nat) (s1c8c : Nat) (H : Heap) (R : Value → Heap → Prop) : conn_Conn_welcome_p c0b s1c0 s1c1 s1c2 s1c3 s1c4 s1c5 s1c6 s1c7 s1c8a s1c8n s1c8c H R = CodeW Tryz.prog hplan_conn_Conn_welcome (bodyOf Tryz.f83) (env0 [(Value.pointer (some ⟨c0b, 0, none⟩)), (Value.agg ⟨[(Value.int .i64 s1c0), (Value.int .i64 s1c1), (Value.int .u32 s1c2), (Value.int .u32 s1c3), (Value.int .i64 s1c4), (Value.int .i64 s1c5), (Value.int .i64 s1c6), (Value.int .i64 s1c7), (Value.slice s1c8a s1c8n s1c8c)]⟩)]) H (RetW Tryz.prog Tryz.f83.results.toList R) := by kernel_rfl
theorem conn_Conn_welcome_sh (c0b : Nat) (s1c0 : Int) (s1c1 : Int) (s1c2 : Int) (s1c3 : Int) (s1c4 : Int) (s1c5 : Int) (s1c6 : Int) (s1c7 : Int) (s1c8a : Option Addr) (s1c8n : Nat) (s1c8c : Nat) {H : Heap} {R : Value → Heap → Prop} (h : conn_Conn_welcome_p c0b s1c0 s1c1 s1c2 s1c3 s1c4 s1c5 s1c6 s1c7 s1c8a s1c8n s1c8c H fun v H1 => ∀ H2, Shut H H1 H2 → R v H2) : FnW Tryz.prog f_conn_Conn_welcome ⟨[(Value.pointer (some ⟨c0b, 0, none⟩)), (Value.agg ⟨[(Value.int .i64 s1c0), (Value.int .i64 s1c1), (Value.int .u32 s1c2), (Value.int .u32 s1c3), (Value.int .i64 s1c4), (Value.int .i64 s1c5), (Value.int .i64 s1c6), (Value.int .i64 s1c7), (Value.slice s1c8a s1c8n s1c8c)]⟩)]⟩ H R := FnW.of_code hk_conn_Conn_welcome (by kernel_rfl) (Eq.mp (conn_Conn_welcome_heq c0b s1c0 s1c1 s1c2 s1c3 s1c4 s1c5 s1c6 s1c7 s1c8a s1c8n s1c8c H _) h)
def hplan_seq_Accepts : Plan := ⟨[], [], [], []⟩
theorem hk_seq_Accepts : Known Tryz.prog f_seq_Accepts Tryz.f84 hplan_seq_Accepts (bodyOf Tryz.f84) := ⟨Tryz.func84, by kernel_rfl, by kernel_rfl, by kernel_rfl, by kernel_rfl, by kernel_rfl⟩
def seq_Accepts_j0 (next0 : Int) (size1 : Int) (from2 : Int) (n3 : Int) (x15 : Bool) (H2 : Heap) (R : Value → Heap → Prop) : Prop :=
 IfB x15
 (R (Value.tuple ⟨[(Value.bool ((from2 : Int) == next0)), (Value.int .i64 0)]⟩) H2)
 (IfB ((n3 : Int) == 0)
 (FnW Tryz.prog f_seq_Within ⟨[(Value.int .u32 from2), (Value.int .u32 next0), (Value.int .i64 size1)]⟩ H2 fun x31v H3 =>
 ∃ x31 : Bool, x31v = (Value.bool x31) ∧
 R (Value.tuple ⟨[(Value.bool x31), (Value.int .i64 0)]⟩) H3)
 (FnW Tryz.prog f_seq_Within ⟨[(Value.int .u32 from2), (Value.int .u32 next0), (Value.int .i64 size1)]⟩ H2 fun x35v H4 =>
 ∃ x35 : Bool, x35v = (Value.bool x35) ∧
 IfB x35
 (R (Value.tuple ⟨[(Value.bool true), (Value.int .i64 0)]⟩) H4)
 (FnW Tryz.prog f_seq_Add ⟨[(Value.int .u32 from2), (Value.int .i64 (IntKind.wrap .i64 (n3 - 1)))]⟩ H4 fun x40v H5 =>
 ∃ x40 : Int, x40v = (Value.int .u32 x40) ∧
 FnW Tryz.prog f_seq_Within ⟨[(Value.int .u32 x40), (Value.int .u32 next0), (Value.int .i64 size1)]⟩ H5 fun x43v H6 =>
 ∃ x43 : Bool, x43v = (Value.bool x43) ∧
 R (Value.tuple ⟨[(Value.bool x43), (Value.int .i64 0)]⟩) H6)))
def seq_Accepts_p (next0 : Int) (size1 : Int) (from2 : Int) (n3 : Int) (H : Heap) (R : Value → Heap → Prop) : Prop :=
 FnW Tryz.prog f_seq_right ⟨[(Value.int .i64 size1), (Value.int .i64 n3)]⟩ H fun x13v H1 =>
 ∃ x13 : Bool, x13v = (Value.bool x13) ∧
 IfB (!x13)
 (R (Value.tuple ⟨[(Value.bool false), (Value.int .i64 2)]⟩) H1)
 (IfB ((n3 : Int) == 0)
 (seq_Accepts_j0 next0 size1 from2 n3 ((size1 : Int) == 0) H1 R)
 (seq_Accepts_j0 next0 size1 from2 n3 false H1 R))
theorem seq_Accepts_heq (next0 : Int) (size1 : Int) (from2 : Int) (n3 : Int) (H : Heap) (R : Value → Heap → Prop) : seq_Accepts_p next0 size1 from2 n3 H R = CodeW Tryz.prog hplan_seq_Accepts (bodyOf Tryz.f84) (env0 [(Value.int .u32 next0), (Value.int .i64 size1), (Value.int .u32 from2), (Value.int .i64 n3)]) H (RetW Tryz.prog Tryz.f84.results.toList R) := by kernel_rfl
theorem seq_Accepts_sh (next0 : Int) (size1 : Int) (from2 : Int) (n3 : Int) {H : Heap} {R : Value → Heap → Prop} (h : seq_Accepts_p next0 size1 from2 n3 H fun v H1 => ∀ H2, Shut H H1 H2 → R v H2) : FnW Tryz.prog f_seq_Accepts ⟨[(Value.int .u32 next0), (Value.int .i64 size1), (Value.int .u32 from2), (Value.int .i64 n3)]⟩ H R := FnW.of_code hk_seq_Accepts (by kernel_rfl) (Eq.mp (seq_Accepts_heq next0 size1 from2 n3 H _) h)
def hplan_seg_Span : Plan := ⟨[], [], [(3, 3)], []⟩
theorem hk_seg_Span : Known Tryz.prog f_seg_Span Tryz.f85 hplan_seg_Span (bodyOf Tryz.f85) := ⟨Tryz.func85, by kernel_rfl, by kernel_rfl, by kernel_rfl, by kernel_rfl, by kernel_rfl⟩
def seg_Span_j1 (s1b : Nat) (n3_1 : Int) (H5 : Heap) (R : Value → Heap → Prop) : Prop :=
 IfB (decide (((IntKind.wrap .i64 ((IntKind.wrap .i64 (0 + 1)) + 1)) : Int) < 2))
 ((0 : Int) ≤ (IntKind.wrap .i64 ((IntKind.wrap .i64 (0 + 1)) + 1)) ∧ ((IntKind.wrap .i64 ((IntKind.wrap .i64 (0 + 1)) + 1)) : Int) < 2 ∧
 False)
 (R (Value.int .i64 n3_1) H5)
def seg_Span_j0 (s1b : Nat) (n3 : Int) (H3 : Heap) (R : Value → Heap → Prop) : Prop :=
 IfB (decide (((IntKind.wrap .i64 (0 + 1)) : Int) < 2))
 ((0 : Int) ≤ (IntKind.wrap .i64 (0 + 1)) ∧ ((IntKind.wrap .i64 (0 + 1)) : Int) < 2 ∧
 ∃ x13c0_1 : Int, H3.cell ⟨s1b, 0, none⟩ = some (Value.int .i64 x13c0_1) ∧ ∃ x13c1_1 : Int, H3.cell ⟨s1b, 1, none⟩ = some (Value.int .i64 x13c1_1) ∧ ∃ x13c2_1 : Int, H3.cell ⟨s1b, 2, none⟩ = some (Value.int .u32 x13c2_1) ∧ ∃ x13c3_1 : Int, H3.cell ⟨s1b, 3, none⟩ = some (Value.int .u32 x13c3_1) ∧ ∃ x13c4_1 : Int, H3.cell ⟨s1b, 4, none⟩ = some (Value.int .i64 x13c4_1) ∧ ∃ x13c5_1 : Int, H3.cell ⟨s1b, 5, none⟩ = some (Value.int .i64 x13c5_1) ∧ ∃ x13c6_1 : Int, H3.cell ⟨s1b, 6, none⟩ = some (Value.int .i64 x13c6_1) ∧ ∃ x13c7_1 : Int, H3.cell ⟨s1b, 7, none⟩ = some (Value.int .i64 x13c7_1) ∧ ∃ (x13c8a_1 : Option Addr) (x13c8n_1 x13c8c_1 : Nat), H3.cell ⟨s1b, 8, none⟩ = some (Value.slice x13c8a_1 x13c8n_1 x13c8c_1) ∧ FnW Tryz.prog f_seg_Segment_has ⟨[(Value.agg ⟨[(Value.int .i64 x13c0_1), (Value.int .i64 x13c1_1), (Value.int .u32 x13c2_1), (Value.int .u32 x13c3_1), (Value.int .i64 x13c4_1), (Value.int .i64 x13c5_1), (Value.int .i64 x13c6_1), (Value.int .i64 x13c7_1), (Value.slice x13c8a_1 x13c8n_1 x13c8c_1)]⟩), (Value.int .i64 0)]⟩ H3 fun x15v_1 H4 =>
 ∃ x15_1 : Bool, x15v_1 = (Value.bool x15_1) ∧
 IfB x15_1
 (seg_Span_j1 s1b (IntKind.wrap .i64 (n3 + 1)) H4 R)
 (seg_Span_j1 s1b n3 H4 R))
 (R (Value.int .i64 n3) H3)
def seg_Span_p (s0c0 : Int) (s0c1 : Int) (s0c2 : Int) (s0c3 : Int) (s0c4 : Int) (s0c5 : Int) (s0c6 : Int) (s0c7 : Int) (s0c8a : Option Addr) (s0c8n : Nat) (s0c8c : Nat) (H : Heap) (R : Value → Heap → Prop) : Prop :=
 NewW H (Obj.cells ⟨[(Value.int .i64 s0c0), (Value.int .i64 s0c1), (Value.int .u32 s0c2), (Value.int .u32 s0c3), (Value.int .i64 s0c4), (Value.int .i64 s0c5), (Value.int .i64 s0c6), (Value.int .i64 s0c7), (Value.slice s0c8a s0c8n s0c8c)]⟩ T_seg_Segment) fun s1b H1 =>
 ∃ (x7a : Option Addr) (x7n x7c : Nat), H1.cell ⟨s1b, 8, none⟩ = some (Value.slice x7a x7n x7c) ∧
 IfB (decide ((0 : Int) < 2))
 ((0 : Int) ≤ 0 ∧ (0 : Int) < 2 ∧
 ∃ x13c0 : Int, H1.cell ⟨s1b, 0, none⟩ = some (Value.int .i64 x13c0) ∧ ∃ x13c1 : Int, H1.cell ⟨s1b, 1, none⟩ = some (Value.int .i64 x13c1) ∧ ∃ x13c2 : Int, H1.cell ⟨s1b, 2, none⟩ = some (Value.int .u32 x13c2) ∧ ∃ x13c3 : Int, H1.cell ⟨s1b, 3, none⟩ = some (Value.int .u32 x13c3) ∧ ∃ x13c4 : Int, H1.cell ⟨s1b, 4, none⟩ = some (Value.int .i64 x13c4) ∧ ∃ x13c5 : Int, H1.cell ⟨s1b, 5, none⟩ = some (Value.int .i64 x13c5) ∧ ∃ x13c6 : Int, H1.cell ⟨s1b, 6, none⟩ = some (Value.int .i64 x13c6) ∧ ∃ x13c7 : Int, H1.cell ⟨s1b, 7, none⟩ = some (Value.int .i64 x13c7) ∧ ∃ (x13c8a : Option Addr) (x13c8n x13c8c : Nat), H1.cell ⟨s1b, 8, none⟩ = some (Value.slice x13c8a x13c8n x13c8c) ∧ FnW Tryz.prog f_seg_Segment_has ⟨[(Value.agg ⟨[(Value.int .i64 x13c0), (Value.int .i64 x13c1), (Value.int .u32 x13c2), (Value.int .u32 x13c3), (Value.int .i64 x13c4), (Value.int .i64 x13c5), (Value.int .i64 x13c6), (Value.int .i64 x13c7), (Value.slice x13c8a x13c8n x13c8c)]⟩), (Value.int .i64 1)]⟩ H1 fun x15v H2 =>
 ∃ x15 : Bool, x15v = (Value.bool x15) ∧
 IfB x15
 (seg_Span_j0 s1b (IntKind.wrap .i64 ((x7n : Int) + 1)) H2 R)
 (seg_Span_j0 s1b (x7n : Int) H2 R))
 (R (Value.int .i64 (x7n : Int)) H1)
theorem seg_Span_heq (s0c0 : Int) (s0c1 : Int) (s0c2 : Int) (s0c3 : Int) (s0c4 : Int) (s0c5 : Int) (s0c6 : Int) (s0c7 : Int) (s0c8a : Option Addr) (s0c8n : Nat) (s0c8c : Nat) (H : Heap) (R : Value → Heap → Prop) : seg_Span_p s0c0 s0c1 s0c2 s0c3 s0c4 s0c5 s0c6 s0c7 s0c8a s0c8n s0c8c H R = CodeW Tryz.prog hplan_seg_Span (bodyOf Tryz.f85) (env0 [(Value.agg ⟨[(Value.int .i64 s0c0), (Value.int .i64 s0c1), (Value.int .u32 s0c2), (Value.int .u32 s0c3), (Value.int .i64 s0c4), (Value.int .i64 s0c5), (Value.int .i64 s0c6), (Value.int .i64 s0c7), (Value.slice s0c8a s0c8n s0c8c)]⟩)]) H (RetW Tryz.prog Tryz.f85.results.toList R) := by kernel_rfl
theorem seg_Span_sh (s0c0 : Int) (s0c1 : Int) (s0c2 : Int) (s0c3 : Int) (s0c4 : Int) (s0c5 : Int) (s0c6 : Int) (s0c7 : Int) (s0c8a : Option Addr) (s0c8n : Nat) (s0c8c : Nat) {H : Heap} {R : Value → Heap → Prop} (h : seg_Span_p s0c0 s0c1 s0c2 s0c3 s0c4 s0c5 s0c6 s0c7 s0c8a s0c8n s0c8c H fun v H1 => ∀ H2, Shut H H1 H2 → R v H2) : FnW Tryz.prog f_seg_Span ⟨[(Value.agg ⟨[(Value.int .i64 s0c0), (Value.int .i64 s0c1), (Value.int .u32 s0c2), (Value.int .u32 s0c3), (Value.int .i64 s0c4), (Value.int .i64 s0c5), (Value.int .i64 s0c6), (Value.int .i64 s0c7), (Value.slice s0c8a s0c8n s0c8c)]⟩)]⟩ H R := FnW.of_code hk_seg_Span (by kernel_rfl) (Eq.mp (seg_Span_heq s0c0 s0c1 s0c2 s0c3 s0c4 s0c5 s0c6 s0c7 s0c8a s0c8n s0c8c H _) h)
def hplan_conn_Conn_acknowledged : Plan := ⟨[(2, [0, 1, 2, 3, 4, 5, 6, 7, 8], [24]), (6, [0, 1, 2, 3, 4, 5, 6, 7, 8, 9, 10, 11, 12], [46]), (7, [0, 1, 2, 3, 4, 5, 6, 7, 8, 9, 10, 11, 13, 14, 12, 15, 16, 17, 18, 19], [55, 59, 66])], [], [], []⟩
theorem hk_conn_Conn_acknowledged : Known Tryz.prog f_conn_Conn_acknowledged Tryz.f86 hplan_conn_Conn_acknowledged (bodyOf Tryz.f86) := ⟨Tryz.func86, by kernel_rfl, by kernel_rfl, by kernel_rfl, by kernel_rfl, by kernel_rfl⟩
def conn_Conn_acknowledged_j1 (c0b : Nat) (x85 : Int) (H5 : Heap) (R : Value → Heap → Prop) : Prop :=
 IfB ((x85 : Int) == 0)
 (∃ x90 : Option Addr, H5.cell ⟨c0b, 4, none⟩ = some (Value.pointer x90) ∧
 NilP x90 fun x91p =>
 ∃ x93 : Option Addr, H5.cell x91p = some (Value.pointer x93) ∧
 FnW Tryz.prog f_rto_Estimate_Good ⟨[(Value.pointer x93)]⟩ H5 fun x94v H6 =>
 x94v = (Value.tuple ⟨[]⟩) ∧
 R (Value.bool true) H6)
 (R (Value.bool true) H5)
def conn_Conn_acknowledged_j0 (c0b : Nat) (s3b : Nat) (H4 : Heap) (R : Value → Heap → Prop) : Prop :=
 ∃ x85 : Int, H4.cell ⟨s3b, 5, none⟩ = some (Value.int .i64 x85) ∧
 conn_Conn_acknowledged_j1 c0b x85 H4 R
def conn_Conn_acknowledged_j4 (c0b : Nat) (s3b : Nat) (H13 : Heap) (R : Value → Heap → Prop) : Prop :=
 FnW Tryz.prog f_conn_Conn_finished ⟨[(Value.pointer (some ⟨c0b, 0, none⟩))]⟩ H13 fun x83v H14 =>
 x83v = (Value.tuple ⟨[]⟩) ∧
 conn_Conn_acknowledged_j0 c0b s3b H14 R
def conn_Conn_acknowledged_j3 (c0b : Nat) (s3b : Nat) (x79 : Bool) (H11 : Heap) (R : Value → Heap → Prop) : Prop :=
 IfB x79
 (FnW Tryz.prog f_conn_Conn_news ⟨[(Value.pointer (some ⟨c0b, 0, none⟩))]⟩ H11 fun x81v H12 =>
 x81v = (Value.tuple ⟨[]⟩) ∧
 conn_Conn_acknowledged_j4 c0b s3b H12 R)
 (conn_Conn_acknowledged_j4 c0b s3b H11 R)
def conn_Conn_acknowledged_j2 (c0b : Nat) (s3b : Nat) (x38 : Bool) (H8 : Heap) (R : Value → Heap → Prop) : Prop :=
 IfB x38
 (∃ bs : List Nat, (∀ b ∈ bs, ∃ o, H8 b = some o) ∧
 c0b ∈ bs ∧ ∃ x55 : Option Addr, H8.cell ⟨c0b, 4, none⟩ = some (Value.pointer x55) ∧
 c0b ∈ bs ∧ ∃ x59 : Int, H8.cell ⟨c0b, 10, none⟩ = some (Value.int .i64 x59) ∧
 ∃ x63 : Option Addr, H8.cell ⟨c0b, 4, none⟩ = some (Value.pointer x63) ∧
 s3b ∈ bs ∧ ∃ x66 : Int, H8.cell ⟨s3b, 5, none⟩ = some (Value.int .i64 x66) ∧
 FnW Tryz.prog f_send_Outbox_Next ⟨[(Value.pointer x63)]⟩ H8 fun x64v H9 =>
 ∃ x64 : Int, x64v = (Value.int .u32 x64) ∧
 KeptIn bs H8 H9 ∧ FnW Tryz.prog f_send_Outbox_Ack ⟨[(Value.pointer x55), (Value.int .i64 x59), (Value.int .u32 x64), (Value.int .i64 x66)]⟩ H9 fun x67v H10 =>
 ∃ x67r0 : Int, ∃ x67r1 : Int, x67v = (Value.tuple ⟨[(Value.int .i64 x67r0), (Value.int .i64 x67r1)]⟩) ∧
 KeptIn bs H8 H10 ∧ IfB (decide ((x67r0 : Int) > 0))
 (conn_Conn_acknowledged_j3 c0b s3b true H10 R)
 (∃ x77 : Bool, H10.cell ⟨c0b, 8, none⟩ = some (Value.bool x77) ∧
 conn_Conn_acknowledged_j3 c0b s3b (!x77) H10 R))
 (∃ bs : List Nat, (∀ b ∈ bs, ∃ o, H8 b = some o) ∧
 s3b ∈ bs ∧ ∃ x24 : Int, H8.cell ⟨s3b, 3, none⟩ = some (Value.int .u32 x24) ∧
 ∃ x28 : Option Addr, H8.cell ⟨c0b, 4, none⟩ = some (Value.pointer x28) ∧
 FnW Tryz.prog f_send_Outbox_Una ⟨[(Value.pointer x28)]⟩ H8 fun x29v H15 =>
 ∃ x29 : Int, x29v = (Value.int .u32 x29) ∧
 KeptIn bs H8 H15 ∧ FnW Tryz.prog f_seq_Ahead ⟨[(Value.int .u32 x24), (Value.int .u32 x29)]⟩ H15 fun x30v H16 =>
 ∃ x30 : Bool, x30v = (Value.bool x30) ∧
 R (Value.bool x30) H16)
def conn_Conn_acknowledged_p (c0b : Nat) (s1c0 : Int) (s1c1 : Int) (s1c2 : Int) (s1c3 : Int) (s1c4 : Int) (s1c5 : Int) (s1c6 : Int) (s1c7 : Int) (s1c8a : Option Addr) (s1c8n : Nat) (s1c8c : Nat) (H : Heap) (R : Value → Heap → Prop) : Prop :=
 NewW H (Obj.cells ⟨[(Value.int .i64 s1c0), (Value.int .i64 s1c1), (Value.int .u32 s1c2), (Value.int .u32 s1c3), (Value.int .i64 s1c4), (Value.int .i64 s1c5), (Value.int .i64 s1c6), (Value.int .i64 s1c7), (Value.slice s1c8a s1c8n s1c8c)]⟩ T_seg_Segment) fun s3b H1 =>
 ∃ x11 : Option Addr, H1.cell ⟨c0b, 4, none⟩ = some (Value.pointer x11) ∧
 ∃ x15 : Int, H1.cell ⟨c0b, 10, none⟩ = some (Value.int .i64 x15) ∧
 ∃ x17 : Int, H1.cell ⟨s3b, 3, none⟩ = some (Value.int .u32 x17) ∧
 ∃ x19 : Int, H1.cell ⟨s3b, 5, none⟩ = some (Value.int .i64 x19) ∧
 FnW Tryz.prog f_send_Outbox_Ack ⟨[(Value.pointer x11), (Value.int .i64 x15), (Value.int .u32 x17), (Value.int .i64 x19)]⟩ H1 fun x20v H2 =>
 ∃ x20r0 : Int, ∃ x20r1 : Int, x20v = (Value.tuple ⟨[(Value.int .i64 x20r0), (Value.int .i64 x20r1)]⟩) ∧
 IfB ((x20r1 : Int) == 0)
 (IfB (decide ((x20r0 : Int) > 0))
 (FnW Tryz.prog f_conn_Conn_news ⟨[(Value.pointer (some ⟨c0b, 0, none⟩))]⟩ H2 fun x37v H3 =>
 x37v = (Value.tuple ⟨[]⟩) ∧
 conn_Conn_acknowledged_j0 c0b s3b H3 R)
 (conn_Conn_acknowledged_j0 c0b s3b H2 R))
 (∃ bs : List Nat, (∀ b ∈ bs, ∃ o, H2 b = some o) ∧
 ∃ x43 : Bool, H2.cell ⟨c0b, 7, none⟩ = some (Value.bool x43) ∧
 IfB x43
 (s3b ∈ bs ∧ ∃ x46 : Int, H2.cell ⟨s3b, 3, none⟩ = some (Value.int .u32 x46) ∧
 FnW Tryz.prog f_conn_Conn_last ⟨[(Value.pointer (some ⟨c0b, 0, none⟩))]⟩ H2 fun x48v H7 =>
 ∃ x48 : Int, x48v = (Value.int .u32 x48) ∧
 KeptIn bs H2 H7 ∧ conn_Conn_acknowledged_j2 c0b s3b ((x46 : Int) == x48) H7 R)
 (conn_Conn_acknowledged_j2 c0b s3b false H2 R))
theorem conn_Conn_acknowledged_heq (c0b : Nat) (s1c0 : Int) (s1c1 : Int) (s1c2 : Int) (s1c3 : Int) (s1c4 : Int) (s1c5 : Int) (s1c6 : Int) (s1c7 : Int) (s1c8a : Option Addr) (s1c8n : Nat) (s1c8c : Nat) (H : Heap) (R : Value → Heap → Prop) : conn_Conn_acknowledged_p c0b s1c0 s1c1 s1c2 s1c3 s1c4 s1c5 s1c6 s1c7 s1c8a s1c8n s1c8c H R = CodeW Tryz.prog hplan_conn_Conn_acknowledged (bodyOf Tryz.f86) (env0 [(Value.pointer (some ⟨c0b, 0, none⟩)), (Value.agg ⟨[(Value.int .i64 s1c0), (Value.int .i64 s1c1), (Value.int .u32 s1c2), (Value.int .u32 s1c3), (Value.int .i64 s1c4), (Value.int .i64 s1c5), (Value.int .i64 s1c6), (Value.int .i64 s1c7), (Value.slice s1c8a s1c8n s1c8c)]⟩)]) H (RetW Tryz.prog Tryz.f86.results.toList R) := by kernel_rfl
theorem conn_Conn_acknowledged_sh (c0b : Nat) (s1c0 : Int) (s1c1 : Int) (s1c2 : Int) (s1c3 : Int) (s1c4 : Int) (s1c5 : Int) (s1c6 : Int) (s1c7 : Int) (s1c8a : Option Addr) (s1c8n : Nat) (s1c8c : Nat) {H : Heap} {R : Value → Heap → Prop} (h : conn_Conn_acknowledged_p c0b s1c0 s1c1 s1c2 s1c3 s1c4 s1c5 s1c6 s1c7 s1c8a s1c8n s1c8c H fun v H1 => ∀ H2, Shut H H1 H2 → R v H2) : FnW Tryz.prog f_conn_Conn_acknowledged ⟨[(Value.pointer (some ⟨c0b, 0, none⟩)), (Value.agg ⟨[(Value.int .i64 s1c0), (Value.int .i64 s1c1), (Value.int .u32 s1c2), (Value.int .u32 s1c3), (Value.int .i64 s1c4), (Value.int .i64 s1c5), (Value.int .i64 s1c6), (Value.int .i64 s1c7), (Value.slice s1c8a s1c8n s1c8c)]⟩)]⟩ H R := FnW.of_code hk_conn_Conn_acknowledged (by kernel_rfl) (Eq.mp (conn_Conn_acknowledged_heq c0b s1c0 s1c1 s1c2 s1c3 s1c4 s1c5 s1c6 s1c7 s1c8a s1c8n s1c8c H _) h)
def hplan_conn_Conn_data : Plan := ⟨[(6, [0, 1, 2, 3, 4, 5, 6, 7, 8, 10, 11, 12, 13, 9, 14, 15, 16], [34])], [], [], []⟩
theorem hk_conn_Conn_data : Known Tryz.prog f_conn_Conn_data Tryz.f87 hplan_conn_Conn_data (bodyOf Tryz.f87) := ⟨Tryz.func87, by kernel_rfl, by kernel_rfl, by kernel_rfl, by kernel_rfl, by kernel_rfl⟩
def conn_Conn_data_j2 (c0b : Nat) (x37 : Bool) (H6 : Heap) (R : Value → Heap → Prop) : Prop :=
 IfB x37
 (R (Value.tuple ⟨[]⟩) H6)
 (StCell H6 ⟨c0b, 9, none⟩ (Value.bool true) fun H7 =>
 ∃ x45 : Int, H7.cell ⟨c0b, 0, none⟩ = some (Value.int .i64 x45) ∧
 IfB ((x45 : Int) == 3)
 (StCell H7 ⟨c0b, 0, none⟩ (Value.int .i64 6) fun H8 =>
 R (Value.tuple ⟨[]⟩) H8)
 (IfB ((x45 : Int) == 4)
 (StCell H7 ⟨c0b, 0, none⟩ (Value.int .i64 7) fun H9 =>
 R (Value.tuple ⟨[]⟩) H9)
 (IfB ((x45 : Int) == 5)
 (FnW Tryz.prog f_conn_Conn_rest ⟨[(Value.pointer (some ⟨c0b, 0, none⟩))]⟩ H7 fun x59v H10 =>
 x59v = (Value.tuple ⟨[]⟩) ∧
 R (Value.tuple ⟨[]⟩) H10)
 (R (Value.tuple ⟨[]⟩) H7))))
def conn_Conn_data_j1 (c0b : Nat) (s3b : Nat) (H3 : Heap) (R : Value → Heap → Prop) : Prop :=
 ∃ x15 : Option Addr, H3.cell ⟨c0b, 5, none⟩ = some (Value.pointer x15) ∧
 ∃ x17 : Int, H3.cell ⟨s3b, 2, none⟩ = some (Value.int .u32 x17) ∧
 ∃ (x19a : Option Addr) (x19n x19c : Nat), H3.cell ⟨s3b, 8, none⟩ = some (Value.slice x19a x19n x19c) ∧
 FnW Tryz.prog f_join_Joint_Add ⟨[(Value.pointer x15), (Value.int .u32 x17), (Value.slice x19a x19n x19c)]⟩ H3 fun x20v H4 =>
 ∃ x20r0 : Int, ∃ x20r1 : Int, x20v = (Value.tuple ⟨[(Value.int .i64 x20r0), (Value.int .i64 x20r1)]⟩) ∧
 ∃ bs : List Nat, (∀ b ∈ bs, ∃ o, H4 b = some o) ∧
 ∃ x21c0 : Int, H4.cell ⟨s3b, 0, none⟩ = some (Value.int .i64 x21c0) ∧ ∃ x21c1 : Int, H4.cell ⟨s3b, 1, none⟩ = some (Value.int .i64 x21c1) ∧ ∃ x21c2 : Int, H4.cell ⟨s3b, 2, none⟩ = some (Value.int .u32 x21c2) ∧ ∃ x21c3 : Int, H4.cell ⟨s3b, 3, none⟩ = some (Value.int .u32 x21c3) ∧ ∃ x21c4 : Int, H4.cell ⟨s3b, 4, none⟩ = some (Value.int .i64 x21c4) ∧ ∃ x21c5 : Int, H4.cell ⟨s3b, 5, none⟩ = some (Value.int .i64 x21c5) ∧ ∃ x21c6 : Int, H4.cell ⟨s3b, 6, none⟩ = some (Value.int .i64 x21c6) ∧ ∃ x21c7 : Int, H4.cell ⟨s3b, 7, none⟩ = some (Value.int .i64 x21c7) ∧ ∃ (x21c8a : Option Addr) (x21c8n x21c8c : Nat), H4.cell ⟨s3b, 8, none⟩ = some (Value.slice x21c8a x21c8n x21c8c) ∧ FnW Tryz.prog f_conn_has ⟨[(Value.agg ⟨[(Value.int .i64 x21c0), (Value.int .i64 x21c1), (Value.int .u32 x21c2), (Value.int .u32 x21c3), (Value.int .i64 x21c4), (Value.int .i64 x21c5), (Value.int .i64 x21c6), (Value.int .i64 x21c7), (Value.slice x21c8a x21c8n x21c8c)]⟩), (Value.int .i64 1)]⟩ H4 fun x22v H5 =>
 ∃ x22 : Bool, x22v = (Value.bool x22) ∧
 KeptIn bs H4 H5 ∧ IfB (!x22)
 (conn_Conn_data_j2 c0b true H5 R)
 (∃ x26 : Int, H5.cell ⟨s3b, 2, none⟩ = some (Value.int .u32 x26) ∧
 ∃ (x28a : Option Addr) (x28n x28c : Nat), H5.cell ⟨s3b, 8, none⟩ = some (Value.slice x28a x28n x28c) ∧
 c0b ∈ bs ∧ ∃ x34 : Option Addr, H4.cell ⟨c0b, 5, none⟩ = some (Value.pointer x34) ∧
 FnW Tryz.prog f_seq_Add ⟨[(Value.int .u32 x26), (Value.int .i64 (x28n : Int))]⟩ H5 fun x30v H11 =>
 ∃ x30 : Int, x30v = (Value.int .u32 x30) ∧
 KeptIn bs H4 H11 ∧ FnW Tryz.prog f_join_Joint_Next ⟨[(Value.pointer x34)]⟩ H11 fun x35v H12 =>
 ∃ x35 : Int, x35v = (Value.int .u32 x35) ∧
 conn_Conn_data_j2 c0b ((x30 : Int) != x35) H12 R)
def conn_Conn_data_j0 (c0b : Nat) (s3b : Nat) (x8 : Bool) (H2 : Heap) (R : Value → Heap → Prop) : Prop :=
 IfB x8
 (conn_Conn_data_j1 c0b s3b H2 R)
 (R (Value.tuple ⟨[]⟩) H2)
def conn_Conn_data_p (c0b : Nat) (s1c0 : Int) (s1c1 : Int) (s1c2 : Int) (s1c3 : Int) (s1c4 : Int) (s1c5 : Int) (s1c6 : Int) (s1c7 : Int) (s1c8a : Option Addr) (s1c8n : Nat) (s1c8c : Nat) (H : Heap) (R : Value → Heap → Prop) : Prop :=
 NewW H (Obj.cells ⟨[(Value.int .i64 s1c0), (Value.int .i64 s1c1), (Value.int .u32 s1c2), (Value.int .u32 s1c3), (Value.int .i64 s1c4), (Value.int .i64 s1c5), (Value.int .i64 s1c6), (Value.int .i64 s1c7), (Value.slice s1c8a s1c8n s1c8c)]⟩ T_seg_Segment) fun s3b H1 =>
 ∃ x7 : Int, H1.cell ⟨c0b, 0, none⟩ = some (Value.int .i64 x7) ∧
 IfB ((x7 : Int) == 3)
 (conn_Conn_data_j0 c0b s3b ((x7 : Int) == 3) H1 R)
 (IfB ((x7 : Int) == 4)
 (conn_Conn_data_j0 c0b s3b ((x7 : Int) == 4) H1 R)
 (conn_Conn_data_j0 c0b s3b ((x7 : Int) == 5) H1 R))
theorem conn_Conn_data_heq (c0b : Nat) (s1c0 : Int) (s1c1 : Int) (s1c2 : Int) (s1c3 : Int) (s1c4 : Int) (s1c5 : Int) (s1c6 : Int) (s1c7 : Int) (s1c8a : Option Addr) (s1c8n : Nat) (s1c8c : Nat) (H : Heap) (R : Value → Heap → Prop) : conn_Conn_data_p c0b s1c0 s1c1 s1c2 s1c3 s1c4 s1c5 s1c6 s1c7 s1c8a s1c8n s1c8c H R = CodeW Tryz.prog hplan_conn_Conn_data (bodyOf Tryz.f87) (env0 [(Value.pointer (some ⟨c0b, 0, none⟩)), (Value.agg ⟨[(Value.int .i64 s1c0), (Value.int .i64 s1c1), (Value.int .u32 s1c2), (Value.int .u32 s1c3), (Value.int .i64 s1c4), (Value.int .i64 s1c5), (Value.int .i64 s1c6), (Value.int .i64 s1c7), (Value.slice s1c8a s1c8n s1c8c)]⟩)]) H (RetW Tryz.prog Tryz.f87.results.toList R) := by kernel_rfl
theorem conn_Conn_data_sh (c0b : Nat) (s1c0 : Int) (s1c1 : Int) (s1c2 : Int) (s1c3 : Int) (s1c4 : Int) (s1c5 : Int) (s1c6 : Int) (s1c7 : Int) (s1c8a : Option Addr) (s1c8n : Nat) (s1c8c : Nat) {H : Heap} {R : Value → Heap → Prop} (h : conn_Conn_data_p c0b s1c0 s1c1 s1c2 s1c3 s1c4 s1c5 s1c6 s1c7 s1c8a s1c8n s1c8c H fun v H1 => ∀ H2, Shut H H1 H2 → R v H2) : FnW Tryz.prog f_conn_Conn_data ⟨[(Value.pointer (some ⟨c0b, 0, none⟩)), (Value.agg ⟨[(Value.int .i64 s1c0), (Value.int .i64 s1c1), (Value.int .u32 s1c2), (Value.int .u32 s1c3), (Value.int .i64 s1c4), (Value.int .i64 s1c5), (Value.int .i64 s1c6), (Value.int .i64 s1c7), (Value.slice s1c8a s1c8n s1c8c)]⟩)]⟩ H R := FnW.of_code hk_conn_Conn_data (by kernel_rfl) (Eq.mp (conn_Conn_data_heq c0b s1c0 s1c1 s1c2 s1c3 s1c4 s1c5 s1c6 s1c7 s1c8a s1c8n s1c8c H _) h)
def hplan_rto_Estimate_Back : Plan := ⟨[], [], [], []⟩
theorem hk_rto_Estimate_Back : Known Tryz.prog f_rto_Estimate_Back Tryz.f88 hplan_rto_Estimate_Back (bodyOf Tryz.f88) := ⟨Tryz.func88, by kernel_rfl, by kernel_rfl, by kernel_rfl, by kernel_rfl, by kernel_rfl⟩
def rto_Estimate_Back_p (e0b : Nat) (H : Heap) (R : Value → Heap → Prop) : Prop :=
 FnW Tryz.prog f_rto_Estimate_is ⟨[(Value.pointer (some ⟨e0b, 0, none⟩))]⟩ H fun x5v H1 =>
 ∃ x5 : Bool, x5v = (Value.bool x5) ∧
 IfB (!x5)
 (R (Value.int .i64 1) H1)
 (∃ x11 : Int, H1.cell ⟨e0b, 2, none⟩ = some (Value.int .i64 x11) ∧
 IfB ((x11 : Int) == 8)
 (R (Value.int .i64 4) H1)
 (∃ x16 : Int, H1.cell ⟨e0b, 2, none⟩ = some (Value.int .i64 x16) ∧
 StCell H1 ⟨e0b, 2, none⟩ (Value.int .i64 (IntKind.wrap .i64 (x16 + 1))) fun H2 =>
 R (Value.int .i64 0) H2))
theorem rto_Estimate_Back_heq (e0b : Nat) (H : Heap) (R : Value → Heap → Prop) : rto_Estimate_Back_p e0b H R = CodeW Tryz.prog hplan_rto_Estimate_Back (bodyOf Tryz.f88) (env0 [(Value.pointer (some ⟨e0b, 0, none⟩))]) H (RetW Tryz.prog Tryz.f88.results.toList R) := by kernel_rfl
theorem rto_Estimate_Back_sh (e0b : Nat) {H : Heap} {R : Value → Heap → Prop} (h : rto_Estimate_Back_p e0b H fun v H1 => ∀ H2, Shut H H1 H2 → R v H2) : FnW Tryz.prog f_rto_Estimate_Back ⟨[(Value.pointer (some ⟨e0b, 0, none⟩))]⟩ H R := FnW.of_code hk_rto_Estimate_Back (by kernel_rfl) (Eq.mp (rto_Estimate_Back_heq e0b H _) h)
def hplan_send_Outbox_Flight : Plan := ⟨[], [], [], []⟩
theorem hk_send_Outbox_Flight : Known Tryz.prog f_send_Outbox_Flight Tryz.f89 hplan_send_Outbox_Flight (bodyOf Tryz.f89) := ⟨Tryz.func89, by kernel_rfl, by kernel_rfl, by kernel_rfl, by kernel_rfl, by kernel_rfl⟩
def send_Outbox_Flight_p (o0b : Nat) (H : Heap) (R : Value → Heap → Prop) : Prop :=
 FnW Tryz.prog f_send_Outbox_is ⟨[(Value.pointer (some ⟨o0b, 0, none⟩))]⟩ H fun x4v H1 =>
 ∃ x4 : Bool, x4v = (Value.bool x4) ∧
 IfB (!x4)
 (R (Value.int .i64 0) H1)
 (∃ x9 : Int, H1.cell ⟨o0b, 6, none⟩ = some (Value.int .i64 x9) ∧
 R (Value.int .i64 x9) H1)
theorem send_Outbox_Flight_heq (o0b : Nat) (H : Heap) (R : Value → Heap → Prop) : send_Outbox_Flight_p o0b H R = CodeW Tryz.prog hplan_send_Outbox_Flight (bodyOf Tryz.f89) (env0 [(Value.pointer (some ⟨o0b, 0, none⟩))]) H (RetW Tryz.prog Tryz.f89.results.toList R) := by kernel_rfl
theorem send_Outbox_Flight_sh (o0b : Nat) {H : Heap} {R : Value → Heap → Prop} (h : send_Outbox_Flight_p o0b H fun v H1 => ∀ H2, Shut H H1 H2 → R v H2) : FnW Tryz.prog f_send_Outbox_Flight ⟨[(Value.pointer (some ⟨o0b, 0, none⟩))]⟩ H R := FnW.of_code hk_send_Outbox_Flight (by kernel_rfl) (Eq.mp (send_Outbox_Flight_heq o0b H _) h)
def hplan_send_Outbox_Again : Plan := ⟨[(10, [0, 1, 2, 3, 4, 5, 6, 7, 8, 9, 10, 11, 12, 13, 14, 15, 16, 17, 18, 19, 20, 21], [35])], [], [], []⟩
theorem hk_send_Outbox_Again : Known Tryz.prog f_send_Outbox_Again Tryz.f90 hplan_send_Outbox_Again (bodyOf Tryz.f90) := ⟨Tryz.func90, by kernel_rfl, by kernel_rfl, by kernel_rfl, by kernel_rfl, by kernel_rfl⟩
def send_Outbox_Again_p (o0b : Nat) (now1 : Int) (H : Heap) (R : Value → Heap → Prop) : Prop :=
 FnW Tryz.prog f_send_Outbox_at ⟨[(Value.pointer (some ⟨o0b, 0, none⟩)), (Value.int .i64 now1)]⟩ H fun x11v H1 =>
 ∃ x11 : Int, x11v = (Value.int .i64 x11) ∧
 IfB ((x11 : Int) != 0)
 (R (Value.tuple ⟨[(Value.int .u32 0), (Value.slice none 0 0), (Value.int .i64 x11)]⟩) H1)
 (∃ x18 : Int, H1.cell ⟨o0b, 6, none⟩ = some (Value.int .i64 x18) ∧
 IfB ((x18 : Int) == 0)
 (R (Value.tuple ⟨[(Value.int .u32 0), (Value.slice none 0 0), (Value.int .i64 5)]⟩) H1)
 (∃ x23 : Option Addr, H1.cell ⟨o0b, 0, none⟩ = some (Value.pointer x23) ∧
 FnW Tryz.prog f_rto_Estimate_Back ⟨[(Value.pointer x23)]⟩ H1 fun x24v H2 =>
 ∃ x24 : Int, x24v = (Value.int .i64 x24) ∧
 IfB ((x24 : Int) != 0)
 (R (Value.tuple ⟨[(Value.int .u32 0), (Value.slice none 0 0), (Value.int .i64 x24)]⟩) H2)
 (StCell H2 ⟨o0b, 1, none⟩ (Value.bool false) fun H3 =>
 ∃ bs : List Nat, (∀ b ∈ bs, ∃ o, H3 b = some o) ∧
 o0b ∈ bs ∧ ∃ x35 : Int, H3.cell ⟨o0b, 4, none⟩ = some (Value.int .u32 x35) ∧
 ∃ (x39a : Option Addr) (x39n x39c : Nat), H3.cell ⟨o0b, 5, none⟩ = some (Value.slice x39a x39n x39c) ∧
 ∃ x43 : Int, H3.cell ⟨o0b, 6, none⟩ = some (Value.int .i64 x43) ∧
 ∃ x47 : Int, H3.cell ⟨o0b, 9, none⟩ = some (Value.int .i64 x47) ∧
 InC (min x43 x47) x39c fun x49h =>
 FnW Tryz.prog f_slices_Cloneasl_byte_byte ⟨[(Value.slice x39a x49h x39c)]⟩ H3 fun x50v H4 =>
 ∃ (x50a : Option Addr) (x50n x50c : Nat), x50v = (Value.slice x50a x50n x50c) ∧
 KeptIn bs H3 H4 ∧ R (Value.tuple ⟨[(Value.int .u32 x35), (Value.slice x50a x50n x50c), (Value.int .i64 0)]⟩) H4)))
theorem send_Outbox_Again_heq (o0b : Nat) (now1 : Int) (H : Heap) (R : Value → Heap → Prop) : send_Outbox_Again_p o0b now1 H R = CodeW Tryz.prog hplan_send_Outbox_Again (bodyOf Tryz.f90) (env0 [(Value.pointer (some ⟨o0b, 0, none⟩)), (Value.int .i64 now1)]) H (RetW Tryz.prog Tryz.f90.results.toList R) := by kernel_rfl
theorem send_Outbox_Again_sh (o0b : Nat) (now1 : Int) {H : Heap} {R : Value → Heap → Prop} (h : send_Outbox_Again_p o0b now1 H fun v H1 => ∀ H2, Shut H H1 H2 → R v H2) : FnW Tryz.prog f_send_Outbox_Again ⟨[(Value.pointer (some ⟨o0b, 0, none⟩)), (Value.int .i64 now1)]⟩ H R := FnW.of_code hk_send_Outbox_Again (by kernel_rfl) (Eq.mp (send_Outbox_Again_heq o0b now1 H _) h)
def hplan_conn_Conn_bye : Plan := ⟨[], [], [], []⟩
theorem hk_conn_Conn_bye : Known Tryz.prog f_conn_Conn_bye Tryz.f91 hplan_conn_Conn_bye (bodyOf Tryz.f91) := ⟨Tryz.func91, by kernel_rfl, by kernel_rfl, by kernel_rfl, by kernel_rfl, by kernel_rfl⟩
def conn_Conn_bye_p (c0b : Nat) (H : Heap) (R : Value → Heap → Prop) : Prop :=
 ∃ x6 : Option Addr, H.cell ⟨c0b, 4, none⟩ = some (Value.pointer x6) ∧
 FnW Tryz.prog f_send_Outbox_Next ⟨[(Value.pointer x6)]⟩ H fun x7v H1 =>
 ∃ x7 : Int, x7v = (Value.int .u32 x7) ∧
 FnW Tryz.prog f_conn_Conn_say ⟨[(Value.pointer (some ⟨c0b, 0, none⟩)), (Value.int .u32 x7), (Value.int .i64 17), (Value.slice none 0 0)]⟩ H1 fun x8v H2 =>
 ∃ x8 : Option Addr, x8v = (Value.pointer x8) ∧
 R (Value.tuple ⟨[]⟩) H2
theorem conn_Conn_bye_heq (c0b : Nat) (H : Heap) (R : Value → Heap → Prop) : conn_Conn_bye_p c0b H R = CodeW Tryz.prog hplan_conn_Conn_bye (bodyOf Tryz.f91) (env0 [(Value.pointer (some ⟨c0b, 0, none⟩))]) H (RetW Tryz.prog Tryz.f91.results.toList R) := by kernel_rfl
theorem conn_Conn_bye_sh (c0b : Nat) {H : Heap} {R : Value → Heap → Prop} (h : conn_Conn_bye_p c0b H fun v H1 => ∀ H2, Shut H H1 H2 → R v H2) : FnW Tryz.prog f_conn_Conn_bye ⟨[(Value.pointer (some ⟨c0b, 0, none⟩))]⟩ H R := FnW.of_code hk_conn_Conn_bye (by kernel_rfl) (Eq.mp (conn_Conn_bye_heq c0b H _) h)
def hplan_send_Outbox_Probe : Plan := ⟨[], [], [], []⟩
theorem hk_send_Outbox_Probe : Known Tryz.prog f_send_Outbox_Probe Tryz.f92 hplan_send_Outbox_Probe (bodyOf Tryz.f92) := ⟨Tryz.func92, by kernel_rfl, by kernel_rfl, by kernel_rfl, by kernel_rfl, by kernel_rfl⟩
def send_Outbox_Probe_j0 (o0b : Nat) (x25 : Bool) (H2 : Heap) (R : Value → Heap → Prop) : Prop :=
 IfB x25
 (R (Value.tuple ⟨[(Value.int .u32 0), (Value.slice none 0 0), (Value.int .i64 5)]⟩) H2)
 (∃ (x30a : Option Addr) (x30n x30c : Nat), H2.cell ⟨o0b, 5, none⟩ = some (Value.slice x30a x30n x30c) ∧
 FnW Tryz.prog f_send_Outbox_first ⟨[(Value.pointer (some ⟨o0b, 0, none⟩)), (Value.int .i64 (min 1 (x30n : Int)))]⟩ H2 fun x33v H3 =>
 ∃ x33r0 : Int, ∃ (x33r1a : Option Addr) (x33r1n x33r1c : Nat), ∃ x33r2 : Int, x33v = (Value.tuple ⟨[(Value.int .u32 x33r0), (Value.slice x33r1a x33r1n x33r1c), (Value.int .i64 x33r2)]⟩) ∧
 R (Value.tuple ⟨[(Value.int .u32 x33r0), (Value.slice x33r1a x33r1n x33r1c), (Value.int .i64 x33r2)]⟩) H3)
def send_Outbox_Probe_p (o0b : Nat) (now1 : Int) (H : Heap) (R : Value → Heap → Prop) : Prop :=
 FnW Tryz.prog f_send_Outbox_at ⟨[(Value.pointer (some ⟨o0b, 0, none⟩)), (Value.int .i64 now1)]⟩ H fun x10v H1 =>
 ∃ x10 : Int, x10v = (Value.int .i64 x10) ∧
 IfB ((x10 : Int) != 0)
 (R (Value.tuple ⟨[(Value.int .u32 0), (Value.slice none 0 0), (Value.int .i64 x10)]⟩) H1)
 (∃ x17 : Int, H1.cell ⟨o0b, 8, none⟩ = some (Value.int .i64 x17) ∧
 IfB (decide ((x17 : Int) > 0))
 (send_Outbox_Probe_j0 o0b true H1 R)
 (∃ x23 : Int, H1.cell ⟨o0b, 6, none⟩ = some (Value.int .i64 x23) ∧
 send_Outbox_Probe_j0 o0b (decide ((x23 : Int) > 0)) H1 R))
theorem send_Outbox_Probe_heq (o0b : Nat) (now1 : Int) (H : Heap) (R : Value → Heap → Prop) : send_Outbox_Probe_p o0b now1 H R = CodeW Tryz.prog hplan_send_Outbox_Probe (bodyOf Tryz.f92) (env0 [(Value.pointer (some ⟨o0b, 0, none⟩)), (Value.int .i64 now1)]) H (RetW Tryz.prog Tryz.f92.results.toList R) := by kernel_rfl
theorem send_Outbox_Probe_sh (o0b : Nat) (now1 : Int) {H : Heap} {R : Value → Heap → Prop} (h : send_Outbox_Probe_p o0b now1 H fun v H1 => ∀ H2, Shut H H1 H2 → R v H2) : FnW Tryz.prog f_send_Outbox_Probe ⟨[(Value.pointer (some ⟨o0b, 0, none⟩)), (Value.int .i64 now1)]⟩ H R := FnW.of_code hk_send_Outbox_Probe (by kernel_rfl) (Eq.mp (send_Outbox_Probe_heq o0b now1 H _) h)
def hplan_send_Outbox_is : Plan := ⟨[], [], [], []⟩
theorem hk_send_Outbox_is : Known Tryz.prog f_send_Outbox_is Tryz.f93 hplan_send_Outbox_is (bodyOf Tryz.f93) := ⟨Tryz.func93, by kernel_rfl, by kernel_rfl, by kernel_rfl, by kernel_rfl, by kernel_rfl⟩
def send_Outbox_is_p (o0b : Nat) (H : Heap) (R : Value → Heap → Prop) : Prop :=
 ∃ x9 : Option Addr, H.cell ⟨o0b, 0, none⟩ = some (Value.pointer x9) ∧
 R (Value.bool (!x9.isNone)) H
theorem send_Outbox_is_heq (o0b : Nat) (H : Heap) (R : Value → Heap → Prop) : send_Outbox_is_p o0b H R = CodeW Tryz.prog hplan_send_Outbox_is (bodyOf Tryz.f93) (env0 [(Value.pointer (some ⟨o0b, 0, none⟩))]) H (RetW Tryz.prog Tryz.f93.results.toList R) := by kernel_rfl
theorem send_Outbox_is_sh (o0b : Nat) {H : Heap} {R : Value → Heap → Prop} (h : send_Outbox_is_p o0b H fun v H1 => ∀ H2, Shut H H1 H2 → R v H2) : FnW Tryz.prog f_send_Outbox_is ⟨[(Value.pointer (some ⟨o0b, 0, none⟩))]⟩ H R := FnW.of_code hk_send_Outbox_is (by kernel_rfl) (Eq.mp (send_Outbox_is_heq o0b H _) h)
def hplan_slices_Concatasl_byte_byte : Plan := ⟨[], [(3, [3, 11], [.int .i64, .int .i64], [0, 9, 10]), (11, [6, 27], [.slice, .int .i64], [25, 26])], [], []⟩
theorem hk_slices_Concatasl_byte_byte : Known Tryz.prog f_slices_Concatasl_byte_byte Tryz.f94 hplan_slices_Concatasl_byte_byte (bodyOf Tryz.f94) := ⟨Tryz.func94, by kernel_rfl, by kernel_rfl, by kernel_rfl, by kernel_rfl, by kernel_rfl⟩
def slices_Concatasl_byte_byte_l11 (slices0a : Option Addr) (slices0n : Nat) (slices0c : Nat) (next3 : (Int × Int × Unit) → Heap → Prop) (newslice6a : Option Addr) (newslice6n : Nat) (newslice6c : Nat) (x27 : Int) (H3 : Heap) (next11 : ((Option Addr × Nat × Nat) × Int × Unit) → Heap → Prop) (R : Value → Heap → Prop) : Prop :=
 IfB (decide ((x27 : Int) < (slices0n : Int)))
 (NilP slices0a fun x29q =>
 InB x27 slices0n fun x29i =>
 elemAt x29q x29i 1 fun x29p =>
 ∃ (x30a : Option Addr) (x30n x30c : Nat), H3.cell x29p = some (Value.slice x30a x30n x30c) ∧
 AppW Tryz.prog #[T_sl_uint8, T_sl_uint8] T_sl_uint8 [(Value.slice newslice6a newslice6n newslice6c), (Value.slice x30a x30n x30c)] H3 fun x33v H4 =>
 ∃ (x33a : Option Addr) (x33n x33c : Nat), x33v = (Value.slice x33a x33n x33c) ∧
 next11 ((x33a, x33n, x33c), ((IntKind.wrap .i64 (x27 + 1)), ())) H4)
 (R (Value.slice newslice6a newslice6n newslice6c) H3)
def slices_Concatasl_byte_byte_l3 (slices0a : Option Addr) (slices0n : Nat) (slices0c : Nat) (size3 : Int) (x11 : Int) (H1 : Heap) (next3 : (Int × Int × Unit) → Heap → Prop) (R : Value → Heap → Prop) : Prop :=
 IfB (decide ((x11 : Int) < (slices0n : Int)))
 (NilP slices0a fun x13q =>
 InB x11 slices0n fun x13i =>
 elemAt x13q x13i 1 fun x13p =>
 ∃ (x14a : Option Addr) (x14n x14c : Nat), H1.cell x13p = some (Value.slice x14a x14n x14c) ∧
 IfB (decide (((IntKind.wrap .i64 (size3 + (x14n : Int))) : Int) < 0))
 (False)
 (next3 ((IntKind.wrap .i64 (size3 + (x14n : Int))), ((IntKind.wrap .i64 (x11 + 1)), ())) H1))
 (FnW Tryz.prog f_slices_Growasl_byte_byte ⟨[(Value.slice none 0 0), (Value.int .i64 size3)]⟩ H1 fun x24v H2 =>
 ∃ (x24a : Option Addr) (x24n x24c : Nat), x24v = (Value.slice x24a x24n x24c) ∧
 LoopI ((Option Addr × Nat × Nat) × Int × Unit) ((x24a, x24n, x24c), (0, ())) H2 fun x H next => ∀ _g : Env, slices_Concatasl_byte_byte_l11 slices0a slices0n slices0c next3 x.1.1 x.1.2.1 x.1.2.2 x.2.1 H next R)
def slices_Concatasl_byte_byte_p (slices0a : Option Addr) (slices0n : Nat) (slices0c : Nat) (H : Heap) (R : Value → Heap → Prop) : Prop :=
 LoopI (Int × Int × Unit) (0, (0, ())) H fun x H next => ∀ _g : Env, slices_Concatasl_byte_byte_l3 slices0a slices0n slices0c x.1 x.2.1 H next R
theorem slices_Concatasl_byte_byte_heq (slices0a : Option Addr) (slices0n : Nat) (slices0c : Nat) (H : Heap) (R : Value → Heap → Prop) : slices_Concatasl_byte_byte_p slices0a slices0n slices0c H R = CodeW Tryz.prog hplan_slices_Concatasl_byte_byte (bodyOf Tryz.f94) (env0 [(Value.slice slices0a slices0n slices0c)]) H (RetW Tryz.prog Tryz.f94.results.toList R) := by kernel_rfl
theorem slices_Concatasl_byte_byte_sh (slices0a : Option Addr) (slices0n : Nat) (slices0c : Nat) {H : Heap} {R : Value → Heap → Prop} (h : slices_Concatasl_byte_byte_p slices0a slices0n slices0c H fun v H1 => ∀ H2, Shut H H1 H2 → R v H2) : FnW Tryz.prog f_slices_Concatasl_byte_byte ⟨[(Value.slice slices0a slices0n slices0c)]⟩ H R := FnW.of_code hk_slices_Concatasl_byte_byte (by kernel_rfl) (Eq.mp (slices_Concatasl_byte_byte_heq slices0a slices0n slices0c H _) h)
def hplan_send_Outbox_Send : Plan := ⟨[], [], [], []⟩
theorem hk_send_Outbox_Send : Known Tryz.prog f_send_Outbox_Send Tryz.f95 hplan_send_Outbox_Send (bodyOf Tryz.f95) := ⟨Tryz.func95, by kernel_rfl, by kernel_rfl, by kernel_rfl, by kernel_rfl, by kernel_rfl⟩
def send_Outbox_Send_p (o0b : Nat) (now1 : Int) (H : Heap) (R : Value → Heap → Prop) : Prop :=
 FnW Tryz.prog f_send_Outbox_at ⟨[(Value.pointer (some ⟨o0b, 0, none⟩)), (Value.int .i64 now1)]⟩ H fun x10v H1 =>
 ∃ x10 : Int, x10v = (Value.int .i64 x10) ∧
 IfB ((x10 : Int) != 0)
 (R (Value.tuple ⟨[(Value.int .u32 0), (Value.slice none 0 0), (Value.int .i64 x10)]⟩) H1)
 (∃ x18 : Int, H1.cell ⟨o0b, 9, none⟩ = some (Value.int .i64 x18) ∧
 ∃ (x22a : Option Addr) (x22n x22c : Nat), H1.cell ⟨o0b, 5, none⟩ = some (Value.slice x22a x22n x22c) ∧
 ∃ x27 : Int, H1.cell ⟨o0b, 6, none⟩ = some (Value.int .i64 x27) ∧
 ∃ x32 : Int, H1.cell ⟨o0b, 8, none⟩ = some (Value.int .i64 x32) ∧
 ∃ x36 : Int, H1.cell ⟨o0b, 6, none⟩ = some (Value.int .i64 x36) ∧
 FnW Tryz.prog f_send_Outbox_first ⟨[(Value.pointer (some ⟨o0b, 0, none⟩)), (Value.int .i64 (min (min x18 (IntKind.wrap .i64 ((x22n : Int) - x27))) (IntKind.wrap .i64 (x32 - x36))))]⟩ H1 fun x39v H2 =>
 ∃ x39r0 : Int, ∃ (x39r1a : Option Addr) (x39r1n x39r1c : Nat), ∃ x39r2 : Int, x39v = (Value.tuple ⟨[(Value.int .u32 x39r0), (Value.slice x39r1a x39r1n x39r1c), (Value.int .i64 x39r2)]⟩) ∧
 R (Value.tuple ⟨[(Value.int .u32 x39r0), (Value.slice x39r1a x39r1n x39r1c), (Value.int .i64 x39r2)]⟩) H2)
theorem send_Outbox_Send_heq (o0b : Nat) (now1 : Int) (H : Heap) (R : Value → Heap → Prop) : send_Outbox_Send_p o0b now1 H R = CodeW Tryz.prog hplan_send_Outbox_Send (bodyOf Tryz.f95) (env0 [(Value.pointer (some ⟨o0b, 0, none⟩)), (Value.int .i64 now1)]) H (RetW Tryz.prog Tryz.f95.results.toList R) := by kernel_rfl
theorem send_Outbox_Send_sh (o0b : Nat) (now1 : Int) {H : Heap} {R : Value → Heap → Prop} (h : send_Outbox_Send_p o0b now1 H fun v H1 => ∀ H2, Shut H H1 H2 → R v H2) : FnW Tryz.prog f_send_Outbox_Send ⟨[(Value.pointer (some ⟨o0b, 0, none⟩)), (Value.int .i64 now1)]⟩ H R := FnW.of_code hk_send_Outbox_Send (by kernel_rfl) (Eq.mp (send_Outbox_Send_heq o0b now1 H _) h)
def hplan_join_Joint_is : Plan := ⟨[], [], [], []⟩
theorem hk_join_Joint_is : Known Tryz.prog f_join_Joint_is Tryz.f96 hplan_join_Joint_is (bodyOf Tryz.f96) := ⟨Tryz.func96, by kernel_rfl, by kernel_rfl, by kernel_rfl, by kernel_rfl, by kernel_rfl⟩
def join_Joint_is_p (j0b : Nat) (H : Heap) (R : Value → Heap → Prop) : Prop :=
 ∃ (x9a : Option Addr) (x9n x9c : Nat), H.cell ⟨j0b, 2, none⟩ = some (Value.slice x9a x9n x9c) ∧
 R (Value.bool (!x9a.isNone)) H
theorem join_Joint_is_heq (j0b : Nat) (H : Heap) (R : Value → Heap → Prop) : join_Joint_is_p j0b H R = CodeW Tryz.prog hplan_join_Joint_is (bodyOf Tryz.f96) (env0 [(Value.pointer (some ⟨j0b, 0, none⟩))]) H (RetW Tryz.prog Tryz.f96.results.toList R) := by kernel_rfl
theorem join_Joint_is_sh (j0b : Nat) {H : Heap} {R : Value → Heap → Prop} (h : join_Joint_is_p j0b H fun v H1 => ∀ H2, Shut H H1 H2 → R v H2) : FnW Tryz.prog f_join_Joint_is ⟨[(Value.pointer (some ⟨j0b, 0, none⟩))]⟩ H R := FnW.of_code hk_join_Joint_is (by kernel_rfl) (Eq.mp (join_Joint_is_heq j0b H _) h)
def join_Joint_is_nil_p (H : Heap) (R : Value → Heap → Prop) : Prop :=
 R (Value.bool false) H
theorem join_Joint_is_nil_heq  (H : Heap) (R : Value → Heap → Prop) : join_Joint_is_nil_p  H R = CodeW Tryz.prog hplan_join_Joint_is (bodyOf Tryz.f96) (env0 [(Value.pointer none)]) H (RetW Tryz.prog Tryz.f96.results.toList R) := by kernel_rfl
theorem join_Joint_is_nil_sh  {H : Heap} {R : Value → Heap → Prop} (h : join_Joint_is_nil_p  H fun v H1 => ∀ H2, Shut H H1 H2 → R v H2) : FnW Tryz.prog f_join_Joint_is ⟨[(Value.pointer none)]⟩ H R := FnW.of_code hk_join_Joint_is (by kernel_rfl) (Eq.mp (join_Joint_is_nil_heq  H _) h)
def hplan_slices_Cloneasl_byte_byte : Plan := ⟨[], [], [], []⟩
theorem hk_slices_Cloneasl_byte_byte : Known Tryz.prog f_slices_Cloneasl_byte_byte Tryz.f97 hplan_slices_Cloneasl_byte_byte (bodyOf Tryz.f97) := ⟨Tryz.func97, by kernel_rfl, by kernel_rfl, by kernel_rfl, by kernel_rfl, by kernel_rfl⟩
def slices_Cloneasl_byte_byte_p (s0a : Option Addr) (s0n : Nat) (s0c : Nat) (H : Heap) (R : Value → Heap → Prop) : Prop :=
 IfB s0a.isNone
 (R (Value.slice none 0 0) H)
 (NewW H (Obj.cells ⟨[]⟩ T_uint8) fun x5b H1 =>
 AppW Tryz.prog #[T_sl_uint8, T_sl_uint8] T_sl_uint8 [(Value.slice (some ⟨x5b, 0, none⟩) 0 0), (Value.slice s0a s0n s0c)] H1 fun x7v H2 =>
 ∃ (x7a : Option Addr) (x7n x7c : Nat), x7v = (Value.slice x7a x7n x7c) ∧
 R (Value.slice x7a x7n x7c) H2)
theorem slices_Cloneasl_byte_byte_heq (s0a : Option Addr) (s0n : Nat) (s0c : Nat) (H : Heap) (R : Value → Heap → Prop) : slices_Cloneasl_byte_byte_p s0a s0n s0c H R = CodeW Tryz.prog hplan_slices_Cloneasl_byte_byte (bodyOf Tryz.f97) (env0 [(Value.slice s0a s0n s0c)]) H (RetW Tryz.prog Tryz.f97.results.toList R) := by kernel_rfl
theorem slices_Cloneasl_byte_byte_sh (s0a : Option Addr) (s0n : Nat) (s0c : Nat) {H : Heap} {R : Value → Heap → Prop} (h : slices_Cloneasl_byte_byte_p s0a s0n s0c H fun v H1 => ∀ H2, Shut H H1 H2 → R v H2) : FnW Tryz.prog f_slices_Cloneasl_byte_byte ⟨[(Value.slice s0a s0n s0c)]⟩ H R := FnW.of_code hk_slices_Cloneasl_byte_byte (by kernel_rfl) (Eq.mp (slices_Cloneasl_byte_byte_heq s0a s0n s0c H _) h)
def hplan_join_New : Plan := ⟨[], [], [], []⟩
theorem hk_join_New : Known Tryz.prog f_join_New Tryz.f98 hplan_join_New (bodyOf Tryz.f98) := ⟨Tryz.func98, by kernel_rfl, by kernel_rfl, by kernel_rfl, by kernel_rfl, by kernel_rfl⟩
def join_New_j0 (next0 : Int) (room1 : Int) (x11 : Bool) (H1 : Heap) (R : Value → Heap → Prop) : Prop :=
 IfB x11
 (R (Value.tuple ⟨[(Value.pointer none), (Value.int .i64 2)]⟩) H1)
 (MakeW Tryz.prog T_sl_uint8 (Value.int .i64 room1) (Value.int .i64 room1) H1 fun x14v H2 =>
 ∃ (x14a : Option Addr) (x14n x14c : Nat), x14v = (Value.slice x14a x14n x14c) ∧
 MakeW Tryz.prog T_sl_bool (Value.int .i64 room1) (Value.int .i64 room1) H2 fun x16v H3 =>
 ∃ (x16a : Option Addr) (x16n x16c : Nat), x16v = (Value.slice x16a x16n x16c) ∧
 NewW H3 (Obj.cells ⟨[(Value.int .u32 next0), (Value.int .i64 0), (Value.slice x14a x14n x14c), (Value.slice x16a x16n x16c), (Value.int .i64 0), (Value.slice none 0 0)]⟩ T_join_Joint) fun x18b H4 =>
 R (Value.tuple ⟨[(Value.pointer (some ⟨x18b, 0, none⟩)), (Value.int .i64 0)]⟩) H4)
def join_New_p (next0 : Int) (room1 : Int) (H : Heap) (R : Value → Heap → Prop) : Prop :=
 IfB (decide ((room1 : Int) < 1))
 (join_New_j0 next0 room1 true H R)
 (join_New_j0 next0 room1 (decide ((room1 : Int) > 65535)) H R)
theorem join_New_heq (next0 : Int) (room1 : Int) (H : Heap) (R : Value → Heap → Prop) : join_New_p next0 room1 H R = CodeW Tryz.prog hplan_join_New (bodyOf Tryz.f98) (env0 [(Value.int .u32 next0), (Value.int .i64 room1)]) H (RetW Tryz.prog Tryz.f98.results.toList R) := by kernel_rfl
theorem join_New_sh (next0 : Int) (room1 : Int) {H : Heap} {R : Value → Heap → Prop} (h : join_New_p next0 room1 H fun v H1 => ∀ H2, Shut H H1 H2 → R v H2) : FnW Tryz.prog f_join_New ⟨[(Value.int .u32 next0), (Value.int .i64 room1)]⟩ H R := FnW.of_code hk_join_New (by kernel_rfl) (Eq.mp (join_New_heq next0 room1 H _) h)
def hplan_conn_greatest : Plan := ⟨[], [], [], []⟩
theorem hk_conn_greatest : Known Tryz.prog f_conn_greatest Tryz.f99 hplan_conn_greatest (bodyOf Tryz.f99) := ⟨Tryz.func99, by kernel_rfl, by kernel_rfl, by kernel_rfl, by kernel_rfl, by kernel_rfl⟩
def conn_greatest_p (s0c0 : Int) (s0c1 : Int) (s0c2 : Int) (s0c3 : Int) (s0c4 : Int) (s0c5 : Int) (s0c6 : Int) (s0c7 : Int) (s0c8a : Option Addr) (s0c8n : Nat) (s0c8c : Nat) (H : Heap) (R : Value → Heap → Prop) : Prop :=
 NewW H (Obj.cells ⟨[(Value.int .i64 s0c0), (Value.int .i64 s0c1), (Value.int .u32 s0c2), (Value.int .u32 s0c3), (Value.int .i64 s0c4), (Value.int .i64 s0c5), (Value.int .i64 s0c6), (Value.int .i64 s0c7), (Value.slice s0c8a s0c8n s0c8c)]⟩ T_seg_Segment) fun s1b H1 =>
 ∃ x4 : Int, H1.cell ⟨s1b, 7, none⟩ = some (Value.int .i64 x4) ∧
 IfB ((x4 : Int) == 0)
 (R (Value.int .i64 536) H1)
 (∃ x7 : Int, H1.cell ⟨s1b, 7, none⟩ = some (Value.int .i64 x7) ∧
 R (Value.int .i64 (min x7 1460)) H1)
theorem conn_greatest_heq (s0c0 : Int) (s0c1 : Int) (s0c2 : Int) (s0c3 : Int) (s0c4 : Int) (s0c5 : Int) (s0c6 : Int) (s0c7 : Int) (s0c8a : Option Addr) (s0c8n : Nat) (s0c8c : Nat) (H : Heap) (R : Value → Heap → Prop) : conn_greatest_p s0c0 s0c1 s0c2 s0c3 s0c4 s0c5 s0c6 s0c7 s0c8a s0c8n s0c8c H R = CodeW Tryz.prog hplan_conn_greatest (bodyOf Tryz.f99) (env0 [(Value.agg ⟨[(Value.int .i64 s0c0), (Value.int .i64 s0c1), (Value.int .u32 s0c2), (Value.int .u32 s0c3), (Value.int .i64 s0c4), (Value.int .i64 s0c5), (Value.int .i64 s0c6), (Value.int .i64 s0c7), (Value.slice s0c8a s0c8n s0c8c)]⟩)]) H (RetW Tryz.prog Tryz.f99.results.toList R) := by kernel_rfl
theorem conn_greatest_sh (s0c0 : Int) (s0c1 : Int) (s0c2 : Int) (s0c3 : Int) (s0c4 : Int) (s0c5 : Int) (s0c6 : Int) (s0c7 : Int) (s0c8a : Option Addr) (s0c8n : Nat) (s0c8c : Nat) {H : Heap} {R : Value → Heap → Prop} (h : conn_greatest_p s0c0 s0c1 s0c2 s0c3 s0c4 s0c5 s0c6 s0c7 s0c8a s0c8n s0c8c H fun v H1 => ∀ H2, Shut H H1 H2 → R v H2) : FnW Tryz.prog f_conn_greatest ⟨[(Value.agg ⟨[(Value.int .i64 s0c0), (Value.int .i64 s0c1), (Value.int .u32 s0c2), (Value.int .u32 s0c3), (Value.int .i64 s0c4), (Value.int .i64 s0c5), (Value.int .i64 s0c6), (Value.int .i64 s0c7), (Value.slice s0c8a s0c8n s0c8c)]⟩)]⟩ H R := FnW.of_code hk_conn_greatest (by kernel_rfl) (Eq.mp (conn_greatest_heq s0c0 s0c1 s0c2 s0c3 s0c4 s0c5 s0c6 s0c7 s0c8a s0c8n s0c8c H _) h)
def hplan_send_New : Plan := ⟨[], [], [], []⟩
theorem hk_send_New : Known Tryz.prog f_send_New Tryz.f100 hplan_send_New (bodyOf Tryz.f100) := ⟨Tryz.func100, by kernel_rfl, by kernel_rfl, by kernel_rfl, by kernel_rfl, by kernel_rfl⟩
def send_New_j0 (una0 : Int) (room1 : Int) (window2 : Int) (greatest3 : Int) (x22 : Bool) (H2 : Heap) (R : Value → Heap → Prop) : Prop :=
 IfB x22
 (R (Value.tuple ⟨[(Value.pointer none), (Value.int .i64 2)]⟩) H2)
 (FnW Tryz.prog f_rto_New ⟨[]⟩ H2 fun x23v H3 =>
 ∃ x23 : Option Addr, x23v = (Value.pointer x23) ∧
 NewW H3 (Obj.cells ⟨[(Value.pointer x23), (Value.bool false), (Value.int .u32 0), (Value.int .i64 0), (Value.int .u32 una0), (Value.slice none 0 0), (Value.int .i64 0), (Value.int .i64 room1), (Value.int .i64 window2), (Value.int .i64 greatest3), (Value.int .i64 0)]⟩ T_send_Outbox) fun x29b H4 =>
 R (Value.tuple ⟨[(Value.pointer (some ⟨x29b, 0, none⟩)), (Value.int .i64 0)]⟩) H4)
def send_New_p (una0 : Int) (room1 : Int) (window2 : Int) (greatest3 : Int) (H : Heap) (R : Value → Heap → Prop) : Prop :=
 FnW Tryz.prog f_send_within ⟨[(Value.int .i64 room1), (Value.int .i64 1)]⟩ H fun x11v H1 =>
 ∃ x11 : Bool, x11v = (Value.bool x11) ∧
 IfB (!x11)
 (send_New_j0 una0 room1 window2 greatest3 true H1 R)
 (FnW Tryz.prog f_send_within ⟨[(Value.int .i64 window2), (Value.int .i64 0)]⟩ H1 fun x15v H5 =>
 ∃ x15 : Bool, x15v = (Value.bool x15) ∧
 IfB (!x15)
 (send_New_j0 una0 room1 window2 greatest3 true H5 R)
 (FnW Tryz.prog f_send_within ⟨[(Value.int .i64 greatest3), (Value.int .i64 1)]⟩ H5 fun x20v H6 =>
 ∃ x20 : Bool, x20v = (Value.bool x20) ∧
 send_New_j0 una0 room1 window2 greatest3 (!x20) H6 R))
theorem send_New_heq (una0 : Int) (room1 : Int) (window2 : Int) (greatest3 : Int) (H : Heap) (R : Value → Heap → Prop) : send_New_p una0 room1 window2 greatest3 H R = CodeW Tryz.prog hplan_send_New (bodyOf Tryz.f100) (env0 [(Value.int .u32 una0), (Value.int .i64 room1), (Value.int .i64 window2), (Value.int .i64 greatest3)]) H (RetW Tryz.prog Tryz.f100.results.toList R) := by kernel_rfl
theorem send_New_sh (una0 : Int) (room1 : Int) (window2 : Int) (greatest3 : Int) {H : Heap} {R : Value → Heap → Prop} (h : send_New_p una0 room1 window2 greatest3 H fun v H1 => ∀ H2, Shut H H1 H2 → R v H2) : FnW Tryz.prog f_send_New ⟨[(Value.int .u32 una0), (Value.int .i64 room1), (Value.int .i64 window2), (Value.int .i64 greatest3)]⟩ H R := FnW.of_code hk_send_New (by kernel_rfl) (Eq.mp (send_New_heq una0 room1 window2 greatest3 H _) h)
def hplan_send_Outbox_Window : Plan := ⟨[], [], [], []⟩
theorem hk_send_Outbox_Window : Known Tryz.prog f_send_Outbox_Window Tryz.f101 hplan_send_Outbox_Window (bodyOf Tryz.f101) := ⟨Tryz.func101, by kernel_rfl, by kernel_rfl, by kernel_rfl, by kernel_rfl, by kernel_rfl⟩
def send_Outbox_Window_p (o0b : Nat) (H : Heap) (R : Value → Heap → Prop) : Prop :=
 FnW Tryz.prog f_send_Outbox_is ⟨[(Value.pointer (some ⟨o0b, 0, none⟩))]⟩ H fun x4v H1 =>
 ∃ x4 : Bool, x4v = (Value.bool x4) ∧
 IfB (!x4)
 (R (Value.int .i64 0) H1)
 (∃ x9 : Int, H1.cell ⟨o0b, 8, none⟩ = some (Value.int .i64 x9) ∧
 R (Value.int .i64 x9) H1)
theorem send_Outbox_Window_heq (o0b : Nat) (H : Heap) (R : Value → Heap → Prop) : send_Outbox_Window_p o0b H R = CodeW Tryz.prog hplan_send_Outbox_Window (bodyOf Tryz.f101) (env0 [(Value.pointer (some ⟨o0b, 0, none⟩))]) H (RetW Tryz.prog Tryz.f101.results.toList R) := by kernel_rfl
theorem send_Outbox_Window_sh (o0b : Nat) {H : Heap} {R : Value → Heap → Prop} (h : send_Outbox_Window_p o0b H fun v H1 => ∀ H2, Shut H H1 H2 → R v H2) : FnW Tryz.prog f_send_Outbox_Window ⟨[(Value.pointer (some ⟨o0b, 0, none⟩))]⟩ H R := FnW.of_code hk_send_Outbox_Window (by kernel_rfl) (Eq.mp (send_Outbox_Window_heq o0b H _) h)
def hplan_rto_Estimate_Wait : Plan := ⟨[], [(2000000, [3, 4], [.int .i64, .int .i64], [])], [], []⟩
theorem hk_rto_Estimate_Wait : Known Tryz.prog f_rto_Estimate_Wait Tryz.f102 hplan_rto_Estimate_Wait (bodyOf Tryz.f102) := ⟨Tryz.func102, by kernel_rfl, by kernel_rfl, by kernel_rfl, by kernel_rfl, by kernel_rfl⟩
def rto_Estimate_Wait_j0 (w3 : Int) (k4 : Int) (next2000000 : (Int × Int × Unit) → Heap → Prop) (x32 : Bool) (H3 : Heap) (R : Value → Heap → Prop) : Prop :=
 IfB x32
 (next2000000 ((IntKind.wrap .i64 (w3 * 2)), ((IntKind.wrap .i64 (k4 - 1)), ())) H3)
 (R (Value.int .i64 (max 5 (min 600 w3))) H3)
def rto_Estimate_Wait_l2000000 (w3 : Int) (k4 : Int) (H2 : Heap) (next2000000 : (Int × Int × Unit) → Heap → Prop) (R : Value → Heap → Prop) : Prop :=
 IfB (decide ((k4 : Int) > 0))
 (rto_Estimate_Wait_j0 w3 k4 next2000000 (decide ((w3 : Int) < 600)) H2 R)
 (rto_Estimate_Wait_j0 w3 k4 next2000000 false H2 R)
def rto_Estimate_Wait_j1 (w3_1 : Int) (k4_1 : Int) (next2000000_1 : (Int × Int × Unit) → Heap → Prop) (x32_1 : Bool) (H5 : Heap) (R : Value → Heap → Prop) : Prop :=
 IfB x32_1
 (next2000000_1 ((IntKind.wrap .i64 (w3_1 * 2)), ((IntKind.wrap .i64 (k4_1 - 1)), ())) H5)
 (R (Value.int .i64 (max 5 (min 600 w3_1))) H5)
def rto_Estimate_Wait_l2000000b (w3_1 : Int) (k4_1 : Int) (H4 : Heap) (next2000000_1 : (Int × Int × Unit) → Heap → Prop) (R : Value → Heap → Prop) : Prop :=
 IfB (decide ((k4_1 : Int) > 0))
 (rto_Estimate_Wait_j1 w3_1 k4_1 next2000000_1 (decide ((w3_1 : Int) < 600)) H4 R)
 (rto_Estimate_Wait_j1 w3_1 k4_1 next2000000_1 false H4 R)
def rto_Estimate_Wait_p (e0b : Nat) (H : Heap) (R : Value → Heap → Prop) : Prop :=
 FnW Tryz.prog f_rto_Estimate_is ⟨[(Value.pointer (some ⟨e0b, 0, none⟩))]⟩ H fun x6v H1 =>
 ∃ x6 : Bool, x6v = (Value.bool x6) ∧
 IfB (!x6)
 (R (Value.int .i64 0) H1)
 (∃ x11 : Int, H1.cell ⟨e0b, 2, none⟩ = some (Value.int .i64 x11) ∧
 ∃ x15 : Bool, H1.cell ⟨e0b, 3, none⟩ = some (Value.bool x15) ∧
 IfB x15
 (∃ x19 : Int, H1.cell ⟨e0b, 0, none⟩ = some (Value.int .i64 x19) ∧
 (8 : Int) ≠ 0 ∧
 ∃ x24 : Int, H1.cell ⟨e0b, 1, none⟩ = some (Value.int .i64 x24) ∧
 LoopI (Int × Int × Unit) ((IntKind.wrap .i64 ((IntKind.wrap .i64 (Int.tdiv x19 8)) + (max 1 x24))), (x11, ())) H1 fun x H next => ∀ _g : Env, rto_Estimate_Wait_l2000000 x.1 x.2.1 H next R)
 (LoopI (Int × Int × Unit) (30, (x11, ())) H1 fun x H next => ∀ _g : Env, rto_Estimate_Wait_l2000000b x.1 x.2.1 H next R))
theorem rto_Estimate_Wait_heq (e0b : Nat) (H : Heap) (R : Value → Heap → Prop) : rto_Estimate_Wait_p e0b H R = CodeW Tryz.prog hplan_rto_Estimate_Wait (bodyOf Tryz.f102) (env0 [(Value.pointer (some ⟨e0b, 0, none⟩))]) H (RetW Tryz.prog Tryz.f102.results.toList R) := by kernel_rfl
theorem rto_Estimate_Wait_sh (e0b : Nat) {H : Heap} {R : Value → Heap → Prop} (h : rto_Estimate_Wait_p e0b H fun v H1 => ∀ H2, Shut H H1 H2 → R v H2) : FnW Tryz.prog f_rto_Estimate_Wait ⟨[(Value.pointer (some ⟨e0b, 0, none⟩))]⟩ H R := FnW.of_code hk_rto_Estimate_Wait (by kernel_rfl) (Eq.mp (rto_Estimate_Wait_heq e0b H _) h)
def hplan_join_Joint_Next : Plan := ⟨[], [], [], []⟩
theorem hk_join_Joint_Next : Known Tryz.prog f_join_Joint_Next Tryz.f103 hplan_join_Joint_Next (bodyOf Tryz.f103) := ⟨Tryz.func103, by kernel_rfl, by kernel_rfl, by kernel_rfl, by kernel_rfl, by kernel_rfl⟩
def join_Joint_Next_p (j0b : Nat) (H : Heap) (R : Value → Heap → Prop) : Prop :=
 FnW Tryz.prog f_join_Joint_is ⟨[(Value.pointer (some ⟨j0b, 0, none⟩))]⟩ H fun x4v H1 =>
 ∃ x4 : Bool, x4v = (Value.bool x4) ∧
 IfB (!x4)
 (R (Value.int .u32 0) H1)
 (∃ x9 : Int, H1.cell ⟨j0b, 0, none⟩ = some (Value.int .u32 x9) ∧
 R (Value.int .u32 x9) H1)
theorem join_Joint_Next_heq (j0b : Nat) (H : Heap) (R : Value → Heap → Prop) : join_Joint_Next_p j0b H R = CodeW Tryz.prog hplan_join_Joint_Next (bodyOf Tryz.f103) (env0 [(Value.pointer (some ⟨j0b, 0, none⟩))]) H (RetW Tryz.prog Tryz.f103.results.toList R) := by kernel_rfl
theorem join_Joint_Next_sh (j0b : Nat) {H : Heap} {R : Value → Heap → Prop} (h : join_Joint_Next_p j0b H fun v H1 => ∀ H2, Shut H H1 H2 → R v H2) : FnW Tryz.prog f_join_Joint_Next ⟨[(Value.pointer (some ⟨j0b, 0, none⟩))]⟩ H R := FnW.of_code hk_join_Joint_Next (by kernel_rfl) (Eq.mp (join_Joint_Next_heq j0b H _) h)
def join_Joint_Next_nil_p (H : Heap) (R : Value → Heap → Prop) : Prop :=
 FnW Tryz.prog f_join_Joint_is ⟨[(Value.pointer none)]⟩ H fun x4v H1 =>
 ∃ x4 : Bool, x4v = (Value.bool x4) ∧
 IfB (!x4)
 (R (Value.int .u32 0) H1)
 (False)
theorem join_Joint_Next_nil_heq  (H : Heap) (R : Value → Heap → Prop) : join_Joint_Next_nil_p  H R = CodeW Tryz.prog hplan_join_Joint_Next (bodyOf Tryz.f103) (env0 [(Value.pointer none)]) H (RetW Tryz.prog Tryz.f103.results.toList R) := by kernel_rfl
theorem join_Joint_Next_nil_sh  {H : Heap} {R : Value → Heap → Prop} (h : join_Joint_Next_nil_p  H fun v H1 => ∀ H2, Shut H H1 H2 → R v H2) : FnW Tryz.prog f_join_Joint_Next ⟨[(Value.pointer none)]⟩ H R := FnW.of_code hk_join_Joint_Next (by kernel_rfl) (Eq.mp (join_Joint_Next_nil_heq  H _) h)
def hplan_seg_Segment_fits : Plan := ⟨[], [], [(2, 6)], []⟩
theorem hk_seg_Segment_fits : Known Tryz.prog f_seg_Segment_fits Tryz.f104 hplan_seg_Segment_fits (bodyOf Tryz.f104) := ⟨Tryz.func104, by kernel_rfl, by kernel_rfl, by kernel_rfl, by kernel_rfl, by kernel_rfl⟩
def seg_Segment_fits_j4 (s1b : Nat) (x6 : Int) (x8 : Int) (x10 : Int) (x12 : Int) (x14 : Int) (x24_4 : Bool) (H6 : Heap) (R : Value → Heap → Prop) : Prop :=
 IfB x24_4
 (R (Value.bool false) H6)
 (IfB (decide (((IntKind.wrap .i64 ((IntKind.wrap .i64 ((IntKind.wrap .i64 ((IntKind.wrap .i64 ((IntKind.wrap .i64 (0 + 1)) + 1)) + 1)) + 1)) + 1)) : Int) < 5))
 ((0 : Int) ≤ (IntKind.wrap .i64 ((IntKind.wrap .i64 ((IntKind.wrap .i64 ((IntKind.wrap .i64 ((IntKind.wrap .i64 (0 + 1)) + 1)) + 1)) + 1)) + 1)) ∧ ((IntKind.wrap .i64 ((IntKind.wrap .i64 ((IntKind.wrap .i64 ((IntKind.wrap .i64 ((IntKind.wrap .i64 (0 + 1)) + 1)) + 1)) + 1)) + 1)) : Int) < 5 ∧
 False)
 (∃ x27 : Int, H6.cell ⟨s1b, 4, none⟩ = some (Value.int .i64 x27) ∧
 IfB (decide ((x27 : Int) ≥ 0))
 (∃ x31 : Int, H6.cell ⟨s1b, 4, none⟩ = some (Value.int .i64 x31) ∧
 R (Value.bool (decide ((x31 : Int) < 64))) H6)
 (R (Value.bool false) H6)))
def seg_Segment_fits_j3 (s1b : Nat) (x6 : Int) (x8 : Int) (x10 : Int) (x12 : Int) (x14 : Int) (x24_3 : Bool) (H5 : Heap) (R : Value → Heap → Prop) : Prop :=
 IfB x24_3
 (R (Value.bool false) H5)
 (IfB (decide (((IntKind.wrap .i64 ((IntKind.wrap .i64 ((IntKind.wrap .i64 ((IntKind.wrap .i64 (0 + 1)) + 1)) + 1)) + 1)) : Int) < 5))
 ((0 : Int) ≤ (IntKind.wrap .i64 ((IntKind.wrap .i64 ((IntKind.wrap .i64 ((IntKind.wrap .i64 (0 + 1)) + 1)) + 1)) + 1)) ∧ ((IntKind.wrap .i64 ((IntKind.wrap .i64 ((IntKind.wrap .i64 ((IntKind.wrap .i64 (0 + 1)) + 1)) + 1)) + 1)) : Int) < 5 ∧
 IfB (decide ((x14 : Int) < 0))
 (seg_Segment_fits_j4 s1b x6 x8 x10 x12 x14 true H5 R)
 (seg_Segment_fits_j4 s1b x6 x8 x10 x12 x14 (decide ((x14 : Int) > 65535)) H5 R))
 (∃ x27_1 : Int, H5.cell ⟨s1b, 4, none⟩ = some (Value.int .i64 x27_1) ∧
 IfB (decide ((x27_1 : Int) ≥ 0))
 (∃ x31_1 : Int, H5.cell ⟨s1b, 4, none⟩ = some (Value.int .i64 x31_1) ∧
 R (Value.bool (decide ((x31_1 : Int) < 64))) H5)
 (R (Value.bool false) H5)))
def seg_Segment_fits_j2 (s1b : Nat) (x6 : Int) (x8 : Int) (x10 : Int) (x12 : Int) (x14 : Int) (x24_2 : Bool) (H4 : Heap) (R : Value → Heap → Prop) : Prop :=
 IfB x24_2
 (R (Value.bool false) H4)
 (IfB (decide (((IntKind.wrap .i64 ((IntKind.wrap .i64 ((IntKind.wrap .i64 (0 + 1)) + 1)) + 1)) : Int) < 5))
 ((0 : Int) ≤ (IntKind.wrap .i64 ((IntKind.wrap .i64 ((IntKind.wrap .i64 (0 + 1)) + 1)) + 1)) ∧ ((IntKind.wrap .i64 ((IntKind.wrap .i64 ((IntKind.wrap .i64 (0 + 1)) + 1)) + 1)) : Int) < 5 ∧
 IfB (decide ((x12 : Int) < 0))
 (seg_Segment_fits_j3 s1b x6 x8 x10 x12 x14 true H4 R)
 (seg_Segment_fits_j3 s1b x6 x8 x10 x12 x14 (decide ((x12 : Int) > 65535)) H4 R))
 (∃ x27_2 : Int, H4.cell ⟨s1b, 4, none⟩ = some (Value.int .i64 x27_2) ∧
 IfB (decide ((x27_2 : Int) ≥ 0))
 (∃ x31_2 : Int, H4.cell ⟨s1b, 4, none⟩ = some (Value.int .i64 x31_2) ∧
 R (Value.bool (decide ((x31_2 : Int) < 64))) H4)
 (R (Value.bool false) H4)))
def seg_Segment_fits_j1 (s1b : Nat) (x6 : Int) (x8 : Int) (x10 : Int) (x12 : Int) (x14 : Int) (x24_1 : Bool) (H3 : Heap) (R : Value → Heap → Prop) : Prop :=
 IfB x24_1
 (R (Value.bool false) H3)
 (IfB (decide (((IntKind.wrap .i64 ((IntKind.wrap .i64 (0 + 1)) + 1)) : Int) < 5))
 ((0 : Int) ≤ (IntKind.wrap .i64 ((IntKind.wrap .i64 (0 + 1)) + 1)) ∧ ((IntKind.wrap .i64 ((IntKind.wrap .i64 (0 + 1)) + 1)) : Int) < 5 ∧
 IfB (decide ((x10 : Int) < 0))
 (seg_Segment_fits_j2 s1b x6 x8 x10 x12 x14 true H3 R)
 (seg_Segment_fits_j2 s1b x6 x8 x10 x12 x14 (decide ((x10 : Int) > 65535)) H3 R))
 (∃ x27_3 : Int, H3.cell ⟨s1b, 4, none⟩ = some (Value.int .i64 x27_3) ∧
 IfB (decide ((x27_3 : Int) ≥ 0))
 (∃ x31_3 : Int, H3.cell ⟨s1b, 4, none⟩ = some (Value.int .i64 x31_3) ∧
 R (Value.bool (decide ((x31_3 : Int) < 64))) H3)
 (R (Value.bool false) H3)))
def seg_Segment_fits_j0 (s1b : Nat) (x6 : Int) (x8 : Int) (x10 : Int) (x12 : Int) (x14 : Int) (x24 : Bool) (H2 : Heap) (R : Value → Heap → Prop) : Prop :=
 IfB x24
 (R (Value.bool false) H2)
 (IfB (decide (((IntKind.wrap .i64 (0 + 1)) : Int) < 5))
 ((0 : Int) ≤ (IntKind.wrap .i64 (0 + 1)) ∧ ((IntKind.wrap .i64 (0 + 1)) : Int) < 5 ∧
 IfB (decide ((x8 : Int) < 0))
 (seg_Segment_fits_j1 s1b x6 x8 x10 x12 x14 true H2 R)
 (seg_Segment_fits_j1 s1b x6 x8 x10 x12 x14 (decide ((x8 : Int) > 65535)) H2 R))
 (∃ x27_4 : Int, H2.cell ⟨s1b, 4, none⟩ = some (Value.int .i64 x27_4) ∧
 IfB (decide ((x27_4 : Int) ≥ 0))
 (∃ x31_4 : Int, H2.cell ⟨s1b, 4, none⟩ = some (Value.int .i64 x31_4) ∧
 R (Value.bool (decide ((x31_4 : Int) < 64))) H2)
 (R (Value.bool false) H2)))
def seg_Segment_fits_p (s0c0 : Int) (s0c1 : Int) (s0c2 : Int) (s0c3 : Int) (s0c4 : Int) (s0c5 : Int) (s0c6 : Int) (s0c7 : Int) (s0c8a : Option Addr) (s0c8n : Nat) (s0c8c : Nat) (H : Heap) (R : Value → Heap → Prop) : Prop :=
 NewW H (Obj.cells ⟨[(Value.int .i64 s0c0), (Value.int .i64 s0c1), (Value.int .u32 s0c2), (Value.int .u32 s0c3), (Value.int .i64 s0c4), (Value.int .i64 s0c5), (Value.int .i64 s0c6), (Value.int .i64 s0c7), (Value.slice s0c8a s0c8n s0c8c)]⟩ T_seg_Segment) fun s1b H1 =>
 ∃ x6 : Int, H1.cell ⟨s1b, 0, none⟩ = some (Value.int .i64 x6) ∧
 ∃ x8 : Int, H1.cell ⟨s1b, 1, none⟩ = some (Value.int .i64 x8) ∧
 ∃ x10 : Int, H1.cell ⟨s1b, 5, none⟩ = some (Value.int .i64 x10) ∧
 ∃ x12 : Int, H1.cell ⟨s1b, 6, none⟩ = some (Value.int .i64 x12) ∧
 ∃ x14 : Int, H1.cell ⟨s1b, 7, none⟩ = some (Value.int .i64 x14) ∧
 IfB (decide ((0 : Int) < 5))
 ((0 : Int) ≤ 0 ∧ (0 : Int) < 5 ∧
 IfB (decide ((x6 : Int) < 0))
 (seg_Segment_fits_j0 s1b x6 x8 x10 x12 x14 true H1 R)
 (seg_Segment_fits_j0 s1b x6 x8 x10 x12 x14 (decide ((x6 : Int) > 65535)) H1 R))
 (∃ x27_5 : Int, H1.cell ⟨s1b, 4, none⟩ = some (Value.int .i64 x27_5) ∧
 IfB (decide ((x27_5 : Int) ≥ 0))
 (∃ x31_5 : Int, H1.cell ⟨s1b, 4, none⟩ = some (Value.int .i64 x31_5) ∧
 R (Value.bool (decide ((x31_5 : Int) < 64))) H1)
 (R (Value.bool false) H1))
theorem seg_Segment_fits_heq (s0c0 : Int) (s0c1 : Int) (s0c2 : Int) (s0c3 : Int) (s0c4 : Int) (s0c5 : Int) (s0c6 : Int) (s0c7 : Int) (s0c8a : Option Addr) (s0c8n : Nat) (s0c8c : Nat) (H : Heap) (R : Value → Heap → Prop) : seg_Segment_fits_p s0c0 s0c1 s0c2 s0c3 s0c4 s0c5 s0c6 s0c7 s0c8a s0c8n s0c8c H R = CodeW Tryz.prog hplan_seg_Segment_fits (bodyOf Tryz.f104) (env0 [(Value.agg ⟨[(Value.int .i64 s0c0), (Value.int .i64 s0c1), (Value.int .u32 s0c2), (Value.int .u32 s0c3), (Value.int .i64 s0c4), (Value.int .i64 s0c5), (Value.int .i64 s0c6), (Value.int .i64 s0c7), (Value.slice s0c8a s0c8n s0c8c)]⟩)]) H (RetW Tryz.prog Tryz.f104.results.toList R) := by kernel_rfl
theorem seg_Segment_fits_sh (s0c0 : Int) (s0c1 : Int) (s0c2 : Int) (s0c3 : Int) (s0c4 : Int) (s0c5 : Int) (s0c6 : Int) (s0c7 : Int) (s0c8a : Option Addr) (s0c8n : Nat) (s0c8c : Nat) {H : Heap} {R : Value → Heap → Prop} (h : seg_Segment_fits_p s0c0 s0c1 s0c2 s0c3 s0c4 s0c5 s0c6 s0c7 s0c8a s0c8n s0c8c H fun v H1 => ∀ H2, Shut H H1 H2 → R v H2) : FnW Tryz.prog f_seg_Segment_fits ⟨[(Value.agg ⟨[(Value.int .i64 s0c0), (Value.int .i64 s0c1), (Value.int .u32 s0c2), (Value.int .u32 s0c3), (Value.int .i64 s0c4), (Value.int .i64 s0c5), (Value.int .i64 s0c6), (Value.int .i64 s0c7), (Value.slice s0c8a s0c8n s0c8c)]⟩)]⟩ H R := FnW.of_code hk_seg_Segment_fits (by kernel_rfl) (Eq.mp (seg_Segment_fits_heq s0c0 s0c1 s0c2 s0c3 s0c4 s0c5 s0c6 s0c7 s0c8a s0c8n s0c8c H _) h)
def hplan_seg_Segment_options : Plan := ⟨[], [], [], []⟩
theorem hk_seg_Segment_options : Known Tryz.prog f_seg_Segment_options Tryz.f105 hplan_seg_Segment_options (bodyOf Tryz.f105) := ⟨Tryz.func105, by kernel_rfl, by kernel_rfl, by kernel_rfl, by kernel_rfl, by kernel_rfl⟩
def seg_Segment_options_p (s0c0 : Int) (s0c1 : Int) (s0c2 : Int) (s0c3 : Int) (s0c4 : Int) (s0c5 : Int) (s0c6 : Int) (s0c7 : Int) (s0c8a : Option Addr) (s0c8n : Nat) (s0c8c : Nat) (H : Heap) (R : Value → Heap → Prop) : Prop :=
 NewW H (Obj.cells ⟨[(Value.int .i64 s0c0), (Value.int .i64 s0c1), (Value.int .u32 s0c2), (Value.int .u32 s0c3), (Value.int .i64 s0c4), (Value.int .i64 s0c5), (Value.int .i64 s0c6), (Value.int .i64 s0c7), (Value.slice s0c8a s0c8n s0c8c)]⟩ T_seg_Segment) fun s1b H1 =>
 ∃ x4 : Int, H1.cell ⟨s1b, 7, none⟩ = some (Value.int .i64 x4) ∧
 IfB ((x4 : Int) == 0)
 (R (Value.slice none 0 0) H1)
 (∃ x7 : Int, H1.cell ⟨s1b, 7, none⟩ = some (Value.int .i64 x7) ∧
 (0 : Int) ≤ 8 ∧
 ∃ x11 : Int, H1.cell ⟨s1b, 7, none⟩ = some (Value.int .i64 x11) ∧
 NewW H1 (Obj.cells ⟨[(Value.int .u8 2), (Value.int .u8 4), (Value.int .u8 (IntKind.wrap .u8 (Int.fdiv x7 (2 ^ (min (8 : Int).toNat (IntKind.bits .i64)))))), (Value.int .u8 (IntKind.wrap .u8 x11))]⟩ T_uint8) fun x13b H2 =>
 R (Value.slice (some ⟨x13b, 0, none⟩) 4 4) H2)
theorem seg_Segment_options_heq (s0c0 : Int) (s0c1 : Int) (s0c2 : Int) (s0c3 : Int) (s0c4 : Int) (s0c5 : Int) (s0c6 : Int) (s0c7 : Int) (s0c8a : Option Addr) (s0c8n : Nat) (s0c8c : Nat) (H : Heap) (R : Value → Heap → Prop) : seg_Segment_options_p s0c0 s0c1 s0c2 s0c3 s0c4 s0c5 s0c6 s0c7 s0c8a s0c8n s0c8c H R = CodeW Tryz.prog hplan_seg_Segment_options (bodyOf Tryz.f105) (env0 [(Value.agg ⟨[(Value.int .i64 s0c0), (Value.int .i64 s0c1), (Value.int .u32 s0c2), (Value.int .u32 s0c3), (Value.int .i64 s0c4), (Value.int .i64 s0c5), (Value.int .i64 s0c6), (Value.int .i64 s0c7), (Value.slice s0c8a s0c8n s0c8c)]⟩)]) H (RetW Tryz.prog Tryz.f105.results.toList R) := by kernel_rfl
theorem seg_Segment_options_sh (s0c0 : Int) (s0c1 : Int) (s0c2 : Int) (s0c3 : Int) (s0c4 : Int) (s0c5 : Int) (s0c6 : Int) (s0c7 : Int) (s0c8a : Option Addr) (s0c8n : Nat) (s0c8c : Nat) {H : Heap} {R : Value → Heap → Prop} (h : seg_Segment_options_p s0c0 s0c1 s0c2 s0c3 s0c4 s0c5 s0c6 s0c7 s0c8a s0c8n s0c8c H fun v H1 => ∀ H2, Shut H H1 H2 → R v H2) : FnW Tryz.prog f_seg_Segment_options ⟨[(Value.agg ⟨[(Value.int .i64 s0c0), (Value.int .i64 s0c1), (Value.int .u32 s0c2), (Value.int .u32 s0c3), (Value.int .i64 s0c4), (Value.int .i64 s0c5), (Value.int .i64 s0c6), (Value.int .i64 s0c7), (Value.slice s0c8a s0c8n s0c8c)]⟩)]⟩ H R := FnW.of_code hk_seg_Segment_options (by kernel_rfl) (Eq.mp (seg_Segment_options_heq s0c0 s0c1 s0c2 s0c3 s0c4 s0c5 s0c6 s0c7 s0c8a s0c8n s0c8c H _) h)
def hplan_seg_put16 : Plan := ⟨[], [], [], []⟩
theorem hk_seg_put16 : Known Tryz.prog f_seg_put16 Tryz.f106 hplan_seg_put16 (bodyOf Tryz.f106) := ⟨Tryz.func106, by kernel_rfl, by kernel_rfl, by kernel_rfl, by kernel_rfl, by kernel_rfl⟩
def seg_put16_p (b0a : Option Addr) (b0n : Nat) (b0c : Nat) (n1 : Int) (H : Heap) (R : Value → Heap → Prop) : Prop :=
 (0 : Int) ≤ 8 ∧
 NilP b0a fun x11q =>
 InB 0 b0n fun x11i =>
 elemAt x11q x11i 1 fun x11p =>
 StCell H x11p (Value.int .u8 (IntKind.wrap .u8 (Int.fdiv n1 (2 ^ (min (8 : Int).toNat (IntKind.bits .i64)))))) fun H1 =>
 NilP b0a fun x12q =>
 InB 1 b0n fun x12i =>
 elemAt x12q x12i 1 fun x12p =>
 StCell H1 x12p (Value.int .u8 (IntKind.wrap .u8 n1)) fun H2 =>
 R (Value.tuple ⟨[]⟩) H2
theorem seg_put16_heq (b0a : Option Addr) (b0n : Nat) (b0c : Nat) (n1 : Int) (H : Heap) (R : Value → Heap → Prop) : seg_put16_p b0a b0n b0c n1 H R = CodeW Tryz.prog hplan_seg_put16 (bodyOf Tryz.f106) (env0 [(Value.slice b0a b0n b0c), (Value.int .i64 n1)]) H (RetW Tryz.prog Tryz.f106.results.toList R) := by kernel_rfl
theorem seg_put16_sh (b0a : Option Addr) (b0n : Nat) (b0c : Nat) (n1 : Int) {H : Heap} {R : Value → Heap → Prop} (h : seg_put16_p b0a b0n b0c n1 H fun v H1 => ∀ H2, Shut H H1 H2 → R v H2) : FnW Tryz.prog f_seg_put16 ⟨[(Value.slice b0a b0n b0c), (Value.int .i64 n1)]⟩ H R := FnW.of_code hk_seg_put16 (by kernel_rfl) (Eq.mp (seg_put16_heq b0a b0n b0c n1 H _) h)
def hplan_seg_put32 : Plan := ⟨[], [], [], []⟩
theorem hk_seg_put32 : Known Tryz.prog f_seg_put32 Tryz.f107 hplan_seg_put32 (bodyOf Tryz.f107) := ⟨Tryz.func107, by kernel_rfl, by kernel_rfl, by kernel_rfl, by kernel_rfl, by kernel_rfl⟩
def seg_put32_p (b0a : Option Addr) (b0n : Nat) (b0c : Nat) (n1 : Int) (H : Heap) (R : Value → Heap → Prop) : Prop :=
 (0 : Int) ≤ 16 ∧
 FnW Tryz.prog f_seg_put16 ⟨[(Value.slice b0a b0n b0c), (Value.int .i64 (IntKind.wrap .i64 (Int.fdiv n1 (2 ^ (min (16 : Int).toNat (IntKind.bits .u32))))))]⟩ H fun x8v H1 =>
 x8v = (Value.tuple ⟨[]⟩) ∧
 InC 2 b0n fun x10l =>
 FnW Tryz.prog f_seg_put16 ⟨[(Value.slice (if b0c = x10l then b0a else Option.map (fun a => Addr.add a (x10l * 1)) b0a) (b0n - x10l) (b0c - x10l)), (Value.int .i64 (IntKind.wrap .i64 n1))]⟩ H1 fun x13v H2 =>
 x13v = (Value.tuple ⟨[]⟩) ∧
 R (Value.tuple ⟨[]⟩) H2
theorem seg_put32_heq (b0a : Option Addr) (b0n : Nat) (b0c : Nat) (n1 : Int) (H : Heap) (R : Value → Heap → Prop) : seg_put32_p b0a b0n b0c n1 H R = CodeW Tryz.prog hplan_seg_put32 (bodyOf Tryz.f107) (env0 [(Value.slice b0a b0n b0c), (Value.int .u32 n1)]) H (RetW Tryz.prog Tryz.f107.results.toList R) := by kernel_rfl
theorem seg_put32_sh (b0a : Option Addr) (b0n : Nat) (b0c : Nat) (n1 : Int) {H : Heap} {R : Value → Heap → Prop} (h : seg_put32_p b0a b0n b0c n1 H fun v H1 => ∀ H2, Shut H H1 H2 → R v H2) : FnW Tryz.prog f_seg_put32 ⟨[(Value.slice b0a b0n b0c), (Value.int .u32 n1)]⟩ H R := FnW.of_code hk_seg_put32 (by kernel_rfl) (Eq.mp (seg_put32_heq b0a b0n b0c n1 H _) h)
def hplan_sum_Fold : Plan := ⟨[], [], [], []⟩
theorem hk_sum_Fold : Known Tryz.prog f_sum_Fold Tryz.f108 hplan_sum_Fold (bodyOf Tryz.f108) := ⟨Tryz.func108, by kernel_rfl, by kernel_rfl, by kernel_rfl, by kernel_rfl, by kernel_rfl⟩
def sum_Fold_p (partial0 : Int) (H : Heap) (R : Value → Heap → Prop) : Prop :=
 FnW Tryz.prog f_sum_round ⟨[(Value.int .u32 partial0)]⟩ H fun x4v H1 =>
 ∃ x4 : Int, x4v = (Value.int .u32 x4) ∧
 R (Value.int .u16 (bitsXor .u16 (if IntKind.signed .u16 = true then (-1) else IntKind.max .u16) (IntKind.wrap .u16 x4))) H1
theorem sum_Fold_heq (partial0 : Int) (H : Heap) (R : Value → Heap → Prop) : sum_Fold_p partial0 H R = CodeW Tryz.prog hplan_sum_Fold (bodyOf Tryz.f108) (env0 [(Value.int .u32 partial0)]) H (RetW Tryz.prog Tryz.f108.results.toList R) := by kernel_rfl
theorem sum_Fold_sh (partial0 : Int) {H : Heap} {R : Value → Heap → Prop} (h : sum_Fold_p partial0 H fun v H1 => ∀ H2, Shut H H1 H2 → R v H2) : FnW Tryz.prog f_sum_Fold ⟨[(Value.int .u32 partial0)]⟩ H R := FnW.of_code hk_sum_Fold (by kernel_rfl) (Eq.mp (sum_Fold_heq partial0 H _) h)
def hplan_seg_total : Plan := ⟨[], [], [], []⟩
theorem hk_seg_total : Known Tryz.prog f_seg_total Tryz.f109 hplan_seg_total (bodyOf Tryz.f109) := ⟨Tryz.func109, by kernel_rfl, by kernel_rfl, by kernel_rfl, by kernel_rfl, by kernel_rfl⟩
def seg_total_p (from0 : Int) (to1 : Int) (b2a : Option Addr) (b2n : Nat) (b2c : Nat) (H : Heap) (R : Value → Heap → Prop) : Prop :=
 FnW Tryz.prog f_sum_Pseudo ⟨[(Value.int .u32 from0), (Value.int .u32 to1), (Value.int .u8 6), (Value.int .i64 (b2n : Int))]⟩ H fun x11v H1 =>
 ∃ x11 : Int, x11v = (Value.int .u32 x11) ∧
 FnW Tryz.prog f_sum_Add ⟨[(Value.int .u32 x11), (Value.slice b2a b2n b2c)]⟩ H1 fun x13v H2 =>
 ∃ x13 : Int, x13v = (Value.int .u32 x13) ∧
 R (Value.int .u32 x13) H2
theorem seg_total_heq (from0 : Int) (to1 : Int) (b2a : Option Addr) (b2n : Nat) (b2c : Nat) (H : Heap) (R : Value → Heap → Prop) : seg_total_p from0 to1 b2a b2n b2c H R = CodeW Tryz.prog hplan_seg_total (bodyOf Tryz.f109) (env0 [(Value.int .u32 from0), (Value.int .u32 to1), (Value.slice b2a b2n b2c)]) H (RetW Tryz.prog Tryz.f109.results.toList R) := by kernel_rfl
theorem seg_total_sh (from0 : Int) (to1 : Int) (b2a : Option Addr) (b2n : Nat) (b2c : Nat) {H : Heap} {R : Value → Heap → Prop} (h : seg_total_p from0 to1 b2a b2n b2c H fun v H1 => ∀ H2, Shut H H1 H2 → R v H2) : FnW Tryz.prog f_seg_total ⟨[(Value.int .u32 from0), (Value.int .u32 to1), (Value.slice b2a b2n b2c)]⟩ H R := FnW.of_code hk_seg_total (by kernel_rfl) (Eq.mp (seg_total_heq from0 to1 b2a b2n b2c H _) h)
def hplan_seg_Reset : Plan := ⟨[(3, [0, 1, 2, 3, 4, 5, 6], [15])], [], [], []⟩
theorem hk_seg_Reset : Known Tryz.prog f_seg_Reset Tryz.f110 hplan_seg_Reset (bodyOf Tryz.f110) := ⟨Tryz.func110, by kernel_rfl, by kernel_rfl, by kernel_rfl, by kernel_rfl, by kernel_rfl⟩
def seg_Reset_j0 (x2b : Nat) (back4b : Nat) (H25 : Heap) (R : Value → Heap → Prop) : Prop :=
 ∃ x30c0 : Int, H25.cell ⟨back4b, 0, none⟩ = some (Value.int .i64 x30c0) ∧ ∃ x30c1 : Int, H25.cell ⟨back4b, 1, none⟩ = some (Value.int .i64 x30c1) ∧ ∃ x30c2 : Int, H25.cell ⟨back4b, 2, none⟩ = some (Value.int .u32 x30c2) ∧ ∃ x30c3 : Int, H25.cell ⟨back4b, 3, none⟩ = some (Value.int .u32 x30c3) ∧ ∃ x30c4 : Int, H25.cell ⟨back4b, 4, none⟩ = some (Value.int .i64 x30c4) ∧ ∃ x30c5 : Int, H25.cell ⟨back4b, 5, none⟩ = some (Value.int .i64 x30c5) ∧ ∃ x30c6 : Int, H25.cell ⟨back4b, 6, none⟩ = some (Value.int .i64 x30c6) ∧ ∃ x30c7 : Int, H25.cell ⟨back4b, 7, none⟩ = some (Value.int .i64 x30c7) ∧ ∃ (x30c8a : Option Addr) (x30c8n x30c8c : Nat), H25.cell ⟨back4b, 8, none⟩ = some (Value.slice x30c8a x30c8n x30c8c) ∧ StCell H25 ⟨x2b, 0, none⟩ (Value.int .i64 x30c0) fun H26 =>
 StCell H26 ⟨x2b, 1, none⟩ (Value.int .i64 x30c1) fun H27 =>
 StCell H27 ⟨x2b, 2, none⟩ (Value.int .u32 x30c2) fun H28 =>
 StCell H28 ⟨x2b, 3, none⟩ (Value.int .u32 x30c3) fun H29 =>
 StCell H29 ⟨x2b, 4, none⟩ (Value.int .i64 x30c4) fun H30 =>
 StCell H30 ⟨x2b, 5, none⟩ (Value.int .i64 x30c5) fun H31 =>
 StCell H31 ⟨x2b, 6, none⟩ (Value.int .i64 x30c6) fun H32 =>
 StCell H32 ⟨x2b, 7, none⟩ (Value.int .i64 x30c7) fun H33 =>
 StCell H33 ⟨x2b, 8, none⟩ (Value.slice x30c8a x30c8n x30c8c) fun H34 =>
 ∃ r0c0_1 : Int, H34.cell ⟨x2b, 0, none⟩ = some (Value.int .i64 r0c0_1) ∧ ∃ r0c1_1 : Int, H34.cell ⟨x2b, 1, none⟩ = some (Value.int .i64 r0c1_1) ∧ ∃ r0c2_1 : Int, H34.cell ⟨x2b, 2, none⟩ = some (Value.int .u32 r0c2_1) ∧ ∃ r0c3_1 : Int, H34.cell ⟨x2b, 3, none⟩ = some (Value.int .u32 r0c3_1) ∧ ∃ r0c4_1 : Int, H34.cell ⟨x2b, 4, none⟩ = some (Value.int .i64 r0c4_1) ∧ ∃ r0c5_1 : Int, H34.cell ⟨x2b, 5, none⟩ = some (Value.int .i64 r0c5_1) ∧ ∃ r0c6_1 : Int, H34.cell ⟨x2b, 6, none⟩ = some (Value.int .i64 r0c6_1) ∧ ∃ r0c7_1 : Int, H34.cell ⟨x2b, 7, none⟩ = some (Value.int .i64 r0c7_1) ∧ ∃ (r0c8a_1 : Option Addr) (r0c8n_1 r0c8c_1 : Nat), H34.cell ⟨x2b, 8, none⟩ = some (Value.slice r0c8a_1 r0c8n_1 r0c8c_1) ∧ R (Value.tuple ⟨[(Value.agg ⟨[(Value.int .i64 r0c0_1), (Value.int .i64 r0c1_1), (Value.int .u32 r0c2_1), (Value.int .u32 r0c3_1), (Value.int .i64 r0c4_1), (Value.int .i64 r0c5_1), (Value.int .i64 r0c6_1), (Value.int .i64 r0c7_1), (Value.slice r0c8a_1 r0c8n_1 r0c8c_1)]⟩), (Value.bool true)]⟩) H34
def seg_Reset_p (s0c0 : Int) (s0c1 : Int) (s0c2 : Int) (s0c3 : Int) (s0c4 : Int) (s0c5 : Int) (s0c6 : Int) (s0c7 : Int) (s0c8a : Option Addr) (s0c8n : Nat) (s0c8c : Nat) (H : Heap) (R : Value → Heap → Prop) : Prop :=
 NewW H (Obj.cells ⟨[(Value.int .i64 s0c0), (Value.int .i64 s0c1), (Value.int .u32 s0c2), (Value.int .u32 s0c3), (Value.int .i64 s0c4), (Value.int .i64 s0c5), (Value.int .i64 s0c6), (Value.int .i64 s0c7), (Value.slice s0c8a s0c8n s0c8c)]⟩ T_seg_Segment) fun s1b H1 =>
 NewW H1 (Obj.cells ⟨[(Value.int .i64 0), (Value.int .i64 0), (Value.int .u32 0), (Value.int .u32 0), (Value.int .i64 0), (Value.int .i64 0), (Value.int .i64 0), (Value.int .i64 0), (Value.slice none 0 0)]⟩ T_seg_Segment) fun x2b H2 =>
 ∃ x6 : Int, H2.cell ⟨s1b, 1, none⟩ = some (Value.int .i64 x6) ∧
 ∃ x8 : Int, H2.cell ⟨s1b, 0, none⟩ = some (Value.int .i64 x8) ∧
 NewW H2 (Obj.cells ⟨[(Value.int .i64 0), (Value.int .i64 0), (Value.int .u32 0), (Value.int .u32 0), (Value.int .i64 0), (Value.int .i64 0), (Value.int .i64 0), (Value.int .i64 0), (Value.slice none 0 0)]⟩ T_seg_Segment) fun back4b H3 =>
 StCell H3 ⟨back4b, 0, none⟩ (Value.int .i64 x6) fun H4 =>
 StCell H4 ⟨back4b, 1, none⟩ (Value.int .i64 x8) fun H5 =>
 StCell H5 ⟨back4b, 2, none⟩ (Value.int .u32 0) fun H6 =>
 StCell H6 ⟨back4b, 3, none⟩ (Value.int .u32 0) fun H7 =>
 StCell H7 ⟨back4b, 4, none⟩ (Value.int .i64 4) fun H8 =>
 StCell H8 ⟨back4b, 5, none⟩ (Value.int .i64 0) fun H9 =>
 StCell H9 ⟨back4b, 6, none⟩ (Value.int .i64 0) fun H10 =>
 StCell H10 ⟨back4b, 7, none⟩ (Value.int .i64 0) fun H11 =>
 StCell H11 ⟨back4b, 8, none⟩ (Value.slice none 0 0) fun H12 =>
 ∃ x21c0 : Int, H12.cell ⟨s1b, 0, none⟩ = some (Value.int .i64 x21c0) ∧ ∃ x21c1 : Int, H12.cell ⟨s1b, 1, none⟩ = some (Value.int .i64 x21c1) ∧ ∃ x21c2 : Int, H12.cell ⟨s1b, 2, none⟩ = some (Value.int .u32 x21c2) ∧ ∃ x21c3 : Int, H12.cell ⟨s1b, 3, none⟩ = some (Value.int .u32 x21c3) ∧ ∃ x21c4 : Int, H12.cell ⟨s1b, 4, none⟩ = some (Value.int .i64 x21c4) ∧ ∃ x21c5 : Int, H12.cell ⟨s1b, 5, none⟩ = some (Value.int .i64 x21c5) ∧ ∃ x21c6 : Int, H12.cell ⟨s1b, 6, none⟩ = some (Value.int .i64 x21c6) ∧ ∃ x21c7 : Int, H12.cell ⟨s1b, 7, none⟩ = some (Value.int .i64 x21c7) ∧ ∃ (x21c8a : Option Addr) (x21c8n x21c8c : Nat), H12.cell ⟨s1b, 8, none⟩ = some (Value.slice x21c8a x21c8n x21c8c) ∧ FnW Tryz.prog f_seg_Segment_has ⟨[(Value.agg ⟨[(Value.int .i64 x21c0), (Value.int .i64 x21c1), (Value.int .u32 x21c2), (Value.int .u32 x21c3), (Value.int .i64 x21c4), (Value.int .i64 x21c5), (Value.int .i64 x21c6), (Value.int .i64 x21c7), (Value.slice x21c8a x21c8n x21c8c)]⟩), (Value.int .i64 2)]⟩ H12 fun x22v H13 =>
 ∃ x22 : Bool, x22v = (Value.bool x22) ∧
 IfB x22
 (StCell H13 ⟨x2b, 0, none⟩ (Value.int .i64 0) fun H14 =>
 StCell H14 ⟨x2b, 1, none⟩ (Value.int .i64 0) fun H15 =>
 StCell H15 ⟨x2b, 2, none⟩ (Value.int .u32 0) fun H16 =>
 StCell H16 ⟨x2b, 3, none⟩ (Value.int .u32 0) fun H17 =>
 StCell H17 ⟨x2b, 4, none⟩ (Value.int .i64 0) fun H18 =>
 StCell H18 ⟨x2b, 5, none⟩ (Value.int .i64 0) fun H19 =>
 StCell H19 ⟨x2b, 6, none⟩ (Value.int .i64 0) fun H20 =>
 StCell H20 ⟨x2b, 7, none⟩ (Value.int .i64 0) fun H21 =>
 StCell H21 ⟨x2b, 8, none⟩ (Value.slice none 0 0) fun H22 =>
 ∃ r0c0 : Int, H22.cell ⟨x2b, 0, none⟩ = some (Value.int .i64 r0c0) ∧ ∃ r0c1 : Int, H22.cell ⟨x2b, 1, none⟩ = some (Value.int .i64 r0c1) ∧ ∃ r0c2 : Int, H22.cell ⟨x2b, 2, none⟩ = some (Value.int .u32 r0c2) ∧ ∃ r0c3 : Int, H22.cell ⟨x2b, 3, none⟩ = some (Value.int .u32 r0c3) ∧ ∃ r0c4 : Int, H22.cell ⟨x2b, 4, none⟩ = some (Value.int .i64 r0c4) ∧ ∃ r0c5 : Int, H22.cell ⟨x2b, 5, none⟩ = some (Value.int .i64 r0c5) ∧ ∃ r0c6 : Int, H22.cell ⟨x2b, 6, none⟩ = some (Value.int .i64 r0c6) ∧ ∃ r0c7 : Int, H22.cell ⟨x2b, 7, none⟩ = some (Value.int .i64 r0c7) ∧ ∃ (r0c8a : Option Addr) (r0c8n r0c8c : Nat), H22.cell ⟨x2b, 8, none⟩ = some (Value.slice r0c8a r0c8n r0c8c) ∧ R (Value.tuple ⟨[(Value.agg ⟨[(Value.int .i64 r0c0), (Value.int .i64 r0c1), (Value.int .u32 r0c2), (Value.int .u32 r0c3), (Value.int .i64 r0c4), (Value.int .i64 r0c5), (Value.int .i64 r0c6), (Value.int .i64 r0c7), (Value.slice r0c8a r0c8n r0c8c)]⟩), (Value.bool false)]⟩) H22)
 (∃ x25c0 : Int, H13.cell ⟨s1b, 0, none⟩ = some (Value.int .i64 x25c0) ∧ ∃ x25c1 : Int, H13.cell ⟨s1b, 1, none⟩ = some (Value.int .i64 x25c1) ∧ ∃ x25c2 : Int, H13.cell ⟨s1b, 2, none⟩ = some (Value.int .u32 x25c2) ∧ ∃ x25c3 : Int, H13.cell ⟨s1b, 3, none⟩ = some (Value.int .u32 x25c3) ∧ ∃ x25c4 : Int, H13.cell ⟨s1b, 4, none⟩ = some (Value.int .i64 x25c4) ∧ ∃ x25c5 : Int, H13.cell ⟨s1b, 5, none⟩ = some (Value.int .i64 x25c5) ∧ ∃ x25c6 : Int, H13.cell ⟨s1b, 6, none⟩ = some (Value.int .i64 x25c6) ∧ ∃ x25c7 : Int, H13.cell ⟨s1b, 7, none⟩ = some (Value.int .i64 x25c7) ∧ ∃ (x25c8a : Option Addr) (x25c8n x25c8c : Nat), H13.cell ⟨s1b, 8, none⟩ = some (Value.slice x25c8a x25c8n x25c8c) ∧ FnW Tryz.prog f_seg_Segment_has ⟨[(Value.agg ⟨[(Value.int .i64 x25c0), (Value.int .i64 x25c1), (Value.int .u32 x25c2), (Value.int .u32 x25c3), (Value.int .i64 x25c4), (Value.int .i64 x25c5), (Value.int .i64 x25c6), (Value.int .i64 x25c7), (Value.slice x25c8a x25c8n x25c8c)]⟩), (Value.int .i64 4)]⟩ H13 fun x26v H23 =>
 ∃ x26 : Bool, x26v = (Value.bool x26) ∧
 IfB x26
 (∃ x28 : Int, H23.cell ⟨s1b, 3, none⟩ = some (Value.int .u32 x28) ∧
 StCell H23 ⟨back4b, 2, none⟩ (Value.int .u32 x28) fun H24 =>
 seg_Reset_j0 x2b back4b H24 R)
 (∃ x11 : Int, H23.cell ⟨back4b, 4, none⟩ = some (Value.int .i64 x11) ∧
 StCell H23 ⟨back4b, 4, none⟩ (Value.int .i64 (bitsOr .i64 x11 16)) fun H35 =>
 ∃ bs : List Nat, (∀ b ∈ bs, ∃ o, H35 b = some o) ∧
 s1b ∈ bs ∧ ∃ x15 : Int, H35.cell ⟨s1b, 2, none⟩ = some (Value.int .u32 x15) ∧
 ∃ x16c0 : Int, H35.cell ⟨s1b, 0, none⟩ = some (Value.int .i64 x16c0) ∧ ∃ x16c1 : Int, H35.cell ⟨s1b, 1, none⟩ = some (Value.int .i64 x16c1) ∧ ∃ x16c2 : Int, H35.cell ⟨s1b, 2, none⟩ = some (Value.int .u32 x16c2) ∧ ∃ x16c3 : Int, H35.cell ⟨s1b, 3, none⟩ = some (Value.int .u32 x16c3) ∧ ∃ x16c4 : Int, H35.cell ⟨s1b, 4, none⟩ = some (Value.int .i64 x16c4) ∧ ∃ x16c5 : Int, H35.cell ⟨s1b, 5, none⟩ = some (Value.int .i64 x16c5) ∧ ∃ x16c6 : Int, H35.cell ⟨s1b, 6, none⟩ = some (Value.int .i64 x16c6) ∧ ∃ x16c7 : Int, H35.cell ⟨s1b, 7, none⟩ = some (Value.int .i64 x16c7) ∧ ∃ (x16c8a : Option Addr) (x16c8n x16c8c : Nat), H35.cell ⟨s1b, 8, none⟩ = some (Value.slice x16c8a x16c8n x16c8c) ∧ FnW Tryz.prog f_seg_Span ⟨[(Value.agg ⟨[(Value.int .i64 x16c0), (Value.int .i64 x16c1), (Value.int .u32 x16c2), (Value.int .u32 x16c3), (Value.int .i64 x16c4), (Value.int .i64 x16c5), (Value.int .i64 x16c6), (Value.int .i64 x16c7), (Value.slice x16c8a x16c8n x16c8c)]⟩)]⟩ H35 fun x17v H36 =>
 ∃ x17 : Int, x17v = (Value.int .i64 x17) ∧
 KeptIn bs H35 H36 ∧ FnW Tryz.prog f_seq_Add ⟨[(Value.int .u32 x15), (Value.int .i64 x17)]⟩ H36 fun x18v H37 =>
 ∃ x18 : Int, x18v = (Value.int .u32 x18) ∧
 StCell H37 ⟨back4b, 3, none⟩ (Value.int .u32 x18) fun H38 =>
 seg_Reset_j0 x2b back4b H38 R))
theorem seg_Reset_heq (s0c0 : Int) (s0c1 : Int) (s0c2 : Int) (s0c3 : Int) (s0c4 : Int) (s0c5 : Int) (s0c6 : Int) (s0c7 : Int) (s0c8a : Option Addr) (s0c8n : Nat) (s0c8c : Nat) (H : Heap) (R : Value → Heap → Prop) : seg_Reset_p s0c0 s0c1 s0c2 s0c3 s0c4 s0c5 s0c6 s0c7 s0c8a s0c8n s0c8c H R = CodeW Tryz.prog hplan_seg_Reset (bodyOf Tryz.f110) (env0 [(Value.agg ⟨[(Value.int .i64 s0c0), (Value.int .i64 s0c1), (Value.int .u32 s0c2), (Value.int .u32 s0c3), (Value.int .i64 s0c4), (Value.int .i64 s0c5), (Value.int .i64 s0c6), (Value.int .i64 s0c7), (Value.slice s0c8a s0c8n s0c8c)]⟩)]) H (RetW Tryz.prog Tryz.f110.results.toList R) := by kernel_rfl
theorem seg_Reset_sh (s0c0 : Int) (s0c1 : Int) (s0c2 : Int) (s0c3 : Int) (s0c4 : Int) (s0c5 : Int) (s0c6 : Int) (s0c7 : Int) (s0c8a : Option Addr) (s0c8n : Nat) (s0c8c : Nat) {H : Heap} {R : Value → Heap → Prop} (h : seg_Reset_p s0c0 s0c1 s0c2 s0c3 s0c4 s0c5 s0c6 s0c7 s0c8a s0c8n s0c8c H fun v H1 => ∀ H2, Shut H H1 H2 → R v H2) : FnW Tryz.prog f_seg_Reset ⟨[(Value.agg ⟨[(Value.int .i64 s0c0), (Value.int .i64 s0c1), (Value.int .u32 s0c2), (Value.int .u32 s0c3), (Value.int .i64 s0c4), (Value.int .i64 s0c5), (Value.int .i64 s0c6), (Value.int .i64 s0c7), (Value.slice s0c8a s0c8n s0c8c)]⟩)]⟩ H R := FnW.of_code hk_seg_Reset (by kernel_rfl) (Eq.mp (seg_Reset_heq s0c0 s0c1 s0c2 s0c3 s0c4 s0c5 s0c6 s0c7 s0c8a s0c8n s0c8c H _) h)
def hplan_conn_Conn_news : Plan := ⟨[], [], [], []⟩
theorem hk_conn_Conn_news : Known Tryz.prog f_conn_Conn_news Tryz.f111 hplan_conn_Conn_news (bodyOf Tryz.f111) := ⟨Tryz.func111, by kernel_rfl, by kernel_rfl, by kernel_rfl, by kernel_rfl, by kernel_rfl⟩
def conn_Conn_news_p (c0b : Nat) (H : Heap) (R : Value → Heap → Prop) : Prop :=
 StCell H ⟨c0b, 11, none⟩ (Value.int .i64 (-1)) fun H1 =>
 ∃ x8 : Option Addr, H1.cell ⟨c0b, 4, none⟩ = some (Value.pointer x8) ∧
 NilP x8 fun x9p =>
 ∃ x11 : Option Addr, H1.cell x9p = some (Value.pointer x11) ∧
 FnW Tryz.prog f_rto_Estimate_Good ⟨[(Value.pointer x11)]⟩ H1 fun x12v H2 =>
 x12v = (Value.tuple ⟨[]⟩) ∧
 R (Value.tuple ⟨[]⟩) H2
theorem conn_Conn_news_heq (c0b : Nat) (H : Heap) (R : Value → Heap → Prop) : conn_Conn_news_p c0b H R = CodeW Tryz.prog hplan_conn_Conn_news (bodyOf Tryz.f111) (env0 [(Value.pointer (some ⟨c0b, 0, none⟩))]) H (RetW Tryz.prog Tryz.f111.results.toList R) := by kernel_rfl
theorem conn_Conn_news_sh (c0b : Nat) {H : Heap} {R : Value → Heap → Prop} (h : conn_Conn_news_p c0b H fun v H1 => ∀ H2, Shut H H1 H2 → R v H2) : FnW Tryz.prog f_conn_Conn_news ⟨[(Value.pointer (some ⟨c0b, 0, none⟩))]⟩ H R := FnW.of_code hk_conn_Conn_news (by kernel_rfl) (Eq.mp (conn_Conn_news_heq c0b H _) h)
def hplan_send_Outbox_Ack : Plan := ⟨[], [], [], []⟩
theorem hk_send_Outbox_Ack : Known Tryz.prog f_send_Outbox_Ack Tryz.f112 hplan_send_Outbox_Ack (bodyOf Tryz.f112) := ⟨Tryz.func112, by kernel_rfl, by kernel_rfl, by kernel_rfl, by kernel_rfl, by kernel_rfl⟩
def send_Outbox_Ack_j0 (o0b : Nat) (now1 : Int) (window3 : Int) (x19 : Int) (x39 : Bool) (H3 : Heap) (R : Value → Heap → Prop) : Prop :=
 IfB x39
 (R (Value.tuple ⟨[(Value.int .i64 0), (Value.int .i64 2)]⟩) H3)
 (StCell H3 ⟨o0b, 10, none⟩ (Value.int .i64 now1) fun H4 =>
 StCell H4 ⟨o0b, 8, none⟩ (Value.int .i64 window3) fun H5 =>
 IfB (decide (((IntKind.wrap .i64 x19) : Int) > 0))
 (FnW Tryz.prog f_send_Outbox_sure ⟨[(Value.pointer (some ⟨o0b, 0, none⟩)), (Value.int .i64 (IntKind.wrap .i64 x19))]⟩ H5 fun x52v H6 =>
 x52v = (Value.tuple ⟨[]⟩) ∧
 R (Value.tuple ⟨[(Value.int .i64 (IntKind.wrap .i64 x19)), (Value.int .i64 0)]⟩) H6)
 (R (Value.tuple ⟨[(Value.int .i64 (IntKind.wrap .i64 x19)), (Value.int .i64 0)]⟩) H5))
def send_Outbox_Ack_p (o0b : Nat) (now1 : Int) (ack2 : Int) (window3 : Int) (H : Heap) (R : Value → Heap → Prop) : Prop :=
 FnW Tryz.prog f_send_Outbox_is ⟨[(Value.pointer (some ⟨o0b, 0, none⟩))]⟩ H fun x12v H1 =>
 ∃ x12 : Bool, x12v = (Value.bool x12) ∧
 IfB (!x12)
 (R (Value.tuple ⟨[(Value.int .i64 0), (Value.int .i64 1)]⟩) H1)
 (∃ x17 : Int, H1.cell ⟨o0b, 4, none⟩ = some (Value.int .u32 x17) ∧
 FnW Tryz.prog f_seq_Way ⟨[(Value.int .u32 x17), (Value.int .u32 ack2)]⟩ H1 fun x19v H2 =>
 ∃ x19 : Int, x19v = (Value.int .u32 x19) ∧
 ∃ x25 : Int, H2.cell ⟨o0b, 10, none⟩ = some (Value.int .i64 x25) ∧
 IfB (decide ((now1 : Int) < x25))
 (send_Outbox_Ack_j0 o0b now1 window3 x19 true H2 R)
 (∃ x32 : Int, H2.cell ⟨o0b, 6, none⟩ = some (Value.int .i64 x32) ∧
 IfB (decide (((IntKind.wrap .i64 x19) : Int) > x32))
 (send_Outbox_Ack_j0 o0b now1 window3 x19 true H2 R)
 (FnW Tryz.prog f_send_within ⟨[(Value.int .i64 window3), (Value.int .i64 0)]⟩ H2 fun x37v H7 =>
 ∃ x37 : Bool, x37v = (Value.bool x37) ∧
 send_Outbox_Ack_j0 o0b now1 window3 x19 (!x37) H7 R)))
theorem send_Outbox_Ack_heq (o0b : Nat) (now1 : Int) (ack2 : Int) (window3 : Int) (H : Heap) (R : Value → Heap → Prop) : send_Outbox_Ack_p o0b now1 ack2 window3 H R = CodeW Tryz.prog hplan_send_Outbox_Ack (bodyOf Tryz.f112) (env0 [(Value.pointer (some ⟨o0b, 0, none⟩)), (Value.int .i64 now1), (Value.int .u32 ack2), (Value.int .i64 window3)]) H (RetW Tryz.prog Tryz.f112.results.toList R) := by kernel_rfl
theorem send_Outbox_Ack_sh (o0b : Nat) (now1 : Int) (ack2 : Int) (window3 : Int) {H : Heap} {R : Value → Heap → Prop} (h : send_Outbox_Ack_p o0b now1 ack2 window3 H fun v H1 => ∀ H2, Shut H H1 H2 → R v H2) : FnW Tryz.prog f_send_Outbox_Ack ⟨[(Value.pointer (some ⟨o0b, 0, none⟩)), (Value.int .i64 now1), (Value.int .u32 ack2), (Value.int .i64 window3)]⟩ H R := FnW.of_code hk_send_Outbox_Ack (by kernel_rfl) (Eq.mp (send_Outbox_Ack_heq o0b now1 ack2 window3 H _) h)
def hplan_seq_right : Plan := ⟨[], [], [], []⟩
theorem hk_seq_right : Known Tryz.prog f_seq_right Tryz.f113 hplan_seq_right (bodyOf Tryz.f113) := ⟨Tryz.func113, by kernel_rfl, by kernel_rfl, by kernel_rfl, by kernel_rfl, by kernel_rfl⟩
def seq_right_p (size0 : Int) (n1 : Int) (H : Heap) (R : Value → Heap → Prop) : Prop :=
 FnW Tryz.prog f_seq_sized ⟨[(Value.int .i64 size0)]⟩ H fun x6v H1 =>
 ∃ x6 : Bool, x6v = (Value.bool x6) ∧
 IfB x6
 (IfB (decide ((n1 : Int) ≥ 0))
 (R (Value.bool (decide ((n1 : Int) ≤ 1073741824))) H1)
 (R (Value.bool false) H1))
 (R (Value.bool false) H1)
theorem seq_right_heq (size0 : Int) (n1 : Int) (H : Heap) (R : Value → Heap → Prop) : seq_right_p size0 n1 H R = CodeW Tryz.prog hplan_seq_right (bodyOf Tryz.f113) (env0 [(Value.int .i64 size0), (Value.int .i64 n1)]) H (RetW Tryz.prog Tryz.f113.results.toList R) := by kernel_rfl
theorem seq_right_sh (size0 : Int) (n1 : Int) {H : Heap} {R : Value → Heap → Prop} (h : seq_right_p size0 n1 H fun v H1 => ∀ H2, Shut H H1 H2 → R v H2) : FnW Tryz.prog f_seq_right ⟨[(Value.int .i64 size0), (Value.int .i64 n1)]⟩ H R := FnW.of_code hk_seq_right (by kernel_rfl) (Eq.mp (seq_right_heq size0 n1 H _) h)
def hplan_seq_Within : Plan := ⟨[], [], [], []⟩
theorem hk_seq_Within : Known Tryz.prog f_seq_Within Tryz.f114 hplan_seq_Within (bodyOf Tryz.f114) := ⟨Tryz.func114, by kernel_rfl, by kernel_rfl, by kernel_rfl, by kernel_rfl, by kernel_rfl⟩
def seq_Within_p (a0 : Int) (from1 : Int) (size2 : Int) (H : Heap) (R : Value → Heap → Prop) : Prop :=
 FnW Tryz.prog f_seq_sized ⟨[(Value.int .i64 size2)]⟩ H fun x8v H1 =>
 ∃ x8 : Bool, x8v = (Value.bool x8) ∧
 IfB x8
 (FnW Tryz.prog f_seq_Way ⟨[(Value.int .u32 from1), (Value.int .u32 a0)]⟩ H1 fun x12v H2 =>
 ∃ x12 : Int, x12v = (Value.int .u32 x12) ∧
 R (Value.bool (decide ((x12 : Int) < (IntKind.wrap .u32 size2)))) H2)
 (R (Value.bool false) H1)
theorem seq_Within_heq (a0 : Int) (from1 : Int) (size2 : Int) (H : Heap) (R : Value → Heap → Prop) : seq_Within_p a0 from1 size2 H R = CodeW Tryz.prog hplan_seq_Within (bodyOf Tryz.f114) (env0 [(Value.int .u32 a0), (Value.int .u32 from1), (Value.int .i64 size2)]) H (RetW Tryz.prog Tryz.f114.results.toList R) := by kernel_rfl
theorem seq_Within_sh (a0 : Int) (from1 : Int) (size2 : Int) {H : Heap} {R : Value → Heap → Prop} (h : seq_Within_p a0 from1 size2 H fun v H1 => ∀ H2, Shut H H1 H2 → R v H2) : FnW Tryz.prog f_seq_Within ⟨[(Value.int .u32 a0), (Value.int .u32 from1), (Value.int .i64 size2)]⟩ H R := FnW.of_code hk_seq_Within (by kernel_rfl) (Eq.mp (seq_Within_heq a0 from1 size2 H _) h)
def hplan_seg_Segment_has : Plan := ⟨[], [], [], []⟩
theorem hk_seg_Segment_has : Known Tryz.prog f_seg_Segment_has Tryz.f115 hplan_seg_Segment_has (bodyOf Tryz.f115) := ⟨Tryz.func115, by kernel_rfl, by kernel_rfl, by kernel_rfl, by kernel_rfl, by kernel_rfl⟩
def seg_Segment_has_p (s0c0 : Int) (s0c1 : Int) (s0c2 : Int) (s0c3 : Int) (s0c4 : Int) (s0c5 : Int) (s0c6 : Int) (s0c7 : Int) (s0c8a : Option Addr) (s0c8n : Nat) (s0c8c : Nat) (flag1 : Int) (H : Heap) (R : Value → Heap → Prop) : Prop :=
 NewW H (Obj.cells ⟨[(Value.int .i64 s0c0), (Value.int .i64 s0c1), (Value.int .u32 s0c2), (Value.int .u32 s0c3), (Value.int .i64 s0c4), (Value.int .i64 s0c5), (Value.int .i64 s0c6), (Value.int .i64 s0c7), (Value.slice s0c8a s0c8n s0c8c)]⟩ T_seg_Segment) fun s2b H1 =>
 ∃ x6 : Int, H1.cell ⟨s2b, 4, none⟩ = some (Value.int .i64 x6) ∧
 IfB (decide ((x6 : Int) ≥ 0))
 (∃ x10 : Int, H1.cell ⟨s2b, 4, none⟩ = some (Value.int .i64 x10) ∧
 (0 : Int) ≤ flag1 ∧
 R (Value.bool (((bitsAnd .i64 (Int.fdiv x10 (2 ^ (min (flag1 : Int).toNat (IntKind.bits .i64)))) 1) : Int) == 1)) H1)
 (R (Value.bool false) H1)
theorem seg_Segment_has_heq (s0c0 : Int) (s0c1 : Int) (s0c2 : Int) (s0c3 : Int) (s0c4 : Int) (s0c5 : Int) (s0c6 : Int) (s0c7 : Int) (s0c8a : Option Addr) (s0c8n : Nat) (s0c8c : Nat) (flag1 : Int) (H : Heap) (R : Value → Heap → Prop) : seg_Segment_has_p s0c0 s0c1 s0c2 s0c3 s0c4 s0c5 s0c6 s0c7 s0c8a s0c8n s0c8c flag1 H R = CodeW Tryz.prog hplan_seg_Segment_has (bodyOf Tryz.f115) (env0 [(Value.agg ⟨[(Value.int .i64 s0c0), (Value.int .i64 s0c1), (Value.int .u32 s0c2), (Value.int .u32 s0c3), (Value.int .i64 s0c4), (Value.int .i64 s0c5), (Value.int .i64 s0c6), (Value.int .i64 s0c7), (Value.slice s0c8a s0c8n s0c8c)]⟩), (Value.int .i64 flag1)]) H (RetW Tryz.prog Tryz.f115.results.toList R) := by kernel_rfl
theorem seg_Segment_has_sh (s0c0 : Int) (s0c1 : Int) (s0c2 : Int) (s0c3 : Int) (s0c4 : Int) (s0c5 : Int) (s0c6 : Int) (s0c7 : Int) (s0c8a : Option Addr) (s0c8n : Nat) (s0c8c : Nat) (flag1 : Int) {H : Heap} {R : Value → Heap → Prop} (h : seg_Segment_has_p s0c0 s0c1 s0c2 s0c3 s0c4 s0c5 s0c6 s0c7 s0c8a s0c8n s0c8c flag1 H fun v H1 => ∀ H2, Shut H H1 H2 → R v H2) : FnW Tryz.prog f_seg_Segment_has ⟨[(Value.agg ⟨[(Value.int .i64 s0c0), (Value.int .i64 s0c1), (Value.int .u32 s0c2), (Value.int .u32 s0c3), (Value.int .i64 s0c4), (Value.int .i64 s0c5), (Value.int .i64 s0c6), (Value.int .i64 s0c7), (Value.slice s0c8a s0c8n s0c8c)]⟩), (Value.int .i64 flag1)]⟩ H R := FnW.of_code hk_seg_Segment_has (by kernel_rfl) (Eq.mp (seg_Segment_has_heq s0c0 s0c1 s0c2 s0c3 s0c4 s0c5 s0c6 s0c7 s0c8a s0c8n s0c8c flag1 H _) h)
def hplan_conn_Conn_finished : Plan := ⟨[], [], [], []⟩
theorem hk_conn_Conn_finished : Known Tryz.prog f_conn_Conn_finished Tryz.f116 hplan_conn_Conn_finished (bodyOf Tryz.f116) := ⟨Tryz.func116, by kernel_rfl, by kernel_rfl, by kernel_rfl, by kernel_rfl, by kernel_rfl⟩
def conn_Conn_finished_p (c0b : Nat) (H : Heap) (R : Value → Heap → Prop) : Prop :=
 ∃ x6 : Bool, H.cell ⟨c0b, 8, none⟩ = some (Value.bool x6) ∧
 IfB x6
 (R (Value.tuple ⟨[]⟩) H)
 (StCell H ⟨c0b, 8, none⟩ (Value.bool true) fun H1 =>
 ∃ x14 : Int, H1.cell ⟨c0b, 0, none⟩ = some (Value.int .i64 x14) ∧
 IfB ((x14 : Int) == 4)
 (StCell H1 ⟨c0b, 0, none⟩ (Value.int .i64 5) fun H2 =>
 R (Value.tuple ⟨[]⟩) H2)
 (IfB ((x14 : Int) == 7)
 (FnW Tryz.prog f_conn_Conn_rest ⟨[(Value.pointer (some ⟨c0b, 0, none⟩))]⟩ H1 fun x23v H3 =>
 x23v = (Value.tuple ⟨[]⟩) ∧
 R (Value.tuple ⟨[]⟩) H3)
 (IfB ((x14 : Int) == 8)
 (FnW Tryz.prog f_conn_Conn_die ⟨[(Value.pointer (some ⟨c0b, 0, none⟩))]⟩ H1 fun x27v H4 =>
 x27v = (Value.tuple ⟨[]⟩) ∧
 R (Value.tuple ⟨[]⟩) H4)
 (R (Value.tuple ⟨[]⟩) H1))))
theorem conn_Conn_finished_heq (c0b : Nat) (H : Heap) (R : Value → Heap → Prop) : conn_Conn_finished_p c0b H R = CodeW Tryz.prog hplan_conn_Conn_finished (bodyOf Tryz.f116) (env0 [(Value.pointer (some ⟨c0b, 0, none⟩))]) H (RetW Tryz.prog Tryz.f116.results.toList R) := by kernel_rfl
theorem conn_Conn_finished_sh (c0b : Nat) {H : Heap} {R : Value → Heap → Prop} (h : conn_Conn_finished_p c0b H fun v H1 => ∀ H2, Shut H H1 H2 → R v H2) : FnW Tryz.prog f_conn_Conn_finished ⟨[(Value.pointer (some ⟨c0b, 0, none⟩))]⟩ H R := FnW.of_code hk_conn_Conn_finished (by kernel_rfl) (Eq.mp (conn_Conn_finished_heq c0b H _) h)
def hplan_seq_Ahead : Plan := ⟨[], [], [], []⟩
theorem hk_seq_Ahead : Known Tryz.prog f_seq_Ahead Tryz.f117 hplan_seq_Ahead (bodyOf Tryz.f117) := ⟨Tryz.func117, by kernel_rfl, by kernel_rfl, by kernel_rfl, by kernel_rfl, by kernel_rfl⟩
def seq_Ahead_p (a0 : Int) (b1 : Int) (H : Heap) (R : Value → Heap → Prop) : Prop :=
 FnW Tryz.prog f_seq_Way ⟨[(Value.int .u32 a0), (Value.int .u32 b1)]⟩ H fun x8v H1 =>
 ∃ x8 : Int, x8v = (Value.int .u32 x8) ∧
 R (Value.bool (decide (((IntKind.wrap .u32 (x8 - 1)) : Int) < 2147483647))) H1
theorem seq_Ahead_heq (a0 : Int) (b1 : Int) (H : Heap) (R : Value → Heap → Prop) : seq_Ahead_p a0 b1 H R = CodeW Tryz.prog hplan_seq_Ahead (bodyOf Tryz.f117) (env0 [(Value.int .u32 a0), (Value.int .u32 b1)]) H (RetW Tryz.prog Tryz.f117.results.toList R) := by kernel_rfl
theorem seq_Ahead_sh (a0 : Int) (b1 : Int) {H : Heap} {R : Value → Heap → Prop} (h : seq_Ahead_p a0 b1 H fun v H1 => ∀ H2, Shut H H1 H2 → R v H2) : FnW Tryz.prog f_seq_Ahead ⟨[(Value.int .u32 a0), (Value.int .u32 b1)]⟩ H R := FnW.of_code hk_seq_Ahead (by kernel_rfl) (Eq.mp (seq_Ahead_heq a0 b1 H _) h)
def hplan_send_Outbox_Una : Plan := ⟨[], [], [], []⟩
theorem hk_send_Outbox_Una : Known Tryz.prog f_send_Outbox_Una Tryz.f118 hplan_send_Outbox_Una (bodyOf Tryz.f118) := ⟨Tryz.func118, by kernel_rfl, by kernel_rfl, by kernel_rfl, by kernel_rfl, by kernel_rfl⟩
def send_Outbox_Una_p (o0b : Nat) (H : Heap) (R : Value → Heap → Prop) : Prop :=
 FnW Tryz.prog f_send_Outbox_is ⟨[(Value.pointer (some ⟨o0b, 0, none⟩))]⟩ H fun x4v H1 =>
 ∃ x4 : Bool, x4v = (Value.bool x4) ∧
 IfB (!x4)
 (R (Value.int .u32 0) H1)
 (∃ x9 : Int, H1.cell ⟨o0b, 4, none⟩ = some (Value.int .u32 x9) ∧
 R (Value.int .u32 x9) H1)
theorem send_Outbox_Una_heq (o0b : Nat) (H : Heap) (R : Value → Heap → Prop) : send_Outbox_Una_p o0b H R = CodeW Tryz.prog hplan_send_Outbox_Una (bodyOf Tryz.f118) (env0 [(Value.pointer (some ⟨o0b, 0, none⟩))]) H (RetW Tryz.prog Tryz.f118.results.toList R) := by kernel_rfl
theorem send_Outbox_Una_sh (o0b : Nat) {H : Heap} {R : Value → Heap → Prop} (h : send_Outbox_Una_p o0b H fun v H1 => ∀ H2, Shut H H1 H2 → R v H2) : FnW Tryz.prog f_send_Outbox_Una ⟨[(Value.pointer (some ⟨o0b, 0, none⟩))]⟩ H R := FnW.of_code hk_send_Outbox_Una (by kernel_rfl) (Eq.mp (send_Outbox_Una_heq o0b H _) h)
def hplan_rto_Estimate_Good : Plan := ⟨[], [], [], []⟩
theorem hk_rto_Estimate_Good : Known Tryz.prog f_rto_Estimate_Good Tryz.f119 hplan_rto_Estimate_Good (bodyOf Tryz.f119) := ⟨Tryz.func119, by kernel_rfl, by kernel_rfl, by kernel_rfl, by kernel_rfl, by kernel_rfl⟩
def rto_Estimate_Good_p (e0b : Nat) (H : Heap) (R : Value → Heap → Prop) : Prop :=
 FnW Tryz.prog f_rto_Estimate_is ⟨[(Value.pointer (some ⟨e0b, 0, none⟩))]⟩ H fun x3v H1 =>
 ∃ x3 : Bool, x3v = (Value.bool x3) ∧
 IfB x3
 (StCell H1 ⟨e0b, 2, none⟩ (Value.int .i64 0) fun H2 =>
 R (Value.tuple ⟨[]⟩) H2)
 (R (Value.tuple ⟨[]⟩) H1)
theorem rto_Estimate_Good_heq (e0b : Nat) (H : Heap) (R : Value → Heap → Prop) : rto_Estimate_Good_p e0b H R = CodeW Tryz.prog hplan_rto_Estimate_Good (bodyOf Tryz.f119) (env0 [(Value.pointer (some ⟨e0b, 0, none⟩))]) H (RetW Tryz.prog Tryz.f119.results.toList R) := by kernel_rfl
theorem rto_Estimate_Good_sh (e0b : Nat) {H : Heap} {R : Value → Heap → Prop} (h : rto_Estimate_Good_p e0b H fun v H1 => ∀ H2, Shut H H1 H2 → R v H2) : FnW Tryz.prog f_rto_Estimate_Good ⟨[(Value.pointer (some ⟨e0b, 0, none⟩))]⟩ H R := FnW.of_code hk_rto_Estimate_Good (by kernel_rfl) (Eq.mp (rto_Estimate_Good_heq e0b H _) h)
def hplan_join_Joint_Add : Plan := ⟨[(5, [0, 1, 2, 3, 4, 6, 7, 8, 5, 9, 10, 11, 12, 13, 14, 15, 16], [25]), (8, [0, 1, 2, 3, 4, 5, 6, 7, 8, 9], [41])], [(10, [48], [.int .i64], [0, 2, 8, 11, 47])], [], []⟩
theorem hk_join_Joint_Add : Known Tryz.prog f_join_Joint_Add Tryz.f120 hplan_join_Joint_Add (bodyOf Tryz.f120) := ⟨Tryz.func120, by kernel_rfl, by kernel_rfl, by kernel_rfl, by kernel_rfl, by kernel_rfl⟩
def join_Joint_Add_l10 (j0b : Nat) (b2a : Option Addr) (b2n : Nat) (b2c : Nat) (x31r0 : Int) (x45 : Int) (x31r1 : Int) (x48 : Int) (H6 : Heap) (next10 : (Int × Unit) → Heap → Prop) (R : Value → Heap → Prop) : Prop :=
 IfB (decide ((x48 : Int) < x31r1))
 (NilP b2a fun x59q =>
 InB (IntKind.wrap .i64 (x31r0 + x48)) b2n fun x59i =>
 elemAt x59q x59i 1 fun x59p =>
 ∃ x60 : Int, H6.cell x59p = some (Value.int .u8 x60) ∧
 FnW Tryz.prog f_join_Joint_hold ⟨[(Value.pointer (some ⟨j0b, 0, none⟩)), (Value.int .i64 (IntKind.wrap .i64 ((IntKind.wrap .i64 x45) + x48))), (Value.int .u8 x60)]⟩ H6 fun x61v H7 =>
 x61v = (Value.tuple ⟨[]⟩) ∧
 next10 ((IntKind.wrap .i64 (x48 + 1)), ()) H7)
 (FnW Tryz.prog f_join_Joint_move ⟨[(Value.pointer (some ⟨j0b, 0, none⟩))]⟩ H6 fun x64v H8 =>
 ∃ x64 : Int, x64v = (Value.int .i64 x64) ∧
 R (Value.tuple ⟨[(Value.int .i64 x64), (Value.int .i64 0)]⟩) H8)
def join_Joint_Add_p (j0b : Nat) (at1 : Int) (b2a : Option Addr) (b2n : Nat) (b2c : Nat) (H : Heap) (R : Value → Heap → Prop) : Prop :=
 FnW Tryz.prog f_join_Joint_is ⟨[(Value.pointer (some ⟨j0b, 0, none⟩))]⟩ H fun x15v H1 =>
 ∃ x15 : Bool, x15v = (Value.bool x15) ∧
 IfB (!x15)
 (R (Value.tuple ⟨[(Value.int .i64 0), (Value.int .i64 1)]⟩) H1)
 (IfB (decide (((b2n : Int) : Int) > 65536))
 (R (Value.tuple ⟨[(Value.int .i64 0), (Value.int .i64 3)]⟩) H1)
 (∃ bs : List Nat, (∀ b ∈ bs, ∃ o, H1 b = some o) ∧
 j0b ∈ bs ∧ ∃ x25 : Int, H1.cell ⟨j0b, 0, none⟩ = some (Value.int .u32 x25) ∧
 FnW Tryz.prog f_join_Joint_Window ⟨[(Value.pointer (some ⟨j0b, 0, none⟩))]⟩ H1 fun x27v H2 =>
 ∃ x27 : Int, x27v = (Value.int .i64 x27) ∧
 KeptIn bs H1 H2 ∧ FnW Tryz.prog f_seq_Trim ⟨[(Value.int .u32 x25), (Value.int .i64 x27), (Value.int .u32 at1), (Value.int .i64 (b2n : Int))]⟩ H2 fun x31v H3 =>
 ∃ x31r0 : Int, ∃ x31r1 : Int, ∃ x31r2 : Int, x31v = (Value.tuple ⟨[(Value.int .i64 x31r0), (Value.int .i64 x31r1), (Value.int .i64 x31r2)]⟩) ∧
 KeptIn bs H1 H3 ∧ IfB ((x31r2 : Int) != 0)
 (R (Value.tuple ⟨[(Value.int .i64 0), (Value.int .i64 x31r2)]⟩) H3)
 (∃ bs : List Nat, (∀ b ∈ bs, ∃ o, H3 b = some o) ∧
 j0b ∈ bs ∧ ∃ x41 : Int, H3.cell ⟨j0b, 0, none⟩ = some (Value.int .u32 x41) ∧
 FnW Tryz.prog f_seq_Add ⟨[(Value.int .u32 at1), (Value.int .i64 x31r0)]⟩ H3 fun x44v H4 =>
 ∃ x44 : Int, x44v = (Value.int .u32 x44) ∧
 KeptIn bs H3 H4 ∧ FnW Tryz.prog f_seq_Way ⟨[(Value.int .u32 x41), (Value.int .u32 x44)]⟩ H4 fun x45v H5 =>
 ∃ x45 : Int, x45v = (Value.int .u32 x45) ∧
 LoopI (Int × Unit) (0, ()) H5 fun x H next => ∀ _g : Env, join_Joint_Add_l10 j0b b2a b2n b2c x31r0 x45 x31r1 x.1 H next R)))
theorem join_Joint_Add_heq (j0b : Nat) (at1 : Int) (b2a : Option Addr) (b2n : Nat) (b2c : Nat) (H : Heap) (R : Value → Heap → Prop) : join_Joint_Add_p j0b at1 b2a b2n b2c H R = CodeW Tryz.prog hplan_join_Joint_Add (bodyOf Tryz.f120) (env0 [(Value.pointer (some ⟨j0b, 0, none⟩)), (Value.int .u32 at1), (Value.slice b2a b2n b2c)]) H (RetW Tryz.prog Tryz.f120.results.toList R) := by kernel_rfl
theorem join_Joint_Add_sh (j0b : Nat) (at1 : Int) (b2a : Option Addr) (b2n : Nat) (b2c : Nat) {H : Heap} {R : Value → Heap → Prop} (h : join_Joint_Add_p j0b at1 b2a b2n b2c H fun v H1 => ∀ H2, Shut H H1 H2 → R v H2) : FnW Tryz.prog f_join_Joint_Add ⟨[(Value.pointer (some ⟨j0b, 0, none⟩)), (Value.int .u32 at1), (Value.slice b2a b2n b2c)]⟩ H R := FnW.of_code hk_join_Joint_Add (by kernel_rfl) (Eq.mp (join_Joint_Add_heq j0b at1 b2a b2n b2c H _) h)
def hplan_conn_Conn_rest : Plan := ⟨[], [], [], []⟩
theorem hk_conn_Conn_rest : Known Tryz.prog f_conn_Conn_rest Tryz.f121 hplan_conn_Conn_rest (bodyOf Tryz.f121) := ⟨Tryz.func121, by kernel_rfl, by kernel_rfl, by kernel_rfl, by kernel_rfl, by kernel_rfl⟩
def conn_Conn_rest_p (c0b : Nat) (H : Heap) (R : Value → Heap → Prop) : Prop :=
 ∃ x7 : Int, H.cell ⟨c0b, 10, none⟩ = some (Value.int .i64 x7) ∧
 StCell H ⟨c0b, 0, none⟩ (Value.int .i64 9) fun H1 =>
 StCell H1 ⟨c0b, 11, none⟩ (Value.int .i64 (IntKind.wrap .i64 (x7 + 120))) fun H2 =>
 R (Value.tuple ⟨[]⟩) H2
theorem conn_Conn_rest_heq (c0b : Nat) (H : Heap) (R : Value → Heap → Prop) : conn_Conn_rest_p c0b H R = CodeW Tryz.prog hplan_conn_Conn_rest (bodyOf Tryz.f121) (env0 [(Value.pointer (some ⟨c0b, 0, none⟩))]) H (RetW Tryz.prog Tryz.f121.results.toList R) := by kernel_rfl
theorem conn_Conn_rest_sh (c0b : Nat) {H : Heap} {R : Value → Heap → Prop} (h : conn_Conn_rest_p c0b H fun v H1 => ∀ H2, Shut H H1 H2 → R v H2) : FnW Tryz.prog f_conn_Conn_rest ⟨[(Value.pointer (some ⟨c0b, 0, none⟩))]⟩ H R := FnW.of_code hk_conn_Conn_rest (by kernel_rfl) (Eq.mp (conn_Conn_rest_heq c0b H _) h)
def hplan_rto_Estimate_is : Plan := ⟨[], [], [], []⟩
theorem hk_rto_Estimate_is : Known Tryz.prog f_rto_Estimate_is Tryz.f122 hplan_rto_Estimate_is (bodyOf Tryz.f122) := ⟨Tryz.func122, by kernel_rfl, by kernel_rfl, by kernel_rfl, by kernel_rfl, by kernel_rfl⟩
def rto_Estimate_is_p (e0b : Nat) (H : Heap) (R : Value → Heap → Prop) : Prop :=
 ∃ x9 : Bool, H.cell ⟨e0b, 4, none⟩ = some (Value.bool x9) ∧
 R (Value.bool x9) H
theorem rto_Estimate_is_heq (e0b : Nat) (H : Heap) (R : Value → Heap → Prop) : rto_Estimate_is_p e0b H R = CodeW Tryz.prog hplan_rto_Estimate_is (bodyOf Tryz.f122) (env0 [(Value.pointer (some ⟨e0b, 0, none⟩))]) H (RetW Tryz.prog Tryz.f122.results.toList R) := by kernel_rfl
theorem rto_Estimate_is_sh (e0b : Nat) {H : Heap} {R : Value → Heap → Prop} (h : rto_Estimate_is_p e0b H fun v H1 => ∀ H2, Shut H H1 H2 → R v H2) : FnW Tryz.prog f_rto_Estimate_is ⟨[(Value.pointer (some ⟨e0b, 0, none⟩))]⟩ H R := FnW.of_code hk_rto_Estimate_is (by kernel_rfl) (Eq.mp (rto_Estimate_is_heq e0b H _) h)
def hplan_send_Outbox_at : Plan := ⟨[], [], [], []⟩
theorem hk_send_Outbox_at : Known Tryz.prog f_send_Outbox_at Tryz.f123 hplan_send_Outbox_at (bodyOf Tryz.f123) := ⟨Tryz.func123, by kernel_rfl, by kernel_rfl, by kernel_rfl, by kernel_rfl, by kernel_rfl⟩
def send_Outbox_at_p (o0b : Nat) (now1 : Int) (H : Heap) (R : Value → Heap → Prop) : Prop :=
 FnW Tryz.prog f_send_Outbox_is ⟨[(Value.pointer (some ⟨o0b, 0, none⟩))]⟩ H fun x7v H1 =>
 ∃ x7 : Bool, x7v = (Value.bool x7) ∧
 IfB (!x7)
 (R (Value.int .i64 1) H1)
 (∃ x14 : Int, H1.cell ⟨o0b, 10, none⟩ = some (Value.int .i64 x14) ∧
 IfB (decide ((now1 : Int) < x14))
 (R (Value.int .i64 2) H1)
 (StCell H1 ⟨o0b, 10, none⟩ (Value.int .i64 now1) fun H2 =>
 R (Value.int .i64 0) H2))
theorem send_Outbox_at_heq (o0b : Nat) (now1 : Int) (H : Heap) (R : Value → Heap → Prop) : send_Outbox_at_p o0b now1 H R = CodeW Tryz.prog hplan_send_Outbox_at (bodyOf Tryz.f123) (env0 [(Value.pointer (some ⟨o0b, 0, none⟩)), (Value.int .i64 now1)]) H (RetW Tryz.prog Tryz.f123.results.toList R) := by kernel_rfl
theorem send_Outbox_at_sh (o0b : Nat) (now1 : Int) {H : Heap} {R : Value → Heap → Prop} (h : send_Outbox_at_p o0b now1 H fun v H1 => ∀ H2, Shut H H1 H2 → R v H2) : FnW Tryz.prog f_send_Outbox_at ⟨[(Value.pointer (some ⟨o0b, 0, none⟩)), (Value.int .i64 now1)]⟩ H R := FnW.of_code hk_send_Outbox_at (by kernel_rfl) (Eq.mp (send_Outbox_at_heq o0b now1 H _) h)
def hplan_send_Outbox_first : Plan := ⟨[(6, [0, 1, 3, 4, 5, 6, 2, 7, 8, 9, 10], [41])], [], [], []⟩
theorem hk_send_Outbox_first : Known Tryz.prog f_send_Outbox_first Tryz.f124 hplan_send_Outbox_first (bodyOf Tryz.f124) := ⟨Tryz.func124, by kernel_rfl, by kernel_rfl, by kernel_rfl, by kernel_rfl, by kernel_rfl⟩
def send_Outbox_first_j0 (o0b : Nat) (n1 : Int) (x12 : Int) (x28a : Option Addr) (x28n : Nat) (x28c : Nat) (H7 : Heap) (R : Value → Heap → Prop) : Prop :=
 ∃ x48 : Int, H7.cell ⟨o0b, 6, none⟩ = some (Value.int .i64 x48) ∧
 StCell H7 ⟨o0b, 6, none⟩ (Value.int .i64 (IntKind.wrap .i64 (x48 + n1))) fun H8 =>
 R (Value.tuple ⟨[(Value.int .u32 x12), (Value.slice x28a x28n x28c), (Value.int .i64 0)]⟩) H8
def send_Outbox_first_p (o0b : Nat) (n1 : Int) (H : Heap) (R : Value → Heap → Prop) : Prop :=
 IfB (decide ((n1 : Int) ≤ 0))
 (R (Value.tuple ⟨[(Value.int .u32 0), (Value.slice none 0 0), (Value.int .i64 5)]⟩) H)
 (FnW Tryz.prog f_send_Outbox_Next ⟨[(Value.pointer (some ⟨o0b, 0, none⟩))]⟩ H fun x12v H1 =>
 ∃ x12 : Int, x12v = (Value.int .u32 x12) ∧
 ∃ (x16a : Option Addr) (x16n x16c : Nat), H1.cell ⟨o0b, 5, none⟩ = some (Value.slice x16a x16n x16c) ∧
 ∃ x20 : Int, H1.cell ⟨o0b, 6, none⟩ = some (Value.int .i64 x20) ∧
 ∃ x24 : Int, H1.cell ⟨o0b, 6, none⟩ = some (Value.int .i64 x24) ∧
 InC (IntKind.wrap .i64 (x24 + n1)) x16c fun x27h =>
 InC x20 x27h fun x27l =>
 FnW Tryz.prog f_slices_Cloneasl_byte_byte ⟨[(Value.slice (if x16c = x27l then x16a else Option.map (fun a => Addr.add a (x27l * 1)) x16a) (x27h - x27l) (x16c - x27l))]⟩ H1 fun x28v H2 =>
 ∃ (x28a : Option Addr) (x28n x28c : Nat), x28v = (Value.slice x28a x28n x28c) ∧
 ∃ x33 : Bool, H2.cell ⟨o0b, 1, none⟩ = some (Value.bool x33) ∧
 IfB (!x33)
 (∃ bs : List Nat, (∀ b ∈ bs, ∃ o, H2 b = some o) ∧
 o0b ∈ bs ∧ ∃ x41 : Int, H2.cell ⟨o0b, 10, none⟩ = some (Value.int .i64 x41) ∧
 FnW Tryz.prog f_seq_Add ⟨[(Value.int .u32 x12), (Value.int .i64 1)]⟩ H2 fun x37v H3 =>
 ∃ x37 : Int, x37v = (Value.int .u32 x37) ∧
 KeptIn bs H2 H3 ∧ StCell H3 ⟨o0b, 1, none⟩ (Value.bool true) fun H4 =>
 StCell H4 ⟨o0b, 2, none⟩ (Value.int .u32 x37) fun H5 =>
 StCell H5 ⟨o0b, 3, none⟩ (Value.int .i64 x41) fun H6 =>
 send_Outbox_first_j0 o0b n1 x12 x28a x28n x28c H6 R)
 (send_Outbox_first_j0 o0b n1 x12 x28a x28n x28c H2 R))
theorem send_Outbox_first_heq (o0b : Nat) (n1 : Int) (H : Heap) (R : Value → Heap → Prop) : send_Outbox_first_p o0b n1 H R = CodeW Tryz.prog hplan_send_Outbox_first (bodyOf Tryz.f124) (env0 [(Value.pointer (some ⟨o0b, 0, none⟩)), (Value.int .i64 n1)]) H (RetW Tryz.prog Tryz.f124.results.toList R) := by kernel_rfl
theorem send_Outbox_first_sh (o0b : Nat) (n1 : Int) {H : Heap} {R : Value → Heap → Prop} (h : send_Outbox_first_p o0b n1 H fun v H1 => ∀ H2, Shut H H1 H2 → R v H2) : FnW Tryz.prog f_send_Outbox_first ⟨[(Value.pointer (some ⟨o0b, 0, none⟩)), (Value.int .i64 n1)]⟩ H R := FnW.of_code hk_send_Outbox_first (by kernel_rfl) (Eq.mp (send_Outbox_first_heq o0b n1 H _) h)
def hplan_slices_Growasl_byte_byte : Plan := ⟨[], [], [], []⟩
theorem hk_slices_Growasl_byte_byte : Known Tryz.prog f_slices_Growasl_byte_byte Tryz.f125 hplan_slices_Growasl_byte_byte (bodyOf Tryz.f125) := ⟨Tryz.func125, by kernel_rfl, by kernel_rfl, by kernel_rfl, by kernel_rfl, by kernel_rfl⟩
def slices_Growasl_byte_byte_p (s0a : Option Addr) (s0n : Nat) (s0c : Nat) (n1 : Int) (H : Heap) (R : Value → Heap → Prop) : Prop :=
 IfB (decide ((n1 : Int) < 0))
 (False)
 (IfB (decide (((IntKind.wrap .i64 (n1 - (IntKind.wrap .i64 ((s0c : Int) - (s0n : Int))))) : Int) > 0))
 (InC (s0c : Int) s0c fun x20h =>
 AppW Tryz.prog #[T_sl_uint8, T_int] T_sl_uint8 [(Value.slice s0a x20h s0c), (Value.int .i64 (IntKind.wrap .i64 (n1 - (IntKind.wrap .i64 ((s0c : Int) - (s0n : Int))))))] H fun x22v H1 =>
 ∃ (x22a : Option Addr) (x22n x22c : Nat), x22v = (Value.slice x22a x22n x22c) ∧
 InC (s0n : Int) x22c fun x25h =>
 R (Value.slice x22a x25h x22c) H1)
 (R (Value.slice s0a s0n s0c) H))
theorem slices_Growasl_byte_byte_heq (s0a : Option Addr) (s0n : Nat) (s0c : Nat) (n1 : Int) (H : Heap) (R : Value → Heap → Prop) : slices_Growasl_byte_byte_p s0a s0n s0c n1 H R = CodeW Tryz.prog hplan_slices_Growasl_byte_byte (bodyOf Tryz.f125) (env0 [(Value.slice s0a s0n s0c), (Value.int .i64 n1)]) H (RetW Tryz.prog Tryz.f125.results.toList R) := by kernel_rfl
theorem slices_Growasl_byte_byte_sh (s0a : Option Addr) (s0n : Nat) (s0c : Nat) (n1 : Int) {H : Heap} {R : Value → Heap → Prop} (h : slices_Growasl_byte_byte_p s0a s0n s0c n1 H fun v H1 => ∀ H2, Shut H H1 H2 → R v H2) : FnW Tryz.prog f_slices_Growasl_byte_byte ⟨[(Value.slice s0a s0n s0c), (Value.int .i64 n1)]⟩ H R := FnW.of_code hk_slices_Growasl_byte_byte (by kernel_rfl) (Eq.mp (slices_Growasl_byte_byte_heq s0a s0n s0c n1 H _) h)
def hplan_send_within : Plan := ⟨[], [], [], []⟩
theorem hk_send_within : Known Tryz.prog f_send_within Tryz.f126 hplan_send_within (bodyOf Tryz.f126) := ⟨Tryz.func126, by kernel_rfl, by kernel_rfl, by kernel_rfl, by kernel_rfl, by kernel_rfl⟩
def send_within_p (n0 : Int) (least1 : Int) (H : Heap) (R : Value → Heap → Prop) : Prop :=
 IfB (decide ((n0 : Int) ≥ least1))
 (R (Value.bool (decide ((n0 : Int) ≤ 65535))) H)
 (R (Value.bool false) H)
theorem send_within_heq (n0 : Int) (least1 : Int) (H : Heap) (R : Value → Heap → Prop) : send_within_p n0 least1 H R = CodeW Tryz.prog hplan_send_within (bodyOf Tryz.f126) (env0 [(Value.int .i64 n0), (Value.int .i64 least1)]) H (RetW Tryz.prog Tryz.f126.results.toList R) := by kernel_rfl
theorem send_within_sh (n0 : Int) (least1 : Int) {H : Heap} {R : Value → Heap → Prop} (h : send_within_p n0 least1 H fun v H1 => ∀ H2, Shut H H1 H2 → R v H2) : FnW Tryz.prog f_send_within ⟨[(Value.int .i64 n0), (Value.int .i64 least1)]⟩ H R := FnW.of_code hk_send_within (by kernel_rfl) (Eq.mp (send_within_heq n0 least1 H _) h)
def hplan_rto_New : Plan := ⟨[], [], [], []⟩
theorem hk_rto_New : Known Tryz.prog f_rto_New Tryz.f127 hplan_rto_New (bodyOf Tryz.f127) := ⟨Tryz.func127, by kernel_rfl, by kernel_rfl, by kernel_rfl, by kernel_rfl, by kernel_rfl⟩
def rto_New_p (H : Heap) (R : Value → Heap → Prop) : Prop :=
 NewW H (Obj.cells ⟨[(Value.int .i64 0), (Value.int .i64 0), (Value.int .i64 0), (Value.bool false), (Value.bool true)]⟩ T_rto_Estimate) fun x2b H1 =>
 R (Value.pointer (some ⟨x2b, 0, none⟩)) H1
theorem rto_New_heq  (H : Heap) (R : Value → Heap → Prop) : rto_New_p  H R = CodeW Tryz.prog hplan_rto_New (bodyOf Tryz.f127) (env0 []) H (RetW Tryz.prog Tryz.f127.results.toList R) := by kernel_rfl
theorem rto_New_sh  {H : Heap} {R : Value → Heap → Prop} (h : rto_New_p  H fun v H1 => ∀ H2, Shut H H1 H2 → R v H2) : FnW Tryz.prog f_rto_New ⟨[]⟩ H R := FnW.of_code hk_rto_New (by kernel_rfl) (Eq.mp (rto_New_heq  H _) h)
def hplan_sum_round : Plan := ⟨[], [(2000000, [0], [.int .u32], [])], [], []⟩
theorem hk_sum_round : Known Tryz.prog f_sum_round Tryz.f128 hplan_sum_round (bodyOf Tryz.f128) := ⟨Tryz.func128, by kernel_rfl, by kernel_rfl, by kernel_rfl, by kernel_rfl, by kernel_rfl⟩
def sum_round_l2000000 (n0_1 : Int) (H1 : Heap) (next2000000 : (Int × Unit) → Heap → Prop) (R : Value → Heap → Prop) : Prop :=
 IfB (decide ((n0_1 : Int) > 65535))
 ((0 : Int) ≤ 16 ∧
 next2000000 ((IntKind.wrap .u32 ((bitsAnd .u32 n0_1 65535) + (Int.fdiv n0_1 (2 ^ (min (16 : Int).toNat (IntKind.bits .u32)))))), ()) H1)
 (R (Value.int .u32 n0_1) H1)
def sum_round_p (n0 : Int) (H : Heap) (R : Value → Heap → Prop) : Prop :=
 LoopI (Int × Unit) (n0, ()) H fun x H next => ∀ _g : Env, sum_round_l2000000 x.1 H next R
theorem sum_round_heq (n0 : Int) (H : Heap) (R : Value → Heap → Prop) : sum_round_p n0 H R = CodeW Tryz.prog hplan_sum_round (bodyOf Tryz.f128) (env0 [(Value.int .u32 n0)]) H (RetW Tryz.prog Tryz.f128.results.toList R) := by kernel_rfl
theorem sum_round_sh (n0 : Int) {H : Heap} {R : Value → Heap → Prop} (h : sum_round_p n0 H fun v H1 => ∀ H2, Shut H H1 H2 → R v H2) : FnW Tryz.prog f_sum_round ⟨[(Value.int .u32 n0)]⟩ H R := FnW.of_code hk_sum_round (by kernel_rfl) (Eq.mp (sum_round_heq n0 H _) h)
def hplan_sum_Add : Plan := ⟨[], [(3, [5, 12], [.int .u32, .int .i64], [1, 11])], [], []⟩
theorem hk_sum_Add : Known Tryz.prog f_sum_Add Tryz.f129 hplan_sum_Add (bodyOf Tryz.f129) := ⟨Tryz.func129, by kernel_rfl, by kernel_rfl, by kernel_rfl, by kernel_rfl, by kernel_rfl⟩
def sum_Add_l3 (b1a : Option Addr) (b1n : Nat) (b1c : Nat) (n5 : Int) (x12 : Int) (H2 : Heap) (next3 : (Int × Int × Unit) → Heap → Prop) (R : Value → Heap → Prop) : Prop :=
 IfB (decide ((x12 : Int) < (IntKind.wrap .i64 (Int.tdiv (b1n : Int) 2))))
 (NilP b1a fun x19q =>
 InB (IntKind.wrap .i64 (2 * x12)) b1n fun x19i =>
 elemAt x19q x19i 1 fun x19p =>
 ∃ x20 : Int, H2.cell x19p = some (Value.int .u8 x20) ∧
 (0 : Int) ≤ 8 ∧
 NilP b1a fun x28q =>
 InB (IntKind.wrap .i64 ((IntKind.wrap .i64 (2 * x12)) + 1)) b1n fun x28i =>
 elemAt x28q x28i 1 fun x28p =>
 ∃ x29 : Int, H2.cell x28p = some (Value.int .u8 x29) ∧
 FnW Tryz.prog f_sum_round ⟨[(Value.int .u32 (IntKind.wrap .u32 ((IntKind.wrap .u32 (n5 + (IntKind.wrap .u32 ((IntKind.wrap .u32 x20) * 2 ^ (min (8 : Int).toNat (IntKind.bits .u32)))))) + (IntKind.wrap .u32 x29))))]⟩ H2 fun x32v H3 =>
 ∃ x32 : Int, x32v = (Value.int .u32 x32) ∧
 next3 (x32, ((IntKind.wrap .i64 (x12 + 1)), ())) H3)
 ((2 : Int) ≠ 0 ∧
 IfB (((Int.tmod (b1n : Int) 2) : Int) == 1)
 (NilP b1a fun x43q =>
 InB (IntKind.wrap .i64 ((b1n : Int) - 1)) b1n fun x43i =>
 elemAt x43q x43i 1 fun x43p =>
 ∃ x44 : Int, H2.cell x43p = some (Value.int .u8 x44) ∧
 (0 : Int) ≤ 8 ∧
 FnW Tryz.prog f_sum_round ⟨[(Value.int .u32 (IntKind.wrap .u32 (n5 + (IntKind.wrap .u32 ((IntKind.wrap .u32 x44) * 2 ^ (min (8 : Int).toNat (IntKind.bits .u32)))))))]⟩ H2 fun x48v H4 =>
 ∃ x48 : Int, x48v = (Value.int .u32 x48) ∧
 R (Value.int .u32 x48) H4)
 (R (Value.int .u32 n5) H2))
def sum_Add_p (partial0 : Int) (b1a : Option Addr) (b1n : Nat) (b1c : Nat) (H : Heap) (R : Value → Heap → Prop) : Prop :=
 FnW Tryz.prog f_sum_round ⟨[(Value.int .u32 partial0)]⟩ H fun x8v H1 =>
 ∃ x8 : Int, x8v = (Value.int .u32 x8) ∧
 (2 : Int) ≠ 0 ∧
 LoopI (Int × Int × Unit) (x8, (0, ())) H1 fun x H next => ∀ _g : Env, sum_Add_l3 b1a b1n b1c x.1 x.2.1 H next R
theorem sum_Add_heq (partial0 : Int) (b1a : Option Addr) (b1n : Nat) (b1c : Nat) (H : Heap) (R : Value → Heap → Prop) : sum_Add_p partial0 b1a b1n b1c H R = CodeW Tryz.prog hplan_sum_Add (bodyOf Tryz.f129) (env0 [(Value.int .u32 partial0), (Value.slice b1a b1n b1c)]) H (RetW Tryz.prog Tryz.f129.results.toList R) := by kernel_rfl
theorem sum_Add_sh (partial0 : Int) (b1a : Option Addr) (b1n : Nat) (b1c : Nat) {H : Heap} {R : Value → Heap → Prop} (h : sum_Add_p partial0 b1a b1n b1c H fun v H1 => ∀ H2, Shut H H1 H2 → R v H2) : FnW Tryz.prog f_sum_Add ⟨[(Value.int .u32 partial0), (Value.slice b1a b1n b1c)]⟩ H R := FnW.of_code hk_sum_Add (by kernel_rfl) (Eq.mp (sum_Add_heq partial0 b1a b1n b1c H _) h)
def hplan_sum_Pseudo : Plan := ⟨[], [], [(4, 7)], []⟩
theorem hk_sum_Pseudo : Known Tryz.prog f_sum_Pseudo Tryz.f130 hplan_sum_Pseudo (bodyOf Tryz.f130) := ⟨Tryz.func130, by kernel_rfl, by kernel_rfl, by kernel_rfl, by kernel_rfl, by kernel_rfl⟩
def sum_Pseudo_p (from0 : Int) (to1 : Int) (kind2 : Int) (n3 : Int) (H : Heap) (R : Value → Heap → Prop) : Prop :=
 (0 : Int) ≤ 16 ∧
 (0 : Int) ≤ 16 ∧
 NewW H (Obj.cells ⟨[(Value.int .u32 0), (Value.int .u32 0), (Value.int .u32 0), (Value.int .u32 0), (Value.int .u32 0), (Value.int .u32 0)]⟩ T_a6_uint32) fun l9b H1 =>
 StCell H1 ⟨l9b, 0, none⟩ (Value.int .u32 (Int.fdiv from0 (2 ^ (min (16 : Int).toNat (IntKind.bits .u32))))) fun H2 =>
 StCell H2 ⟨l9b, 1, none⟩ (Value.int .u32 (bitsAnd .u32 from0 65535)) fun H3 =>
 StCell H3 ⟨l9b, 2, none⟩ (Value.int .u32 (Int.fdiv to1 (2 ^ (min (16 : Int).toNat (IntKind.bits .u32))))) fun H4 =>
 StCell H4 ⟨l9b, 3, none⟩ (Value.int .u32 (bitsAnd .u32 to1 65535)) fun H5 =>
 StCell H5 ⟨l9b, 4, none⟩ (Value.int .u32 (IntKind.wrap .u32 kind2)) fun H6 =>
 StCell H6 ⟨l9b, 5, none⟩ (Value.int .u32 (IntKind.wrap .u32 (bitsAnd .i64 n3 65535))) fun H7 =>
 ∃ x27c0 : Int, H7.cell ⟨l9b, 0, none⟩ = some (Value.int .u32 x27c0) ∧ ∃ x27c1 : Int, H7.cell ⟨l9b, 1, none⟩ = some (Value.int .u32 x27c1) ∧ ∃ x27c2 : Int, H7.cell ⟨l9b, 2, none⟩ = some (Value.int .u32 x27c2) ∧ ∃ x27c3 : Int, H7.cell ⟨l9b, 3, none⟩ = some (Value.int .u32 x27c3) ∧ ∃ x27c4 : Int, H7.cell ⟨l9b, 4, none⟩ = some (Value.int .u32 x27c4) ∧ ∃ x27c5 : Int, H7.cell ⟨l9b, 5, none⟩ = some (Value.int .u32 x27c5) ∧ IfB (decide ((0 : Int) < 6))
 ((0 : Int) ≤ 0 ∧ (0 : Int) < 6 ∧
 FnW Tryz.prog f_sum_round ⟨[(Value.int .u32 (IntKind.wrap .u32 (0 + x27c0)))]⟩ H7 fun x34v H8 =>
 ∃ x34 : Int, x34v = (Value.int .u32 x34) ∧
 IfB (decide (((IntKind.wrap .i64 (0 + 1)) : Int) < 6))
 ((0 : Int) ≤ (IntKind.wrap .i64 (0 + 1)) ∧ ((IntKind.wrap .i64 (0 + 1)) : Int) < 6 ∧
 FnW Tryz.prog f_sum_round ⟨[(Value.int .u32 (IntKind.wrap .u32 (x34 + x27c1)))]⟩ H8 fun x34v_1 H9 =>
 ∃ x34_1 : Int, x34v_1 = (Value.int .u32 x34_1) ∧
 IfB (decide (((IntKind.wrap .i64 ((IntKind.wrap .i64 (0 + 1)) + 1)) : Int) < 6))
 ((0 : Int) ≤ (IntKind.wrap .i64 ((IntKind.wrap .i64 (0 + 1)) + 1)) ∧ ((IntKind.wrap .i64 ((IntKind.wrap .i64 (0 + 1)) + 1)) : Int) < 6 ∧
 FnW Tryz.prog f_sum_round ⟨[(Value.int .u32 (IntKind.wrap .u32 (x34_1 + x27c2)))]⟩ H9 fun x34v_2 H10 =>
 ∃ x34_2 : Int, x34v_2 = (Value.int .u32 x34_2) ∧
 IfB (decide (((IntKind.wrap .i64 ((IntKind.wrap .i64 ((IntKind.wrap .i64 (0 + 1)) + 1)) + 1)) : Int) < 6))
 ((0 : Int) ≤ (IntKind.wrap .i64 ((IntKind.wrap .i64 ((IntKind.wrap .i64 (0 + 1)) + 1)) + 1)) ∧ ((IntKind.wrap .i64 ((IntKind.wrap .i64 ((IntKind.wrap .i64 (0 + 1)) + 1)) + 1)) : Int) < 6 ∧
 FnW Tryz.prog f_sum_round ⟨[(Value.int .u32 (IntKind.wrap .u32 (x34_2 + x27c3)))]⟩ H10 fun x34v_3 H11 =>
 ∃ x34_3 : Int, x34v_3 = (Value.int .u32 x34_3) ∧
 IfB (decide (((IntKind.wrap .i64 ((IntKind.wrap .i64 ((IntKind.wrap .i64 ((IntKind.wrap .i64 (0 + 1)) + 1)) + 1)) + 1)) : Int) < 6))
 ((0 : Int) ≤ (IntKind.wrap .i64 ((IntKind.wrap .i64 ((IntKind.wrap .i64 ((IntKind.wrap .i64 (0 + 1)) + 1)) + 1)) + 1)) ∧ ((IntKind.wrap .i64 ((IntKind.wrap .i64 ((IntKind.wrap .i64 ((IntKind.wrap .i64 (0 + 1)) + 1)) + 1)) + 1)) : Int) < 6 ∧
 FnW Tryz.prog f_sum_round ⟨[(Value.int .u32 (IntKind.wrap .u32 (x34_3 + x27c4)))]⟩ H11 fun x34v_4 H12 =>
 ∃ x34_4 : Int, x34v_4 = (Value.int .u32 x34_4) ∧
 IfB (decide (((IntKind.wrap .i64 ((IntKind.wrap .i64 ((IntKind.wrap .i64 ((IntKind.wrap .i64 ((IntKind.wrap .i64 (0 + 1)) + 1)) + 1)) + 1)) + 1)) : Int) < 6))
 ((0 : Int) ≤ (IntKind.wrap .i64 ((IntKind.wrap .i64 ((IntKind.wrap .i64 ((IntKind.wrap .i64 ((IntKind.wrap .i64 (0 + 1)) + 1)) + 1)) + 1)) + 1)) ∧ ((IntKind.wrap .i64 ((IntKind.wrap .i64 ((IntKind.wrap .i64 ((IntKind.wrap .i64 ((IntKind.wrap .i64 (0 + 1)) + 1)) + 1)) + 1)) + 1)) : Int) < 6 ∧
 FnW Tryz.prog f_sum_round ⟨[(Value.int .u32 (IntKind.wrap .u32 (x34_4 + x27c5)))]⟩ H12 fun x34v_5 H13 =>
 ∃ x34_5 : Int, x34v_5 = (Value.int .u32 x34_5) ∧
 IfB (decide (((IntKind.wrap .i64 ((IntKind.wrap .i64 ((IntKind.wrap .i64 ((IntKind.wrap .i64 ((IntKind.wrap .i64 ((IntKind.wrap .i64 (0 + 1)) + 1)) + 1)) + 1)) + 1)) + 1)) : Int) < 6))
 ((0 : Int) ≤ (IntKind.wrap .i64 ((IntKind.wrap .i64 ((IntKind.wrap .i64 ((IntKind.wrap .i64 ((IntKind.wrap .i64 ((IntKind.wrap .i64 (0 + 1)) + 1)) + 1)) + 1)) + 1)) + 1)) ∧ ((IntKind.wrap .i64 ((IntKind.wrap .i64 ((IntKind.wrap .i64 ((IntKind.wrap .i64 ((IntKind.wrap .i64 ((IntKind.wrap .i64 (0 + 1)) + 1)) + 1)) + 1)) + 1)) + 1)) : Int) < 6 ∧
 False)
 (R (Value.int .u32 x34_5) H13))
 (R (Value.int .u32 x34_4) H12))
 (R (Value.int .u32 x34_3) H11))
 (R (Value.int .u32 x34_2) H10))
 (R (Value.int .u32 x34_1) H9))
 (R (Value.int .u32 x34) H8))
 (R (Value.int .u32 0) H7)
theorem sum_Pseudo_heq (from0 : Int) (to1 : Int) (kind2 : Int) (n3 : Int) (H : Heap) (R : Value → Heap → Prop) : sum_Pseudo_p from0 to1 kind2 n3 H R = CodeW Tryz.prog hplan_sum_Pseudo (bodyOf Tryz.f130) (env0 [(Value.int .u32 from0), (Value.int .u32 to1), (Value.int .u8 kind2), (Value.int .i64 n3)]) H (RetW Tryz.prog Tryz.f130.results.toList R) := by kernel_rfl
theorem sum_Pseudo_sh (from0 : Int) (to1 : Int) (kind2 : Int) (n3 : Int) {H : Heap} {R : Value → Heap → Prop} (h : sum_Pseudo_p from0 to1 kind2 n3 H fun v H1 => ∀ H2, Shut H H1 H2 → R v H2) : FnW Tryz.prog f_sum_Pseudo ⟨[(Value.int .u32 from0), (Value.int .u32 to1), (Value.int .u8 kind2), (Value.int .i64 n3)]⟩ H R := FnW.of_code hk_sum_Pseudo (by kernel_rfl) (Eq.mp (sum_Pseudo_heq from0 to1 kind2 n3 H _) h)
def hplan_seq_Way : Plan := ⟨[], [], [], []⟩
theorem hk_seq_Way : Known Tryz.prog f_seq_Way Tryz.f131 hplan_seq_Way (bodyOf Tryz.f131) := ⟨Tryz.func131, by kernel_rfl, by kernel_rfl, by kernel_rfl, by kernel_rfl, by kernel_rfl⟩
def seq_Way_p (a0 : Int) (b1 : Int) (H : Heap) (R : Value → Heap → Prop) : Prop :=
 R (Value.int .u32 (IntKind.wrap .u32 (b1 - a0))) H
theorem seq_Way_heq (a0 : Int) (b1 : Int) (H : Heap) (R : Value → Heap → Prop) : seq_Way_p a0 b1 H R = CodeW Tryz.prog hplan_seq_Way (bodyOf Tryz.f131) (env0 [(Value.int .u32 a0), (Value.int .u32 b1)]) H (RetW Tryz.prog Tryz.f131.results.toList R) := by kernel_rfl
theorem seq_Way_sh (a0 : Int) (b1 : Int) {H : Heap} {R : Value → Heap → Prop} (h : seq_Way_p a0 b1 H fun v H1 => ∀ H2, Shut H H1 H2 → R v H2) : FnW Tryz.prog f_seq_Way ⟨[(Value.int .u32 a0), (Value.int .u32 b1)]⟩ H R := FnW.of_code hk_seq_Way (by kernel_rfl) (Eq.mp (seq_Way_heq a0 b1 H _) h)
def hplan_send_Outbox_sure : Plan := ⟨[(0, [0, 1, 2, 3, 4, 5, 6, 7, 8, 9, 10, 11, 12, 13, 14, 17, 15, 16, 18, 19], [])], [], [], []⟩
theorem hk_send_Outbox_sure : Known Tryz.prog f_send_Outbox_sure Tryz.f132 hplan_send_Outbox_sure (bodyOf Tryz.f132) := ⟨Tryz.func132, by kernel_rfl, by kernel_rfl, by kernel_rfl, by kernel_rfl, by kernel_rfl⟩
def send_Outbox_sure_j1 (o0b : Nat) (n1 : Int) (H5 : Heap) (R : Value → Heap → Prop) : Prop :=
 ∃ x47 : Option Addr, H5.cell ⟨o0b, 0, none⟩ = some (Value.pointer x47) ∧
 FnW Tryz.prog f_rto_Estimate_Good ⟨[(Value.pointer x47)]⟩ H5 fun x48v H6 =>
 x48v = (Value.tuple ⟨[]⟩) ∧
 ∃ x53 : Int, H6.cell ⟨o0b, 4, none⟩ = some (Value.int .u32 x53) ∧
 FnW Tryz.prog f_seq_Add ⟨[(Value.int .u32 x53), (Value.int .i64 n1)]⟩ H6 fun x55v H7 =>
 ∃ x55 : Int, x55v = (Value.int .u32 x55) ∧
 StCell H7 ⟨o0b, 4, none⟩ (Value.int .u32 x55) fun H8 =>
 ∃ (x62a : Option Addr) (x62n x62c : Nat), H8.cell ⟨o0b, 5, none⟩ = some (Value.slice x62a x62n x62c) ∧
 InC n1 x62n fun x64l =>
 FnW Tryz.prog f_slices_Cloneasl_byte_byte ⟨[(Value.slice (if x62c = x64l then x62a else Option.map (fun a => Addr.add a (x64l * 1)) x62a) (x62n - x64l) (x62c - x64l))]⟩ H8 fun x65v H9 =>
 ∃ (x65a : Option Addr) (x65n x65c : Nat), x65v = (Value.slice x65a x65n x65c) ∧
 StCell H9 ⟨o0b, 5, none⟩ (Value.slice x65a x65n x65c) fun H10 =>
 ∃ x71 : Int, H10.cell ⟨o0b, 6, none⟩ = some (Value.int .i64 x71) ∧
 StCell H10 ⟨o0b, 6, none⟩ (Value.int .i64 (IntKind.wrap .i64 (x71 - n1))) fun H11 =>
 R (Value.tuple ⟨[]⟩) H11
def send_Outbox_sure_j0 (o0b : Nat) (n1 : Int) (x23 : Bool) (H2 : Heap) (R : Value → Heap → Prop) : Prop :=
 IfB x23
 (StCell H2 ⟨o0b, 1, none⟩ (Value.bool false) fun H3 =>
 ∃ x31 : Option Addr, H3.cell ⟨o0b, 0, none⟩ = some (Value.pointer x31) ∧
 ∃ x35 : Int, H3.cell ⟨o0b, 10, none⟩ = some (Value.int .i64 x35) ∧
 ∃ x40 : Int, H3.cell ⟨o0b, 3, none⟩ = some (Value.int .i64 x40) ∧
 FnW Tryz.prog f_rto_Estimate_Measure ⟨[(Value.pointer x31), (Value.int .i64 (min 100000 (IntKind.wrap .i64 (x35 - x40))))]⟩ H3 fun x43v H4 =>
 ∃ x43 : Int, x43v = (Value.int .i64 x43) ∧
 send_Outbox_sure_j1 o0b n1 H4 R)
 (send_Outbox_sure_j1 o0b n1 H2 R)
def send_Outbox_sure_p (o0b : Nat) (n1 : Int) (H : Heap) (R : Value → Heap → Prop) : Prop :=
 ∃ x8 : Bool, H.cell ⟨o0b, 1, none⟩ = some (Value.bool x8) ∧
 IfB x8
 (∃ x13 : Int, H.cell ⟨o0b, 4, none⟩ = some (Value.int .u32 x13) ∧
 ∃ x18 : Int, H.cell ⟨o0b, 2, none⟩ = some (Value.int .u32 x18) ∧
 FnW Tryz.prog f_seq_Way ⟨[(Value.int .u32 x13), (Value.int .u32 x18)]⟩ H fun x19v H1 =>
 ∃ x19 : Int, x19v = (Value.int .u32 x19) ∧
 send_Outbox_sure_j0 o0b n1 (decide (((IntKind.wrap .i64 x19) : Int) ≤ n1)) H1 R)
 (send_Outbox_sure_j0 o0b n1 false H R)
theorem send_Outbox_sure_heq (o0b : Nat) (n1 : Int) (H : Heap) (R : Value → Heap → Prop) : send_Outbox_sure_p o0b n1 H R = CodeW Tryz.prog hplan_send_Outbox_sure (bodyOf Tryz.f132) (env0 [(Value.pointer (some ⟨o0b, 0, none⟩)), (Value.int .i64 n1)]) H (RetW Tryz.prog Tryz.f132.results.toList R) := by kernel_rfl
theorem send_Outbox_sure_sh (o0b : Nat) (n1 : Int) {H : Heap} {R : Value → Heap → Prop} (h : send_Outbox_sure_p o0b n1 H fun v H1 => ∀ H2, Shut H H1 H2 → R v H2) : FnW Tryz.prog f_send_Outbox_sure ⟨[(Value.pointer (some ⟨o0b, 0, none⟩)), (Value.int .i64 n1)]⟩ H R := FnW.of_code hk_send_Outbox_sure (by kernel_rfl) (Eq.mp (send_Outbox_sure_heq o0b n1 H _) h)
def hplan_seq_sized : Plan := ⟨[], [], [], []⟩
theorem hk_seq_sized : Known Tryz.prog f_seq_sized Tryz.f133 hplan_seq_sized (bodyOf Tryz.f133) := ⟨Tryz.func133, by kernel_rfl, by kernel_rfl, by kernel_rfl, by kernel_rfl, by kernel_rfl⟩
def seq_sized_p (size0 : Int) (H : Heap) (R : Value → Heap → Prop) : Prop :=
 IfB (decide ((size0 : Int) ≥ 0))
 (R (Value.bool (decide ((size0 : Int) ≤ 65535))) H)
 (R (Value.bool false) H)
theorem seq_sized_heq (size0 : Int) (H : Heap) (R : Value → Heap → Prop) : seq_sized_p size0 H R = CodeW Tryz.prog hplan_seq_sized (bodyOf Tryz.f133) (env0 [(Value.int .i64 size0)]) H (RetW Tryz.prog Tryz.f133.results.toList R) := by kernel_rfl
theorem seq_sized_sh (size0 : Int) {H : Heap} {R : Value → Heap → Prop} (h : seq_sized_p size0 H fun v H1 => ∀ H2, Shut H H1 H2 → R v H2) : FnW Tryz.prog f_seq_sized ⟨[(Value.int .i64 size0)]⟩ H R := FnW.of_code hk_seq_sized (by kernel_rfl) (Eq.mp (seq_sized_heq size0 H _) h)
def hplan_seq_Trim : Plan := ⟨[], [], [], []⟩
theorem hk_seq_Trim : Known Tryz.prog f_seq_Trim Tryz.f134 hplan_seq_Trim (bodyOf Tryz.f134) := ⟨Tryz.func134, by kernel_rfl, by kernel_rfl, by kernel_rfl, by kernel_rfl, by kernel_rfl⟩
def seq_Trim_j0 (size1 : Int) (n3 : Int) (x22 : Int) (x40 : Bool) (H4 : Heap) (R : Value → Heap → Prop) : Prop :=
 IfB x40
 (R (Value.tuple ⟨[(Value.int .i64 0), (Value.int .i64 0), (Value.int .i64 0)]⟩) H4)
 (R (Value.tuple ⟨[(Value.int .i64 (IntKind.wrap .i64 x22)), (Value.int .i64 (min (IntKind.wrap .i64 (n3 - (IntKind.wrap .i64 x22))) size1)), (Value.int .i64 0)]⟩) H4)
def seq_Trim_p (next0 : Int) (size1 : Int) (from2 : Int) (n3 : Int) (H : Heap) (R : Value → Heap → Prop) : Prop :=
 FnW Tryz.prog f_seq_right ⟨[(Value.int .i64 size1), (Value.int .i64 n3)]⟩ H fun x15v H1 =>
 ∃ x15 : Bool, x15v = (Value.bool x15) ∧
 IfB (!x15)
 (R (Value.tuple ⟨[(Value.int .i64 0), (Value.int .i64 0), (Value.int .i64 2)]⟩) H1)
 (FnW Tryz.prog f_seq_Way ⟨[(Value.int .u32 next0), (Value.int .u32 from2)]⟩ H1 fun x19v H2 =>
 ∃ x19 : Int, x19v = (Value.int .u32 x19) ∧
 FnW Tryz.prog f_seq_Way ⟨[(Value.int .u32 from2), (Value.int .u32 next0)]⟩ H2 fun x22v H3 =>
 ∃ x22 : Int, x22v = (Value.int .u32 x22) ∧
 IfB (decide ((x19 : Int) < (IntKind.wrap .u32 size1)))
 (R (Value.tuple ⟨[(Value.int .i64 0), (Value.int .i64 (min n3 (IntKind.wrap .i64 (size1 - (IntKind.wrap .i64 x19))))), (Value.int .i64 0)]⟩) H3)
 (IfB (decide (((IntKind.wrap .i64 x22) : Int) ≥ n3))
 (seq_Trim_j0 size1 n3 x22 true H3 R)
 (seq_Trim_j0 size1 n3 x22 ((size1 : Int) == 0) H3 R)))
theorem seq_Trim_heq (next0 : Int) (size1 : Int) (from2 : Int) (n3 : Int) (H : Heap) (R : Value → Heap → Prop) : seq_Trim_p next0 size1 from2 n3 H R = CodeW Tryz.prog hplan_seq_Trim (bodyOf Tryz.f134) (env0 [(Value.int .u32 next0), (Value.int .i64 size1), (Value.int .u32 from2), (Value.int .i64 n3)]) H (RetW Tryz.prog Tryz.f134.results.toList R) := by kernel_rfl
theorem seq_Trim_sh (next0 : Int) (size1 : Int) (from2 : Int) (n3 : Int) {H : Heap} {R : Value → Heap → Prop} (h : seq_Trim_p next0 size1 from2 n3 H fun v H1 => ∀ H2, Shut H H1 H2 → R v H2) : FnW Tryz.prog f_seq_Trim ⟨[(Value.int .u32 next0), (Value.int .i64 size1), (Value.int .u32 from2), (Value.int .i64 n3)]⟩ H R := FnW.of_code hk_seq_Trim (by kernel_rfl) (Eq.mp (seq_Trim_heq next0 size1 from2 n3 H _) h)
def hplan_join_Joint_hold : Plan := ⟨[], [], [], []⟩
theorem hk_join_Joint_hold : Known Tryz.prog f_join_Joint_hold Tryz.f135 hplan_join_Joint_hold (bodyOf Tryz.f135) := ⟨Tryz.func135, by kernel_rfl, by kernel_rfl, by kernel_rfl, by kernel_rfl, by kernel_rfl⟩
def join_Joint_hold_p (j0b : Nat) (behind1 : Int) (b2 : Int) (H : Heap) (R : Value → Heap → Prop) : Prop :=
 FnW Tryz.prog f_join_Joint_place ⟨[(Value.pointer (some ⟨j0b, 0, none⟩)), (Value.int .i64 behind1)]⟩ H fun x9v H1 =>
 ∃ x9 : Int, x9v = (Value.int .i64 x9) ∧
 ∃ (x13a : Option Addr) (x13n x13c : Nat), H1.cell ⟨j0b, 3, none⟩ = some (Value.slice x13a x13n x13c) ∧
 NilP x13a fun x15q =>
 InB x9 x13n fun x15i =>
 elemAt x15q x15i 1 fun x15p =>
 ∃ x16 : Bool, H1.cell x15p = some (Value.bool x16) ∧
 IfB (!x16)
 (∃ (x21a : Option Addr) (x21n x21c : Nat), H1.cell ⟨j0b, 2, none⟩ = some (Value.slice x21a x21n x21c) ∧
 ∃ (x26a : Option Addr) (x26n x26c : Nat), H1.cell ⟨j0b, 3, none⟩ = some (Value.slice x26a x26n x26c) ∧
 NilP x21a fun x29q =>
 InB x9 x21n fun x29i =>
 elemAt x29q x29i 1 fun x29p =>
 StCell H1 x29p (Value.int .u8 b2) fun H2 =>
 NilP x26a fun x30q =>
 InB x9 x26n fun x30i =>
 elemAt x30q x30i 1 fun x30p =>
 StCell H2 x30p (Value.bool true) fun H3 =>
 ∃ x34 : Int, H3.cell ⟨j0b, 4, none⟩ = some (Value.int .i64 x34) ∧
 StCell H3 ⟨j0b, 4, none⟩ (Value.int .i64 (IntKind.wrap .i64 (x34 + 1))) fun H4 =>
 R (Value.tuple ⟨[]⟩) H4)
 (R (Value.tuple ⟨[]⟩) H1)
theorem join_Joint_hold_heq (j0b : Nat) (behind1 : Int) (b2 : Int) (H : Heap) (R : Value → Heap → Prop) : join_Joint_hold_p j0b behind1 b2 H R = CodeW Tryz.prog hplan_join_Joint_hold (bodyOf Tryz.f135) (env0 [(Value.pointer (some ⟨j0b, 0, none⟩)), (Value.int .i64 behind1), (Value.int .u8 b2)]) H (RetW Tryz.prog Tryz.f135.results.toList R) := by kernel_rfl
theorem join_Joint_hold_sh (j0b : Nat) (behind1 : Int) (b2 : Int) {H : Heap} {R : Value → Heap → Prop} (h : join_Joint_hold_p j0b behind1 b2 H fun v H1 => ∀ H2, Shut H H1 H2 → R v H2) : FnW Tryz.prog f_join_Joint_hold ⟨[(Value.pointer (some ⟨j0b, 0, none⟩)), (Value.int .i64 behind1), (Value.int .u8 b2)]⟩ H R := FnW.of_code hk_join_Joint_hold (by kernel_rfl) (Eq.mp (join_Joint_hold_heq j0b behind1 b2 H _) h)
def hplan_join_Joint_move : Plan := ⟨[], [(2000000, [3], [.int .i64], [0])], [], []⟩
theorem hk_join_Joint_move : Known Tryz.prog f_join_Joint_move Tryz.f136 hplan_join_Joint_move (bodyOf Tryz.f136) := ⟨Tryz.func136, by kernel_rfl, by kernel_rfl, by kernel_rfl, by kernel_rfl, by kernel_rfl⟩
def join_Joint_move_l2000000 (j0b : Nat) (n3 : Int) (H1 : Heap) (next2000000 : (Int × Unit) → Heap → Prop) (R : Value → Heap → Prop) : Prop :=
 ∃ (x7a : Option Addr) (x7n x7c : Nat), H1.cell ⟨j0b, 3, none⟩ = some (Value.slice x7a x7n x7c) ∧
 ∃ x11 : Int, H1.cell ⟨j0b, 1, none⟩ = some (Value.int .i64 x11) ∧
 NilP x7a fun x12q =>
 InB x11 x7n fun x12i =>
 elemAt x12q x12i 1 fun x12p =>
 ∃ x13 : Bool, H1.cell x12p = some (Value.bool x13) ∧
 IfB (!x13)
 (R (Value.int .i64 n3) H1)
 (∃ (x20a : Option Addr) (x20n x20c : Nat), H1.cell ⟨j0b, 5, none⟩ = some (Value.slice x20a x20n x20c) ∧
 ∃ (x24a : Option Addr) (x24n x24c : Nat), H1.cell ⟨j0b, 2, none⟩ = some (Value.slice x24a x24n x24c) ∧
 ∃ x28 : Int, H1.cell ⟨j0b, 1, none⟩ = some (Value.int .i64 x28) ∧
 NilP x24a fun x29q =>
 InB x28 x24n fun x29i =>
 elemAt x29q x29i 1 fun x29p =>
 ∃ x30 : Int, H1.cell x29p = some (Value.int .u8 x30) ∧
 NewW H1 (Obj.cells ⟨[(Value.int .u8 x30)]⟩ T_uint8) fun x31b H2 =>
 AppW Tryz.prog #[T_sl_uint8, T_sl_uint8] T_sl_uint8 [(Value.slice x20a x20n x20c), (Value.slice (some ⟨x31b, 0, none⟩) 1 1)] H2 fun x32v H3 =>
 ∃ (x32a : Option Addr) (x32n x32c : Nat), x32v = (Value.slice x32a x32n x32c) ∧
 StCell H3 ⟨j0b, 5, none⟩ (Value.slice x32a x32n x32c) fun H4 =>
 ∃ (x38a : Option Addr) (x38n x38c : Nat), H4.cell ⟨j0b, 3, none⟩ = some (Value.slice x38a x38n x38c) ∧
 ∃ x42 : Int, H4.cell ⟨j0b, 1, none⟩ = some (Value.int .i64 x42) ∧
 NilP x38a fun x43q =>
 InB x42 x38n fun x43i =>
 elemAt x43q x43i 1 fun x43p =>
 StCell H4 x43p (Value.bool false) fun H5 =>
 FnW Tryz.prog f_join_Joint_place ⟨[(Value.pointer (some ⟨j0b, 0, none⟩)), (Value.int .i64 1)]⟩ H5 fun x46v H6 =>
 ∃ x46 : Int, x46v = (Value.int .i64 x46) ∧
 StCell H6 ⟨j0b, 1, none⟩ (Value.int .i64 x46) fun H7 =>
 ∃ x52 : Int, H7.cell ⟨j0b, 4, none⟩ = some (Value.int .i64 x52) ∧
 StCell H7 ⟨j0b, 4, none⟩ (Value.int .i64 (IntKind.wrap .i64 (x52 - 1))) fun H8 =>
 ∃ x59 : Int, H8.cell ⟨j0b, 0, none⟩ = some (Value.int .u32 x59) ∧
 StCell H8 ⟨j0b, 0, none⟩ (Value.int .u32 (IntKind.wrap .u32 (x59 + 1))) fun H9 =>
 next2000000 ((IntKind.wrap .i64 (n3 + 1)), ()) H9)
def join_Joint_move_p (j0b : Nat) (H : Heap) (R : Value → Heap → Prop) : Prop :=
 LoopI (Int × Unit) (0, ()) H fun x H next => ∀ _g : Env, join_Joint_move_l2000000 j0b x.1 H next R
theorem join_Joint_move_heq (j0b : Nat) (H : Heap) (R : Value → Heap → Prop) : join_Joint_move_p j0b H R = CodeW Tryz.prog hplan_join_Joint_move (bodyOf Tryz.f136) (env0 [(Value.pointer (some ⟨j0b, 0, none⟩))]) H (RetW Tryz.prog Tryz.f136.results.toList R) := by kernel_rfl
theorem join_Joint_move_sh (j0b : Nat) {H : Heap} {R : Value → Heap → Prop} (h : join_Joint_move_p j0b H fun v H1 => ∀ H2, Shut H H1 H2 → R v H2) : FnW Tryz.prog f_join_Joint_move ⟨[(Value.pointer (some ⟨j0b, 0, none⟩))]⟩ H R := FnW.of_code hk_join_Joint_move (by kernel_rfl) (Eq.mp (join_Joint_move_heq j0b H _) h)
def hplan_rto_Estimate_Measure : Plan := ⟨[], [], [], []⟩
theorem hk_rto_Estimate_Measure : Known Tryz.prog f_rto_Estimate_Measure Tryz.f137 hplan_rto_Estimate_Measure (bodyOf Tryz.f137) := ⟨Tryz.func137, by kernel_rfl, by kernel_rfl, by kernel_rfl, by kernel_rfl, by kernel_rfl⟩
def rto_Estimate_Measure_j0 (e0b : Nat) (r1 : Int) (x10 : Bool) (H2 : Heap) (R : Value → Heap → Prop) : Prop :=
 IfB x10
 (R (Value.int .i64 2) H2)
 (∃ x21 : Bool, H2.cell ⟨e0b, 3, none⟩ = some (Value.bool x21) ∧
 IfB (!x21)
 ((2 : Int) ≠ 0 ∧
 StCell H2 ⟨e0b, 0, none⟩ (Value.int .i64 (IntKind.wrap .i64 (8 * r1))) fun H3 =>
 StCell H3 ⟨e0b, 1, none⟩ (Value.int .i64 (IntKind.wrap .i64 (Int.tdiv (IntKind.wrap .i64 (4 * r1)) 2))) fun H4 =>
 StCell H4 ⟨e0b, 3, none⟩ (Value.bool true) fun H5 =>
 R (Value.int .i64 0) H5)
 (∃ x40 : Int, H2.cell ⟨e0b, 0, none⟩ = some (Value.int .i64 x40) ∧
 (8 : Int) ≠ 0 ∧
 ∃ x47 : Int, H2.cell ⟨e0b, 1, none⟩ = some (Value.int .i64 x47) ∧
 ∃ x55 : Int, H2.cell ⟨e0b, 1, none⟩ = some (Value.int .i64 x55) ∧
 (4 : Int) ≠ 0 ∧
 StCell H2 ⟨e0b, 1, none⟩ (Value.int .i64 (IntKind.wrap .i64 (x47 + (IntKind.wrap .i64 ((max (IntKind.wrap .i64 ((IntKind.wrap .i64 (Int.tdiv x40 8)) - r1)) (IntKind.wrap .i64 (0 - (IntKind.wrap .i64 ((IntKind.wrap .i64 (Int.tdiv x40 8)) - r1))))) - (IntKind.wrap .i64 (Int.tdiv x55 4))))))) fun H6 =>
 ∃ x64 : Int, H6.cell ⟨e0b, 0, none⟩ = some (Value.int .i64 x64) ∧
 ∃ x69 : Int, H6.cell ⟨e0b, 0, none⟩ = some (Value.int .i64 x69) ∧
 (8 : Int) ≠ 0 ∧
 StCell H6 ⟨e0b, 0, none⟩ (Value.int .i64 (IntKind.wrap .i64 (x64 + (IntKind.wrap .i64 (r1 - (IntKind.wrap .i64 (Int.tdiv x69 8))))))) fun H7 =>
 R (Value.int .i64 0) H7))
def rto_Estimate_Measure_p (e0b : Nat) (r1 : Int) (H : Heap) (R : Value → Heap → Prop) : Prop :=
 FnW Tryz.prog f_rto_Estimate_is ⟨[(Value.pointer (some ⟨e0b, 0, none⟩))]⟩ H fun x8v H1 =>
 ∃ x8 : Bool, x8v = (Value.bool x8) ∧
 IfB (!x8)
 (R (Value.int .i64 1) H1)
 (IfB (decide ((r1 : Int) < 0))
 (rto_Estimate_Measure_j0 e0b r1 true H1 R)
 (rto_Estimate_Measure_j0 e0b r1 (decide ((r1 : Int) > 100000)) H1 R))
theorem rto_Estimate_Measure_heq (e0b : Nat) (r1 : Int) (H : Heap) (R : Value → Heap → Prop) : rto_Estimate_Measure_p e0b r1 H R = CodeW Tryz.prog hplan_rto_Estimate_Measure (bodyOf Tryz.f137) (env0 [(Value.pointer (some ⟨e0b, 0, none⟩)), (Value.int .i64 r1)]) H (RetW Tryz.prog Tryz.f137.results.toList R) := by kernel_rfl
theorem rto_Estimate_Measure_sh (e0b : Nat) (r1 : Int) {H : Heap} {R : Value → Heap → Prop} (h : rto_Estimate_Measure_p e0b r1 H fun v H1 => ∀ H2, Shut H H1 H2 → R v H2) : FnW Tryz.prog f_rto_Estimate_Measure ⟨[(Value.pointer (some ⟨e0b, 0, none⟩)), (Value.int .i64 r1)]⟩ H R := FnW.of_code hk_rto_Estimate_Measure (by kernel_rfl) (Eq.mp (rto_Estimate_Measure_heq e0b r1 H _) h)
def hplan_join_Joint_place : Plan := ⟨[], [], [], []⟩
theorem hk_join_Joint_place : Known Tryz.prog f_join_Joint_place Tryz.f138 hplan_join_Joint_place (bodyOf Tryz.f138) := ⟨Tryz.func138, by kernel_rfl, by kernel_rfl, by kernel_rfl, by kernel_rfl, by kernel_rfl⟩
def join_Joint_place_p (j0b : Nat) (behind1 : Int) (H : Heap) (R : Value → Heap → Prop) : Prop :=
 ∃ x8 : Int, H.cell ⟨j0b, 1, none⟩ = some (Value.int .i64 x8) ∧
 ∃ (x14a : Option Addr) (x14n x14c : Nat), H.cell ⟨j0b, 2, none⟩ = some (Value.slice x14a x14n x14c) ∧
 ((x14n : Int) : Int) ≠ 0 ∧
 R (Value.int .i64 (Int.tmod (IntKind.wrap .i64 (x8 + behind1)) (x14n : Int))) H
theorem join_Joint_place_heq (j0b : Nat) (behind1 : Int) (H : Heap) (R : Value → Heap → Prop) : join_Joint_place_p j0b behind1 H R = CodeW Tryz.prog hplan_join_Joint_place (bodyOf Tryz.f138) (env0 [(Value.pointer (some ⟨j0b, 0, none⟩)), (Value.int .i64 behind1)]) H (RetW Tryz.prog Tryz.f138.results.toList R) := by kernel_rfl
theorem join_Joint_place_sh (j0b : Nat) (behind1 : Int) {H : Heap} {R : Value → Heap → Prop} (h : join_Joint_place_p j0b behind1 H fun v H1 => ∀ H2, Shut H H1 H2 → R v H2) : FnW Tryz.prog f_join_Joint_place ⟨[(Value.pointer (some ⟨j0b, 0, none⟩)), (Value.int .i64 behind1)]⟩ H R := FnW.of_code hk_join_Joint_place (by kernel_rfl) (Eq.mp (join_Joint_place_heq j0b behind1 H _) h)
end Go.Proofs.YtmiepjlnfclelaaGreat
