/-
  SOME FUNCTIONS IN PLAIN LOGIC: printed by a program of ours over this translation.
-/
import Derived.Test.YtcdjiihnkinpcaaGreatNum
import Derived.Test.YtcdjiihnkinpcaaGreatRows
set_option maxRecDepth 100000
set_option linter.unusedVariables false
namespace Go.Proofs.YtcdjiihnkinpcaaGreat
open Go.Sh
def hplan_slices_Sortedaint : Plan := ⟨[], [], [], []⟩
theorem hk_slices_Sortedaint : Known Tryz.prog f_slices_Sortedaint Tryz.f76 hplan_slices_Sortedaint (bodyOf Tryz.f76) := ⟨Tryz.func76, by kernel_rfl, by kernel_rfl, by kernel_rfl, by kernel_rfl, by kernel_rfl⟩
def slices_Sortedaint_p (f : FuncId) (w0 : Value) (H : Heap) (R : Value → Heap → Prop) : Prop :=
 FnW Tryz.prog f_slices_Collectaint ⟨[(Value.func (.func f) #[] #[w0])]⟩ H fun x5v H1 =>
 ∃ (x5a : Option Addr) (x5n x5c : Nat), x5v = (Value.slice x5a x5n x5c) ∧
 FnW Tryz.prog f_slices_Sortasl_int_int ⟨[(Value.slice x5a x5n x5c)]⟩ H1 fun x7v H2 =>
 x7v = (Value.tuple ⟨[]⟩) ∧
 R (Value.slice x5a x5n x5c) H2
theorem slices_Sortedaint_heq (f : FuncId) (w0 : Value) (H : Heap) (R : Value → Heap → Prop) : slices_Sortedaint_p f w0 H R = CodeW Tryz.prog hplan_slices_Sortedaint (bodyOf Tryz.f76) (env0 [(Value.func (.func f) #[] #[w0])]) H (RetW Tryz.prog Tryz.f76.results.toList R) := by kernel_rfl
theorem slices_Sortedaint_sh (f : FuncId) (w0 : Value) {H : Heap} {R : Value → Heap → Prop} (h : slices_Sortedaint_p f w0 H fun v H1 => ∀ H2, Shut H H1 H2 → R v H2) : FnW Tryz.prog f_slices_Sortedaint ⟨[(Value.func (.func f) #[] #[w0])]⟩ H R := FnW.of_code hk_slices_Sortedaint (by kernel_rfl) (Eq.mp (slices_Sortedaint_heq f w0 H _) h)
def hplan_slices_Collectaint : Plan := ⟨[], [], [], []⟩
theorem hk_slices_Collectaint : Known Tryz.prog f_slices_Collectaint Tryz.f119 hplan_slices_Collectaint (bodyOf Tryz.f119) := ⟨Tryz.func119, by kernel_rfl, by kernel_rfl, by kernel_rfl, by kernel_rfl, by kernel_rfl⟩
def slices_Collectaint_p (f : FuncId) (w0 : Value) (H : Heap) (R : Value → Heap → Prop) : Prop :=
 FnW Tryz.prog f_slices_AppendSeqasl_int_int ⟨[(Value.slice none 0 0), (Value.func (.func f) #[] #[w0])]⟩ H fun x4v H1 =>
 ∃ (x4a : Option Addr) (x4n x4c : Nat), x4v = (Value.slice x4a x4n x4c) ∧
 R (Value.slice x4a x4n x4c) H1
theorem slices_Collectaint_heq (f : FuncId) (w0 : Value) (H : Heap) (R : Value → Heap → Prop) : slices_Collectaint_p f w0 H R = CodeW Tryz.prog hplan_slices_Collectaint (bodyOf Tryz.f119) (env0 [(Value.func (.func f) #[] #[w0])]) H (RetW Tryz.prog Tryz.f119.results.toList R) := by kernel_rfl
theorem slices_Collectaint_sh (f : FuncId) (w0 : Value) {H : Heap} {R : Value → Heap → Prop} (h : slices_Collectaint_p f w0 H fun v H1 => ∀ H2, Shut H H1 H2 → R v H2) : FnW Tryz.prog f_slices_Collectaint ⟨[(Value.func (.func f) #[] #[w0])]⟩ H R := FnW.of_code hk_slices_Collectaint (by kernel_rfl) (Eq.mp (slices_Collectaint_heq f w0 H _) h)
def hplan_maps_Keysamapaint_p_tcp_one_int_p_tcp_one_1 : Plan := ⟨[], [(1, [], [], [0, 5])], [], []⟩
theorem hk_maps_Keysamapaint_p_tcp_one_int_p_tcp_one_1 : Known Tryz.prog f_maps_Keysamapaint_p_tcp_one_int_p_tcp_one_1 Tryz.f121 hplan_maps_Keysamapaint_p_tcp_one_int_p_tcp_one_1 (bodyOf Tryz.f121) := ⟨Tryz.func121, by kernel_rfl, by kernel_rfl, by kernel_rfl, by kernel_rfl, by kernel_rfl⟩
def maps_Keysamapaint_p_tcp_one_int_p_tcp_one_1_l1 (l : Nat) (x5v : Value) (H2 : Heap) (next1 : (Unit) → Heap → Prop) (R : Value → Heap → Prop) : Prop :=
 SemW Tryz.prog (Instr.next x5v false T_) H2 fun x6v H3 =>
 ∃ (x6b : Bool) (x6l : List Value), x6v = Value.tuple ⟨Value.bool x6b :: x6l⟩ ∧
 IfB x6b
 (SemW Tryz.prog (Instr.entry x5v) H3 fun x8v H4 =>
 ∃ x8k x8x : Value, x8v = Value.tuple ⟨[x8k, x8x]⟩ ∧
 YieldW Tryz.prog l [x8k] H4 fun x12v H5 =>
 ∃ x12 : Bool, x12v = (Value.bool x12) ∧
 IfB (!x12)
 (R (Value.tuple ⟨[]⟩) H5)
 (next1 () H5))
 (R (Value.tuple ⟨[]⟩) H3)
def maps_Keysamapaint_p_tcp_one_int_p_tcp_one_1_p (l : Nat) (b1 : Nat) (o1 : Nat) (H : Heap) (R : Value → Heap → Prop) : Prop :=
 ∃ x4 : Value, H.cell ⟨b1, o1, none⟩ = some x4 ∧
 RgW Tryz.prog T_mapaint_p_tcp_one x4 H fun x5v H1 =>
 LoopI (Unit) () H1 fun x H next => ∀ _g : Env, maps_Keysamapaint_p_tcp_one_int_p_tcp_one_1_l1 l x5v H next R
theorem maps_Keysamapaint_p_tcp_one_int_p_tcp_one_1_heq (l : Nat) (b1 : Nat) (o1 : Nat) (H : Heap) (R : Value → Heap → Prop) : maps_Keysamapaint_p_tcp_one_int_p_tcp_one_1_p l b1 o1 H R = CodeW Tryz.prog hplan_maps_Keysamapaint_p_tcp_one_int_p_tcp_one_1 (bodyOf Tryz.f121) (env0 [(Value.func (.yield l) #[] #[]), (Value.pointer (some ⟨b1, o1, none⟩))]) H (RetW Tryz.prog Tryz.f121.results.toList R) := by kernel_rfl
theorem maps_Keysamapaint_p_tcp_one_int_p_tcp_one_1_sh (l : Nat) (b1 : Nat) (o1 : Nat) {H : Heap} {R : Value → Heap → Prop} (h : maps_Keysamapaint_p_tcp_one_int_p_tcp_one_1_p l b1 o1 H fun v H1 => ∀ H2, Shut H H1 H2 → R v H2) : FnW Tryz.prog f_maps_Keysamapaint_p_tcp_one_int_p_tcp_one_1 ⟨[(Value.func (.yield l) #[] #[]), (Value.pointer (some ⟨b1, o1, none⟩))]⟩ H R := FnW.of_code hk_maps_Keysamapaint_p_tcp_one_int_p_tcp_one_1 (by kernel_rfl) (Eq.mp (maps_Keysamapaint_p_tcp_one_int_p_tcp_one_1_heq l b1 o1 H _) h)
end Go.Proofs.YtcdjiihnkinpcaaGreat
