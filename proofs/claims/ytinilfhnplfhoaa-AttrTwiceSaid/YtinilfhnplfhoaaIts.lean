/-
  SOME FUNCTIONS IN PLAIN LOGIC: printed by a program of ours over this translation.
-/
import Derived.Test.YtinilfhnplfhoaaNum
import Derived.Test.YtinilfhnplfhoaaRows
set_option linter.all false
set_option maxRecDepth 100000
namespace Go.Proofs.Ytinilfhnplfhoaa
open Go.Sh
def hplan_slices_Chunkasl_byte_byte_1 : Plan := ⟨[], [(1, [4], [.int .i64], [0, 1, 2])], [], []⟩
theorem hk_slices_Chunkasl_byte_byte_1 : Known Try.prog f_slices_Chunkasl_byte_byte_1 Try.f88 hplan_slices_Chunkasl_byte_byte_1 (bodyOf Try.f88) := by refine ⟨Try.func88, ?_, ?_, ?_, ?_, ?_⟩ <;> kernel_rfl
def slices_Chunkasl_byte_byte_1_l1 (l : Nat) (b1 : Nat) (b2 : Nat) (i4 : Int) (H1 : Heap) (next1 : (Int × Unit) -> Heap -> Prop) (R : Value -> Heap -> Prop) : Prop :=
 ∃ (x7a : Option Addr) (x7n x7c : Nat), H1.cell ⟨b1, 0, none⟩ = some (Value.slice x7a x7n x7c) ∧
 IfB (decide ((i4 : Int) < (x7n : Int)))
 (∃ x13 : Int, H1.cell ⟨b2, 0, none⟩ = some (Value.int .i64 x13) ∧
 ∃ (x14a : Option Addr) (x14n x14c : Nat), H1.cell ⟨b1, 0, none⟩ = some (Value.slice x14a x14n x14c) ∧
 InC i4 x14n fun x16l =>
 ∃ (x20a : Option Addr) (x20n x20c : Nat), H1.cell ⟨b1, 0, none⟩ = some (Value.slice x20a x20n x20c) ∧
 InC (IntKind.wrap .i64 (i4 + (min x13 ((x14n - x16l : Nat) : Int)))) x20c fun x28m =>
 InC (IntKind.wrap .i64 (i4 + (min x13 ((x14n - x16l : Nat) : Int)))) x28m fun x28h =>
 InC i4 x28h fun x28l =>
 YieldW Try.prog l [(Value.slice (if x28m = x28l then x20a else Option.map (fun a => Addr.add a (x28l * 1)) x20a) (x28h - x28l) (x28m - x28l))] H1 fun x29v H2 =>
 ∃ x29 : Bool, x29v = (Value.bool x29) ∧
 IfB (!x29)
 (R (Value.tuple ⟨[]⟩) H2)
 (∃ x11 : Int, H2.cell ⟨b2, 0, none⟩ = some (Value.int .i64 x11) ∧
 next1 ((IntKind.wrap .i64 (i4 + x11)), ()) H2))
 (R (Value.tuple ⟨[]⟩) H1)
def slices_Chunkasl_byte_byte_1_p (l : Nat) (b1 : Nat) (b2 : Nat) (H : Heap) (R : Value -> Heap -> Prop) : Prop :=
 LoopI (Int × Unit) (0, ()) H fun x H next => ∀ _g : Env, slices_Chunkasl_byte_byte_1_l1 l b1 b2 x.1 H next R
theorem slices_Chunkasl_byte_byte_1_heq (l : Nat) (b1 : Nat) (b2 : Nat) (H : Heap) (R : Value -> Heap -> Prop) : slices_Chunkasl_byte_byte_1_p l b1 b2 H R = CodeW Try.prog hplan_slices_Chunkasl_byte_byte_1 (bodyOf Try.f88) (env0 [(Value.func (.yield l) #[] #[]), (Value.pointer (some ⟨b1, 0, none⟩)), (Value.pointer (some ⟨b2, 0, none⟩))]) H (RetW Try.prog Try.f88.results.toList R) := by kernel_rfl
theorem slices_Chunkasl_byte_byte_1_sh (l : Nat) (b1 : Nat) (b2 : Nat) {H : Heap} {R : Value -> Heap -> Prop} (h : slices_Chunkasl_byte_byte_1_p l b1 b2 H fun v H1 => ∀ H2, Shut H H1 H2 -> R v H2) : FnW Try.prog f_slices_Chunkasl_byte_byte_1 ⟨[(Value.func (.yield l) #[] #[]), (Value.pointer (some ⟨b1, 0, none⟩)), (Value.pointer (some ⟨b2, 0, none⟩))]⟩ H R := FnW.of_code hk_slices_Chunkasl_byte_byte_1 (by kernel_rfl) (Eq.mp (slices_Chunkasl_byte_byte_1_heq l b1 b2 H _) h)
end Go.Proofs.Ytinilfhnplfhoaa
