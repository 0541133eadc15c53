/-
  SOME FUNCTIONS IN PLAIN LOGIC: printed by a program of ours over this translation.
-/
import Derived.Test.YtcdjiihnkinpcaaGreatNum
import Derived.Test.YtcdjiihnkinpcaaGreatRows
set_option maxRecDepth 100000
set_option linter.unusedVariables false
namespace Go.Proofs.YtcdjiihnkinpcaaGreat
open Go.Sh
def hplan_base_Among : Plan := ⟨[], [], [], []⟩
theorem hk_base_Among : Known Tryz.prog f_base_Among Tryz.f12 hplan_base_Among (bodyOf Tryz.f12) := ⟨Tryz.func12, by kernel_rfl, by kernel_rfl, by kernel_rfl, by kernel_rfl, by kernel_rfl⟩
def base_Among_p (x0 : Int) (n1 : Int) (H : Heap) (R : Value → Heap → Prop) : Prop :=
 IfB (decide ((n1 : Int) < 1))
 (R (Value.int .i64 0) H)
 (((IntKind.wrap .u64 n1) : Int) ≠ 0 ∧
 R (Value.int .i64 (IntKind.wrap .i64 (Int.tmod (IntKind.wrap .u64 x0) (IntKind.wrap .u64 n1)))) H)
theorem base_Among_heq (x0 : Int) (n1 : Int) (H : Heap) (R : Value → Heap → Prop) : base_Among_p x0 n1 H R = CodeW Tryz.prog hplan_base_Among (bodyOf Tryz.f12) (env0 [(Value.int .i64 x0), (Value.int .i64 n1)]) H (RetW Tryz.prog Tryz.f12.results.toList R) := by kernel_rfl
theorem base_Among_sh (x0 : Int) (n1 : Int) {H : Heap} {R : Value → Heap → Prop} (h : base_Among_p x0 n1 H fun v H1 => ∀ H2, Shut H H1 H2 → R v H2) : FnW Tryz.prog f_base_Among ⟨[(Value.int .i64 x0), (Value.int .i64 n1)]⟩ H R := FnW.of_code hk_base_Among (by kernel_rfl) (Eq.mp (base_Among_heq x0 n1 H _) h)
end Go.Proofs.YtcdjiihnkinpcaaGreat
