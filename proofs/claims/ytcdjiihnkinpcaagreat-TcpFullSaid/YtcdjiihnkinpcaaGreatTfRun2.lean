/-
  Runs of TcpFull by the machine.
-/
import Derived.Test.YtcdjiihnkinpcaaGreatPlan
import Derived.Test.YtcdjiihnkinpcaaGreatEvKeys
set_option linter.all false
namespace Go.Proofs.YtcdjiihnkinpcaaGreat
open Go.Sh Go.Ev
set_option maxRecDepth 1000000 in
theorem tf_2 : isTrue (cFn Tryz.prog plansOf (ovOr (ovAm f_base_Among 6 2) (ovOr (ovT f_law16_works) ovKeys)) 200 f_law16_TcpFull [.sym 0] ch0) = true := by kernel_rfl
end Go.Proofs.YtcdjiihnkinpcaaGreat
