/-
  Runs of TcpFull by the machine.
-/
import Derived.Test.YtcdjiihnkinpcaaGreatPlan
import Derived.Test.YtcdjiihnkinpcaaGreatEvKeys
set_option linter.all false
namespace Go.Proofs.YtcdjiihnkinpcaaGreat
open Go.Sh Go.Ev
set_option maxRecDepth 1000000 in
theorem tf_works : isTrue (cFn Tryz.prog plansOf ovKeys 60 f_law16_works [] ch0) = true := by kernel_rfl
end Go.Proofs.YtcdjiihnkinpcaaGreat
