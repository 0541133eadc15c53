/-
  The checks that a law begins with, run by the machine.
-/
import Derived.Test.YtgdkeeiikkiolaaGreatDoorPlan
import Derived.Test.YtgdkeeiikkiolaaGreatDoorEvTrim
set_option linter.all false
namespace Go.Proofs.YtgdkeeiikkiolaaGreatDoor
open Go.Sh Go.Ev
set_option maxRecDepth 1000000 in
theorem works_run : isTrue (cFn Tryz.prog plansOf (ovOr ovTrim (ovOr ovNum ovStr)) 60 f_law25_works [] ch0) = true := by kernel_rfl
end Go.Proofs.YtgdkeeiikkiolaaGreatDoor
