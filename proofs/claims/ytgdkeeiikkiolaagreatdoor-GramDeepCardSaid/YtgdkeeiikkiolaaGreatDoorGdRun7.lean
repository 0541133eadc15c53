/-
  Runs of GramDeep by the machine: one for each outcome of the draw.
-/
import Derived.Test.YtgdkeeiikkiolaaGreatDoorPlan
import Derived.Test.YtgdkeeiikkiolaaGreatDoorEvTrim
set_option linter.all false
namespace Go.Proofs.YtgdkeeiikkiolaaGreatDoor
open Go.Sh Go.Ev
set_option maxRecDepth 1000000 in
theorem gd_f7 : isTrue (cFn Tryz.prog plansOf (ovOr (ovAm f_base_Among 10 7) (ovOr (ovT f_law25_works) (ovOr ovTrim (ovOr ovNum ovStr)))) 300 f_law25_GramDeep [.sym 0, .bool false] ch0) = true := by kernel_rfl
set_option maxRecDepth 1000000 in
theorem gd_f8 : isTrue (cFn Tryz.prog plansOf (ovOr (ovAm f_base_Among 10 8) (ovOr (ovT f_law25_works) (ovOr ovTrim (ovOr ovNum ovStr)))) 300 f_law25_GramDeep [.sym 0, .bool false] ch0) = true := by kernel_rfl
set_option maxRecDepth 1000000 in
theorem gd_f9 : isTrue (cFn Tryz.prog plansOf (ovOr (ovAm f_base_Among 10 9) (ovOr (ovT f_law25_works) (ovOr ovTrim (ovOr ovNum ovStr)))) 300 f_law25_GramDeep [.sym 0, .bool false] ch0) = true := by kernel_rfl
end Go.Proofs.YtgdkeeiikkiolaaGreatDoor
