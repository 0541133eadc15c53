/-
  The run of 'HostVoid' as the machine reckons it, whatever is handed in.
-/
import Derived.Test.YthojhkhiamomnaaGreatPlan
import Derived.Test.YthojhkhiamomnaaGreatEv10
set_option linter.all false
namespace Go.Proofs.YthojhkhiamomnaaGreat
open Go.Sh Go.Ev
set_option maxRecDepth 1000000 in
theorem hostVoid_run [Sym] (a0 : Option Addr) (n0 c0 : Nat) (x1 : Int) : isTrue (cFn Tryz.prog plansOf noOv 60 3 [.opq (.slice a0 n0 c0), .int .i64 x1] ch0) = true := by kernel_rfl
end Go.Proofs.YthojhkhiamomnaaGreat
