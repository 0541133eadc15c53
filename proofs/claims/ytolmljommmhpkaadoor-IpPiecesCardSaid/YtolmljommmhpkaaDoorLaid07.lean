/-
  What is known of the package-level variables that the law comes to.
-/
import Derived.Test.YtolmljommmhpkaaDoorNum
import Derived.Test.YtolmljommmhpkaaDoorShelf
import Derived.Test.YtolmljommmhpkaaDoorPw16
set_option linter.unusedSectionVars false
set_option linter.unusedSimpArgs false
set_option linter.unusedVariables false
namespace Go.Proofs.YtolmljommmhpkaaDoor
open Go.Sh

def powCells : Array Value := (Lib.pow10Tab.map fun z => Value.int .u64 z).toArray
instance : Laid where
  blocks := fun b => Nat.beq b g_internal_strconv_uint64pow10
  ok := fun L => ∃ T fr, L g_internal_strconv_uint64pow10 = some (.cells powCells T fr)
theorem laid_pow {W : World} (h : Laid.ok (layH (hp W))) : ∃ T fr, W.heap[g_internal_strconv_uint64pow10]? = some (.cells powCells T fr) := h
end Go.Proofs.YtolmljommmhpkaaDoor
