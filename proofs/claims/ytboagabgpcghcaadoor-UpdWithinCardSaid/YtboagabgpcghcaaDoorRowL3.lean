/-
  What the rows of this seat share: the listed variables, the table that is read.
-/
import Derived.Test.YtboagabgpcghcaaDoorQ
import Derived.Test.YtboagabgpcghcaaDoorTie
import Derived.Test.YtboagabgpcghcaaDoorCards
import Derived.LaidMore
import Derived.Lay
import Derived.SevenTiedAt
set_option linter.unusedSectionVars false
set_option linter.unusedSimpArgs false
set_option linter.unusedVariables false
namespace Go.Proofs.YtboagabgpcghcaaDoor
open Go.Sh Go.ChangeShapes Go.WideShapes Go.ChangeAt Go.RowKit
def laid7 : List (String × DataW Unit) := [("math/bits.deBruijn32tab", Rows.laid_math_bits_deBruijn32tab), ("math/bits.deBruijn64tab", Rows.laid_math_bits_deBruijn64tab), ("internal/strconv.uint64pow10", Rows.laid_internal_strconv_uint64pow10)]
theorem row_own : ownKnob Tryd.prog.godebug = none := by kernel_rfl
theorem row_laidOut : laidOutB Tryd.prog = true := by kernel_rfl
theorem row_bool : Tryd.prog.underlying T_bool = some .bool := by kernel_rfl
theorem row_vars {W : World} (h : laidMetH Tryd.prog laid7 W) (hsh : W.ShapedOpen Tryd.prog) : (∀ b, Laid.blocks b = true → hp W b ≠ none) ∧ Laid.ok (layH (hp W)) := by
  rw [MakeChecks.laidMetH_plain _ _ _ (by kernel_rfl)] at h
  have h3 : laidMet Tryd.prog [("internal/strconv.uint64pow10", Lib.tabData .u64 Lib.pow10Tab)] W := (laidMet.tail (laidMet.tail h))
  have ht := Lib.tabIs_of_head (g := g_internal_strconv_uint64pow10) (t := T_a20_uint64) (e := T_uint64) (n := 20) (by kernel_rfl) (by kernel_rfl) (by kernel_rfl) (by kernel_rfl) (by kernel_rfl) (by kernel_rfl) h3
  unfold Lib.TabIs World.var? at ht
  rw [pow_named, Option.bind_some] at ht
  have hg : ∃ T fr, W.heap[g_internal_strconv_uint64pow10]? = some (.cells powCells T fr) := by
    split at ht
    · rename_i cs T fr hh
      cases ht
      exact ⟨T, fr, hh⟩
    · cases ht
  obtain ⟨T, fr, hg⟩ := hg
  have e : hp W g_internal_strconv_uint64pow10 = some (.cells powCells T fr) := hg
  refine ⟨fun b hb => ?_, T, fr, e⟩
  obtain rfl : b = g_internal_strconv_uint64pow10 := Nat.eq_of_beq_eq_true hb
  rw [e]; exact fun h => by cases h
theorem no_standIn {fn : Func} (h : (fn.params.toList.all fun t => !Tryd.prog.wantsStandIn t) = true) (j : Nat) (t : TypeId) (ht : fn.params[j]? = some t) : Tryd.prog.wantsStandIn t = false := by
  have hm : t ∈ fn.params.toList := List.mem_of_getElem? (i := j) (by rw [Array.getElem?_toList]; exact ht)
  have := List.all_eq_true.1 h t hm
  simpa using this
end Go.Proofs.YtboagabgpcghcaaDoor
