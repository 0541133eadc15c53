/-
  'pointsmanlaw33.PackVoid' returns true whatever the input, and the input reads as it did. Conditions: none beyond those of the given statement.
-/
import Derived.Test.YtgdkenndkhnkdaaPacer
import Derived.Test.YtgdkenndkhnkdaaLift
namespace Go.Proofs.Ytgdkenndkhnkdaa
open Go.Sh Go.ChangeShapes Go.WideShapes Go.ChangeAt Go.RowKit
theorem packVoid_own : ownKnob Try.prog.godebug = none := by kernel_rfl
theorem packVoid_laid : laidOutB Try.prog = true := by kernel_rfl
theorem packVoid_bool : Try.prog.underlying T_bool = some .bool := by kernel_rfl
theorem packVoid_int : Try.prog.underlying T_int = some (.int .i64) := by kernel_rfl
set_option maxRecDepth 100000 in
theorem packVoid_lifted (os : Os) (started : os.Started) (H : Type) (enc : TypeId × Value → H) :
    ReturnsInHanded {} Try.checked os 5 .any (Rows.packVoidSpec.pre6 enc Try.prog Try.f5 Rows.packVoidRow.domain false) (Rows.packVoidSpec.post enc Try.prog Try.f5 false true false false) := by
  refine lifted (C := Try.checked) (tb := T_bool) packVoid_own started (by kernel_rfl) Try.func5
    (ChangeSpec.witness6 (enc := enc) (C := Try.checked) false ⟨#[], #[.int .i64 0], []⟩ 8 (by kernel_rfl) (by kernel_rfl) (by kernel_rfl) (by kernel_rfl)) packVoid_laid (by kernel_rfl) rfl rfl packVoid_bool ?_
  intro W base args ds p hval0 hA0
  have hval : ∀ (j : Nat) t v, Try.f5.params[j]? = some t → args[j]? = some v → Value.okWide Try.prog W .any base t v := hval0
  have hA : DataW.TrodAll enc Try.prog W 0 (fun _ => true) true Try.f5.params.toList args.toList ds p := hA0
  rw [Try.params5] at hA hval
  obtain ⟨v0, d0, rfl, rfl, h0⟩ := trodAll_one hA
  refine ⟨rfl, ?_⟩
  obtain ⟨n0, rfl, _, _, _⟩ := open_int packVoid_int (hval 0 T_int v0 rfl rfl) h0
  exact packVoid_spec n0
theorem packVoid_holds : Rows.PackVoidSaid :=
  OpenClaim.holds_of_wide 5 Try.f5 rfl rfl rfl rfl rfl rfl rfl ⟨rfl, rfl, rfl, rfl, rfl⟩ rfl rfl rfl rfl rfl (by kernel_rfl) Try.func5 (by kernel_rfl)
    (of_decide_eq_true (by kernel_rfl)) (by unfold Func.isWrapper; first | (rw [if_pos (by decide +kernel)]; kernel_rfl) | (rw [if_neg (by decide +kernel)]; exact ⟨rfl, rfl⟩))
    (fun os started H enc _ => packVoid_lifted os started H enc)
#print axioms packVoid_holds
end Go.Proofs.Ytgdkenndkhnkdaa
