/-
  'pointsmanlaw04.WheelFull' returns true whatever the input, and the input reads as it did. Conditions: none beyond those of the given statement.
-/
import Derived.Test.YtdhjglkacnhhcaaActs4
set_option linter.all false
namespace Go.Proofs.Ytdhjglkacnhhcaa
open Go.Sh Go.Wheel Go.ChangeShapes Go.WideShapes Go.ChangeAt Go.RowKit

theorem wheelFull_own : ownKnob Try.prog.godebug = none := by kernel_rfl
theorem wheelFull_laid : laidOutB Try.prog = true := by kernel_rfl

set_option maxRecDepth 100000 in
theorem wheelFull_lifted (os : Os) (started : os.Started) (H : Type) (enc : TypeId × Value → H) :
    ReturnsInHanded {} Try.checked os 3 .any (Rows.wheelFullSpec.pre6 enc Try.prog Try.f3 Rows.wheelFullRow.domain false) (Rows.wheelFullSpec.post enc Try.prog Try.f3 false true false false) := by
  refine lifted (C := Try.checked) (tb := T_bool) wheelFull_own started (by kernel_rfl) Try.func3
    (ChangeSpec.witness6 (enc := enc) (C := Try.checked) false ⟨#[], #[.int .i64 0, .int .i64 0], []⟩ 8 (by kernel_rfl) (by kernel_rfl) (by kernel_rfl) (by kernel_rfl)) wheelFull_laid (by kernel_rfl) rfl rfl und_bool4 ?_
  intro W base args ds p hval0 hA0
  obtain ⟨args⟩ := args
  have hval : ∀ (j : Nat) t v, Try.f3.params[j]? = some t → args[j]? = some v → Value.okWide Try.prog W .any base t v := fun j t v h1 h2 => hval0 j t v h1 (by simpa using h2)
  have hA : DataW.TrodAll enc Try.prog W 0 (fun _ => true) true Try.f3.params.toList args ds p := hA0
  rw [Try.params3] at hA hval
  obtain ⟨v0, vs0, d0, ds0, p0, q0, rfl, rfl, rfl, h0, hA⟩ := trodAll_cons hA
  obtain ⟨v1, vs1, d1, ds1, p1, q1, rfl, rfl, rfl, h1, hA⟩ := trodAll_cons hA
  obtain ⟨rfl, rfl, rfl⟩ := trodAll_nil hA
  refine ⟨rfl, ?_⟩
  obtain ⟨x0, rfl⟩ := okWide_int und_int (hval 0 T_int v0 rfl rfl)
  obtain ⟨x1, rfl⟩ := okWide_int und_int (hval 1 T_int v1 rfl rfl)
  exact full_spec sort_ok x0 x1

theorem wheelFull_holds : Rows.WheelFullSaid :=
  OpenClaim.holds_of_wide 3 Try.f3 rfl rfl rfl rfl rfl rfl rfl ⟨rfl, rfl, rfl, rfl, rfl⟩ rfl rfl rfl rfl rfl (by kernel_rfl) Try.func3 (by kernel_rfl)
    (of_decide_eq_true (by kernel_rfl)) (by unfold Func.isWrapper; first | (rw [if_pos (by decide +kernel)]; kernel_rfl) | (rw [if_neg (by decide +kernel)]; exact ⟨rfl, rfl⟩))
    (fun os started H enc _ => wheelFull_lifted os started H enc)

#print axioms wheelFull_holds

end Go.Proofs.Ytdhjglkacnhhcaa
