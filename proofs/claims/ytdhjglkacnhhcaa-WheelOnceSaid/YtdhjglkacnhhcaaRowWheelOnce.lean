/-
  'pointsmanlaw04.WheelOnce' returns true whatever the input, and the input reads as it did. Conditions: none beyond those of the given statement.
-/
import Derived.Test.YtdhjglkacnhhcaaActs4
set_option linter.all false
namespace Go.Proofs.Ytdhjglkacnhhcaa
open Go.Sh Go.Wheel Go.ChangeShapes Go.WideShapes Go.ChangeAt Go.RowKit

theorem wheelOnce_own : ownKnob Try.prog.godebug = none := by kernel_rfl
theorem wheelOnce_laid : laidOutB Try.prog = true := by kernel_rfl

set_option maxRecDepth 100000 in
theorem wheelOnce_lifted (os : Os) (started : os.Started) (H : Type) (enc : TypeId × Value → H) :
    ReturnsInHanded {} Try.checked os 5 .any (Rows.wheelOnceSpec.pre6 enc Try.prog Try.f5 Rows.wheelOnceRow.domain false) (Rows.wheelOnceSpec.post enc Try.prog Try.f5 false true false false) := by
  refine lifted (C := Try.checked) (tb := T_bool) wheelOnce_own started (by kernel_rfl) Try.func5
    (ChangeSpec.witness6 (enc := enc) (C := Try.checked) false ⟨#[], #[.slice none 0 0, .int .i64 0], []⟩ 8 (by kernel_rfl) (by kernel_rfl) (by kernel_rfl) (by kernel_rfl)) wheelOnce_laid (by kernel_rfl) rfl rfl und_bool4 ?_
  intro W base args ds p hval0 hA0
  obtain ⟨args⟩ := args
  have hval : ∀ (j : Nat) t v, Try.f5.params[j]? = some t → args[j]? = some v → Value.okWide Try.prog W .any base t v := fun j t v h1 h2 => hval0 j t v h1 (by simpa using h2)
  have hA : DataW.TrodAll enc Try.prog W 0 (fun _ => true) true Try.f5.params.toList args ds p := hA0
  rw [Try.params5] at hA hval
  obtain ⟨v0, vs0, d0, ds0, p0, q0, rfl, rfl, rfl, h0, hA⟩ := trodAll_cons hA
  obtain ⟨v1, vs1, d1, ds1, p1, q1, rfl, rfl, rfl, h1, hA⟩ := trodAll_cons hA
  obtain ⟨rfl, rfl, rfl⟩ := trodAll_nil hA
  refine ⟨rfl, ?_⟩
  obtain ⟨a, n, cap, rfl, ha⟩ := open_acts4 (hval 0 T_sl_pointsmanlaw04_Act v0 rfl rfl) h0
  obtain ⟨x1, rfl⟩ := okWide_int und_int (hval 1 T_int v1 rfl rfl)
  exact once_spec sort_ok ha x1

theorem wheelOnce_holds : Rows.WheelOnceSaid :=
  OpenClaim.holds_of_wide 5 Try.f5 rfl rfl rfl rfl rfl rfl rfl ⟨rfl, rfl, rfl, rfl, rfl⟩ rfl rfl rfl rfl rfl (by kernel_rfl) Try.func5 (by kernel_rfl)
    (of_decide_eq_true (by kernel_rfl)) (by unfold Func.isWrapper; first | (rw [if_pos (by decide +kernel)]; kernel_rfl) | (rw [if_neg (by decide +kernel)]; exact ⟨rfl, rfl⟩))
    (fun os started H enc _ => wheelOnce_lifted os started H enc)

#print axioms wheelOnce_holds

end Go.Proofs.Ytdhjglkacnhhcaa
