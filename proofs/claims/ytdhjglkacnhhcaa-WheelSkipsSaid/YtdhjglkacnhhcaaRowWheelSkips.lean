/-
  'pointsmanlaw04.WheelSkips' returns true whatever the input, and the input reads as it did. Conditions: none beyond those of the given statement.
-/
import Derived.Test.YtdhjglkacnhhcaaActs4
set_option linter.all false
namespace Go.Proofs.Ytdhjglkacnhhcaa
open Go.Sh Go.Wheel Go.ChangeShapes Go.WideShapes Go.ChangeAt Go.RowKit

theorem wheelSkips_own : ownKnob Try.prog.godebug = none := by kernel_rfl
theorem wheelSkips_laid : laidOutB Try.prog = true := by kernel_rfl

set_option maxRecDepth 100000 in
theorem wheelSkips_lifted (os : Os) (started : os.Started) (H : Type) (enc : TypeId × Value → H) :
    ReturnsInHanded {} Try.checked os 4 .any (Rows.wheelSkipsSpec.pre6 enc Try.prog Try.f4 Rows.wheelSkipsRow.domain false) (Rows.wheelSkipsSpec.post enc Try.prog Try.f4 false true false false) := by
  refine lifted (C := Try.checked) (tb := T_bool) wheelSkips_own started (by kernel_rfl) Try.func4
    (ChangeSpec.witness6 (enc := enc) (C := Try.checked) false ⟨#[], #[.slice none 0 0, .int .i64 0], []⟩ 8 (by kernel_rfl) (by kernel_rfl) (by kernel_rfl) (by kernel_rfl)) wheelSkips_laid (by kernel_rfl) rfl rfl und_bool4 ?_
  intro W base args ds p hval0 hA0
  obtain ⟨args⟩ := args
  have hval : ∀ (j : Nat) t v, Try.f4.params[j]? = some t → args[j]? = some v → Value.okWide Try.prog W .any base t v := fun j t v h1 h2 => hval0 j t v h1 (by simpa using h2)
  have hA : DataW.TrodAll enc Try.prog W 0 (fun _ => true) true Try.f4.params.toList args ds p := hA0
  rw [Try.params4] at hA hval
  obtain ⟨v0, vs0, d0, ds0, p0, q0, rfl, rfl, rfl, h0, hA⟩ := trodAll_cons hA
  obtain ⟨v1, vs1, d1, ds1, p1, q1, rfl, rfl, rfl, h1, hA⟩ := trodAll_cons hA
  obtain ⟨rfl, rfl, rfl⟩ := trodAll_nil hA
  refine ⟨rfl, ?_⟩
  obtain ⟨a, n, cap, rfl, ha⟩ := open_acts4 (hval 0 T_sl_pointsmanlaw04_Act v0 rfl rfl) h0
  obtain ⟨x1, rfl⟩ := okWide_int und_int (hval 1 T_int v1 rfl rfl)
  exact skips_spec sort_ok ha x1

theorem wheelSkips_holds : Rows.WheelSkipsSaid :=
  OpenClaim.holds_of_wide 4 Try.f4 rfl rfl rfl rfl rfl rfl rfl ⟨rfl, rfl, rfl, rfl, rfl⟩ rfl rfl rfl rfl rfl (by kernel_rfl) Try.func4 (by kernel_rfl)
    (of_decide_eq_true (by kernel_rfl)) (by unfold Func.isWrapper; first | (rw [if_pos (by decide +kernel)]; kernel_rfl) | (rw [if_neg (by decide +kernel)]; exact ⟨rfl, rfl⟩))
    (fun os started H enc _ => wheelSkips_lifted os started H enc)

#print axioms wheelSkips_holds

end Go.Proofs.Ytdhjglkacnhhcaa
