/-
  'pointsmanlaw15.ConnSilent' returns true whatever the input, and the input reads as it did. Conditions: none beyond those of the given statement.
-/
import Derived.Test.YtmiepjlnfclelaaGreatCB
set_option linter.all false
namespace Go.Proofs.YtmiepjlnfclelaaGreat
open Go.Sh Go.Pc Go.Conn Go.ChangeShapes Go.WideShapes Go.ChangeAt Go.RowKit

theorem connSilent_own : ownKnob Tryz.prog.godebug = none := by kernel_rfl
theorem connSilent_laid : laidOutB Tryz.prog = true := by kernel_rfl

set_option maxRecDepth 100000 in
theorem connSilent_lifted (os : Os) (started : os.Started) (H : Type) (enc : TypeId × Value → H) :
    ReturnsInHanded {} Tryz.checked os 4 .any (Rows.connSilentSpec.pre6 enc Tryz.prog Tryz.f4 Rows.connSilentRow.domain false) (Rows.connSilentSpec.post enc Tryz.prog Tryz.f4 false true false false) := by
  refine lifted (C := Tryz.checked) (tb := T_bool) connSilent_own started (by kernel_rfl) Tryz.func4
    (ChangeSpec.witness6 (enc := enc) (C := Tryz.checked) false ⟨#[], #[.slice none 0 0], []⟩ 8 (by kernel_rfl) (by kernel_rfl) (by kernel_rfl) (by kernel_rfl)) connSilent_laid (by kernel_rfl) rfl rfl und_bool15 ?_
  intro W base args ds p hval0 hA0
  obtain ⟨args⟩ := args
  have hval : ∀ (j : Nat) t v, Tryz.f4.params[j]? = some t → args[j]? = some v → Value.okWide Tryz.prog W .any base t v := fun j t v h1 h2 => hval0 j t v h1 (by simpa using h2)
  have hA : DataW.TrodAll enc Tryz.prog W 0 (fun _ => true) true Tryz.f4.params.toList args ds p := hA0
  rw [Tryz.params4] at hA hval
  obtain ⟨v0, vs0, d0, ds0, p0, q0, rfl, rfl, rfl, h0, hA⟩ := trodAll_cons hA
  obtain ⟨rfl, rfl, rfl⟩ := trodAll_nil hA
  refine ⟨rfl, ?_⟩
  obtain ⟨a, n, cap, rfl, ha⟩ := open_acts (hval 0 T_sl_pointsmanlaw15_Act v0 rfl rfl) h0
  exact silent_spec ha

theorem connSilent_holds : Rows.ConnSilentSaid :=
  OpenClaim.holds_of_wide 4 Tryz.f4 rfl rfl rfl rfl rfl rfl rfl ⟨rfl, rfl, rfl, rfl, rfl⟩ rfl rfl rfl rfl rfl (by kernel_rfl) Tryz.func4 (by kernel_rfl)
    (of_decide_eq_true (by kernel_rfl)) (by unfold Func.isWrapper; first | (rw [if_pos (by decide +kernel)]; kernel_rfl) | (rw [if_neg (by decide +kernel)]; exact ⟨rfl, rfl⟩))
    (fun os started H enc _ => connSilent_lifted os started H enc)

#print axioms connSilent_holds

end Go.Proofs.YtmiepjlnfclelaaGreat
