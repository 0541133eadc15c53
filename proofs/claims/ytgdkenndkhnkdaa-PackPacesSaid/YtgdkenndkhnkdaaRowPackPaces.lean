/-
  'pointsmanlaw33.PackPaces' returns true whatever the input, and the input reads as it did. Conditions: none beyond those of the given statement.
-/
import Derived.Test.YtgdkenndkhnkdaaPacer
import Derived.Test.YtgdkenndkhnkdaaLift
namespace Go.Proofs.Ytgdkenndkhnkdaa
open Go.Sh Go.ChangeShapes Go.WideShapes Go.ChangeAt Go.RowKit
theorem packPaces_own : ownKnob Try.prog.godebug = none := by kernel_rfl
theorem packPaces_laid : laidOutB Try.prog = true := by kernel_rfl
theorem packPaces_bool : Try.prog.underlying T_bool = some .bool := by kernel_rfl
theorem packPaces_int : Try.prog.underlying T_int = some (.int .i64) := by kernel_rfl
theorem packPaces_sl : Try.prog.underlying T_sl_int = some (.slice T_int) := by kernel_rfl
theorem packPaces_cell : Try.prog.cellsOf T_int = 1 := by kernel_rfl
set_option maxRecDepth 100000 in
theorem packPaces_lifted (os : Os) (started : os.Started) (H : Type) (enc : TypeId × Value → H) :
    ReturnsInHanded {} Try.checked os 6 .any (Rows.packPacesSpec.pre6 enc Try.prog Try.f6 Rows.packPacesRow.domain false) (Rows.packPacesSpec.post enc Try.prog Try.f6 false true false false) := by
  refine lifted (C := Try.checked) (tb := T_bool) packPaces_own started (by kernel_rfl) Try.func6
    (ChangeSpec.witness6 (enc := enc) (C := Try.checked) false ⟨#[], #[.int .i64 0, .slice none 0 0], []⟩ 8 (by kernel_rfl) (by kernel_rfl) (by kernel_rfl) (by kernel_rfl)) packPaces_laid (by kernel_rfl) rfl rfl packPaces_bool ?_
  intro W base args ds p hval0 hA0
  have hval : ∀ (j : Nat) t v, Try.f6.params[j]? = some t → args[j]? = some v → Value.okWide Try.prog W .any base t v := hval0
  have hA : DataW.TrodAll enc Try.prog W 0 (fun _ => true) true Try.f6.params.toList args.toList ds p := hA0
  rw [Try.params6] at hA hval
  obtain ⟨v0, v1, d0, d1, p0, p1, rfl, rfl, rfl, h0, h1⟩ := trodAll_two hA
  refine ⟨rfl, ?_⟩
  obtain ⟨n0, rfl, _, _, _⟩ := open_int packPaces_int (hval 0 T_int v0 rfl rfl) h0
  obtain ⟨a, n, cap, rfl, hn, hc, ha⟩ := open_i64s packPaces_sl packPaces_int packPaces_cell (hval 1 T_sl_int v1 rfl rfl) h1
  refine packPaces_spec n0 a n cap (fun i hi => ?_) (by have : maxLen = 2 ^ 63 - 1 := rfl; omega)
  obtain ⟨b, o, e, z, hz, hw⟩ := ha i hi
  obtain ⟨_, c, T, fr, hb, _⟩ := cell_spot hz
  refine ⟨b, o, e, (by rw [hb]; simp), z, hz, ?_⟩
  have hm : IntKind.i64.min = -9223372036854775808 := rfl
  have hM : IntKind.i64.max = 9223372036854775807 := rfl
  simp [Lit.wf, hm, hM] at hw
  omega
theorem packPaces_holds : Rows.PackPacesSaid :=
  OpenClaim.holds_of_wide 6 Try.f6 rfl rfl rfl rfl rfl rfl rfl ⟨rfl, rfl, rfl, rfl, rfl⟩ rfl rfl rfl rfl rfl (by kernel_rfl) Try.func6 (by kernel_rfl)
    (of_decide_eq_true (by kernel_rfl)) (by unfold Func.isWrapper; first | (rw [if_pos (by decide +kernel)]; kernel_rfl) | (rw [if_neg (by decide +kernel)]; exact ⟨rfl, rfl⟩))
    (fun os started H enc _ => packPaces_lifted os started H enc)
#print axioms packPaces_holds
end Go.Proofs.Ytgdkenndkhnkdaa
