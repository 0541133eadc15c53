/-
  'pointsmanlaw03.RingVoid' returns true whatever the input, and the input reads as it did. Conditions: none beyond those of the given statement.
-/
import Derived.Test.YtligjponbhnedaaLaw3a
import Derived.Test.YtligjponbhnedaaLift
namespace Go.Proofs.Ytligjponbhnedaa
open Go.Sh Go.ChangeShapes Go.WideShapes Go.ChangeAt Go.RowKit

theorem Try.ownW : ownKnob Try.prog.godebug = none := by kernel_rfl
theorem Try.laidOutW : laidOutB Try.prog = true := by kernel_rfl
theorem und_boolW : Try.prog.underlying T_bool = some .bool := by kernel_rfl
theorem und_intW : Try.prog.underlying T_int = some (.int .i64) := by kernel_rfl
theorem cells_intW : Try.prog.cellsOf T_int = 1 := by kernel_rfl
theorem cells_HandleW : Try.prog.cellsOf T_pool_Handle = 2 := by kernel_rfl

set_option maxRecDepth 100000 in
theorem ringVoid_lifted (os : Os) (started : os.Started) (H : Type) (enc : TypeId × Value → H) :
    ReturnsInHanded {} Try.checked os 8 .any (Rows.ringVoidSpec.pre6 enc Try.prog Try.f8 Rows.ringVoidRow.domain false) (Rows.ringVoidSpec.post enc Try.prog Try.f8 false true false false) := by
  refine lifted (C := Try.checked) (tb := T_bool) Try.ownW started (by kernel_rfl) Try.func8
    (ChangeSpec.witness6 (enc := enc) (C := Try.checked) false ⟨#[], #[.agg #[.int .i64 0, .int .i64 0], .slice none 0 0], []⟩ 8 (by kernel_rfl) (by kernel_rfl) (by kernel_rfl) (by kernel_rfl)) Try.laidOutW (by kernel_rfl) rfl rfl und_boolW ?_
  intro W base args ds p hval0 hA0
  have hval : ∀ (j : Nat) t v, Try.f8.params[j]? = some t → args[j]? = some v → Value.okWide Try.prog W .any base t v := hval0
  have hA : DataW.TrodAll enc Try.prog W 0 (fun _ => true) true Try.f8.params.toList args.toList ds p := hA0
  rw [Try.params8] at hA hval
  obtain ⟨v0, v1, d0, d1, p0, p1, rfl, rfl, rfl, h0, h1⟩ := trodAll_two hA
  refine ⟨rfl, ?_⟩
  obtain ⟨n, t, rfl, _, _⟩ := open_pair Try.underlying30 rfl rfl rfl rfl und_intW und_intW cells_intW cells_intW cells_HandleW (hval 0 T_pool_Handle v0 rfl rfl) h0
  obtain ⟨a, l, cap, rfl⟩ := okWide_slice und_sl_uint8 (hval 1 T_sl_uint8 v1 rfl rfl)
  exact law03_RingVoid_spec n t a l cap

theorem ringVoid_holds : Rows.RingVoidSaid :=
  OpenClaim.holds_of_wide 8 Try.f8 rfl rfl rfl rfl rfl rfl rfl ⟨rfl, rfl, rfl, rfl, rfl⟩ rfl rfl rfl rfl rfl (by kernel_rfl) Try.func8 (by kernel_rfl)
    (of_decide_eq_true (by kernel_rfl)) (by unfold Func.isWrapper; first | (rw [if_pos (by decide +kernel)]; kernel_rfl) | (rw [if_neg (by decide +kernel)]; exact ⟨rfl, rfl⟩))
    (fun os started H enc _ => ringVoid_lifted os started H enc)

#print axioms ringVoid_holds

end Go.Proofs.Ytligjponbhnedaa
