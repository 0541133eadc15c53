/-
  'pointsmanlaw02.PoolVoid' returns true whatever the input, and the input reads as it did. Conditions: none beyond those of the given statement.
-/
import Derived.Test.YtligjponbhnedaaVoid
import Derived.Test.YtligjponbhnedaaLift
namespace Go.Proofs.Ytligjponbhnedaa
open Go.Sh Go.ChangeShapes Go.WideShapes Go.ChangeAt Go.RowKit

theorem Try.ownV : ownKnob Try.prog.godebug = none := by kernel_rfl
theorem Try.laidOutV : laidOutB Try.prog = true := by kernel_rfl
theorem und_boolV : Try.prog.underlying T_bool = some .bool := by kernel_rfl
theorem und_intV : Try.prog.underlying T_int = some (.int .i64) := by kernel_rfl
theorem cells_intV : Try.prog.cellsOf T_int = 1 := by kernel_rfl
theorem cells_HandleV : Try.prog.cellsOf T_pool_Handle = 2 := by kernel_rfl

set_option maxRecDepth 100000 in
theorem poolVoid_lifted (os : Os) (started : os.Started) (H : Type) (enc : TypeId × Value → H) :
    ReturnsInHanded {} Try.checked os 6 .any (Rows.poolVoidSpec.pre6 enc Try.prog Try.f6 Rows.poolVoidRow.domain false) (Rows.poolVoidSpec.post enc Try.prog Try.f6 false true false false) := by
  refine lifted (C := Try.checked) (tb := T_bool) Try.ownV started (by kernel_rfl) Try.func6
    (ChangeSpec.witness6 (enc := enc) (C := Try.checked) false ⟨#[], #[.agg #[.int .i64 0, .int .i64 0], .slice none 0 0], []⟩ 8 (by kernel_rfl) (by kernel_rfl) (by kernel_rfl) (by kernel_rfl)) Try.laidOutV (by kernel_rfl) rfl rfl und_boolV ?_
  intro W base args ds p hval0 hA0
  have hval : ∀ (j : Nat) t v, Try.f6.params[j]? = some t → args[j]? = some v → Value.okWide Try.prog W .any base t v := hval0
  have hA : DataW.TrodAll enc Try.prog W 0 (fun _ => true) true Try.f6.params.toList args.toList ds p := hA0
  rw [Try.params6] at hA hval
  obtain ⟨v0, v1, d0, d1, p0, p1, rfl, rfl, rfl, h0, h1⟩ := trodAll_two hA
  refine ⟨rfl, ?_⟩
  obtain ⟨n, t, rfl, _, _⟩ := open_pair Try.underlying30 rfl rfl rfl rfl und_intV und_intV cells_intV cells_intV cells_HandleV (hval 0 T_pool_Handle v0 rfl rfl) h0
  obtain ⟨a, l, cap, rfl⟩ := okWide_slice und_sl_uint8 (hval 1 T_sl_uint8 v1 rfl rfl)
  exact law02_PoolVoid_spec n t a l cap

theorem poolVoid_holds : Rows.PoolVoidSaid :=
  OpenClaim.holds_of_wide 6 Try.f6 rfl rfl rfl rfl rfl rfl rfl ⟨rfl, rfl, rfl, rfl, rfl⟩ rfl rfl rfl rfl rfl (by kernel_rfl) Try.func6 (by kernel_rfl)
    (of_decide_eq_true (by kernel_rfl)) (by unfold Func.isWrapper; first | (rw [if_pos (by decide +kernel)]; kernel_rfl) | (rw [if_neg (by decide +kernel)]; exact ⟨rfl, rfl⟩))
    (fun os started H enc _ => poolVoid_lifted os started H enc)

#print axioms poolVoid_holds

end Go.Proofs.Ytligjponbhnedaa
