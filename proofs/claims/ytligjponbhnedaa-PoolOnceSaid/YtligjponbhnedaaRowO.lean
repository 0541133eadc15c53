/-
  'pointsmanlaw02.PoolOnce' returns true whatever the input, and the input reads as it did. Conditions: none beyond those of the given statement.
-/
import Derived.Test.YtligjponbhnedaaActs
import Derived.Test.YtligjponbhnedaaLaw2e
namespace Go.Proofs.Ytligjponbhnedaa
open Go.Sh Go.ChangeShapes Go.WideShapes Go.ChangeAt Go.RowKit

theorem Try.ownO : ownKnob Try.prog.godebug = none := by kernel_rfl
theorem Try.laidOutO : laidOutB Try.prog = true := by kernel_rfl

set_option maxRecDepth 100000 in
theorem poolOnce_lifted (os : Os) (started : os.Started) (H : Type) (enc : TypeId × Value → H) :
    ReturnsInHanded {} Try.checked os 4 .any (Rows.poolOnceSpec.pre6 enc Try.prog Try.f4 Rows.poolOnceRow.domain false) (Rows.poolOnceSpec.post enc Try.prog Try.f4 false true false false) := by
  refine lifted (C := Try.checked) (tb := T_bool) Try.ownO started (by kernel_rfl) Try.func4
    (ChangeSpec.witness6 (enc := enc) (C := Try.checked) false ⟨#[], #[.int .i64 0, .slice none 0 0], []⟩ 8 (by kernel_rfl) (by kernel_rfl) (by kernel_rfl) (by kernel_rfl)) Try.laidOutO (by kernel_rfl) rfl rfl und_bool2 ?_
  intro W base args ds p hval0 hA0
  have hval : ∀ (j : Nat) t v, Try.f4.params[j]? = some t → args[j]? = some v → Value.okWide Try.prog W .any base t v := hval0
  have hA : DataW.TrodAll enc Try.prog W 0 (fun _ => true) true Try.f4.params.toList args.toList ds p := hA0
  rw [Try.params4] at hA hval
  obtain ⟨v0, v1, d0, d1, p0, p1, rfl, rfl, rfl, h0, h1⟩ := trodAll_two hA
  refine ⟨rfl, ?_⟩
  obtain ⟨n0, rfl, _, _, _⟩ := open_int und_int2 (hval 0 T_int v0 rfl rfl) h0
  obtain ⟨a, n, cap, rfl, _, ha⟩ := open_acts (hval 1 T_sl_pointsmanlaw02_Act v1 rfl rfl) h1
  exact law02_PoolOnce_spec n0 ha

theorem poolOnce_holds : Rows.PoolOnceSaid :=
  OpenClaim.holds_of_wide 4 Try.f4 rfl rfl rfl rfl rfl rfl rfl ⟨rfl, rfl, rfl, rfl, rfl⟩ rfl rfl rfl rfl rfl (by kernel_rfl) Try.func4 (by kernel_rfl)
    (of_decide_eq_true (by kernel_rfl)) (by unfold Func.isWrapper; first | (rw [if_pos (by decide +kernel)]; kernel_rfl) | (rw [if_neg (by decide +kernel)]; exact ⟨rfl, rfl⟩))
    (fun os started H enc _ => poolOnce_lifted os started H enc)

#print axioms poolOnce_holds

end Go.Proofs.Ytligjponbhnedaa
