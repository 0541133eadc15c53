/-
  'pointsmanlaw03.RingOrder' returns true whatever the input, and the input reads as it did. Conditions: none beyond those of the given statement.
-/
import Derived.Test.YtligjponbhnedaaLaw3b
import Derived.Test.YtligjponbhnedaaLift
namespace Go.Proofs.Ytligjponbhnedaa
open Go.Sh Go.ChangeShapes Go.WideShapes Go.ChangeAt Go.RowKit

theorem Try.ownX : ownKnob Try.prog.godebug = none := by kernel_rfl
theorem Try.laidOutX : laidOutB Try.prog = true := by kernel_rfl

theorem und_boolX : Try.prog.underlying T_bool = some .bool := by kernel_rfl
theorem und_intX : Try.prog.underlying T_int = some (.int .i64) := by kernel_rfl
theorem cells_intX : Try.prog.cellsOf T_int = 1 := by kernel_rfl

set_option maxRecDepth 100000 in
theorem ringOrder_lifted (os : Os) (started : os.Started) (H : Type) (enc : TypeId × Value → H) :
    ReturnsInHanded {} Try.checked os 7 .any (Rows.ringOrderSpec.pre6 enc Try.prog Try.f7 Rows.ringOrderRow.domain false) (Rows.ringOrderSpec.post enc Try.prog Try.f7 false true false false) := by
  refine lifted (C := Try.checked) (tb := T_bool) Try.ownX started (by kernel_rfl) Try.func7
    (ChangeSpec.witness6 (enc := enc) (C := Try.checked) false ⟨#[], #[.int .i64 0, .slice none 0 0], []⟩ 8 (by kernel_rfl) (by kernel_rfl) (by kernel_rfl) (by kernel_rfl)) Try.laidOutX (by kernel_rfl) rfl rfl und_boolX ?_
  intro W base args ds p hval0 hA0
  have hval : ∀ (j : Nat) t v, Try.f7.params[j]? = some t → args[j]? = some v → Value.okWide Try.prog W .any base t v := hval0
  have hA : DataW.TrodAll enc Try.prog W 0 (fun _ => true) true Try.f7.params.toList args.toList ds p := hA0
  rw [Try.params7] at hA hval
  obtain ⟨v0, v1, d0, d1, p0, p1, rfl, rfl, rfl, h0, h1⟩ := trodAll_two hA
  refine ⟨rfl, ?_⟩
  obtain ⟨n0, rfl, _, _, _⟩ := open_int und_intX (hval 0 T_int v0 rfl rfl) h0
  obtain ⟨a, n, cap, rfl, _, _, ha⟩ := open_i64s und_sl_int und_intX cells_intX (hval 1 T_sl_int v1 rfl rfl) h1
  refine law03_RingOrder_spec n0 fun i hi => ?_
  obtain ⟨b, o, e, z, hz, _⟩ := ha i hi
  exact ⟨b, o, e, z, hz⟩

theorem ringOrder_holds : Rows.RingOrderSaid :=
  OpenClaim.holds_of_wide 7 Try.f7 rfl rfl rfl rfl rfl rfl rfl ⟨rfl, rfl, rfl, rfl, rfl⟩ rfl rfl rfl rfl rfl (by kernel_rfl) Try.func7 (by kernel_rfl)
    (of_decide_eq_true (by kernel_rfl)) (by unfold Func.isWrapper; first | (rw [if_pos (by decide +kernel)]; kernel_rfl) | (rw [if_neg (by decide +kernel)]; exact ⟨rfl, rfl⟩))
    (fun os started H enc _ => ringOrder_lifted os started H enc)

#print axioms ringOrder_holds

end Go.Proofs.Ytligjponbhnedaa
