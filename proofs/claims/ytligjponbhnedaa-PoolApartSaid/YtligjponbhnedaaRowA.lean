/-
  'pointsmanlaw02.PoolApart' returns true whatever the input, and the input reads as it did. Conditions: none beyond those of the given statement.
-/
import Derived.Test.YtligjponbhnedaaLaw2b
import Derived.Test.YtligjponbhnedaaLift
namespace Go.Proofs.Ytligjponbhnedaa
open Go.Sh Go.ChangeShapes Go.WideShapes Go.ChangeAt Go.RowKit

theorem Try.own : ownKnob Try.prog.godebug = none := by kernel_rfl
theorem Try.laidOut : laidOutB Try.prog = true := by kernel_rfl
theorem und_bool : Try.prog.underlying T_bool = some .bool := by kernel_rfl
theorem cells_uint8 : Try.prog.cellsOf T_uint8 = 1 := by kernel_rfl

set_option maxRecDepth 100000 in
theorem poolApart_lifted (os : Os) (started : os.Started) (H : Type) (enc : TypeId × Value → H) :
    ReturnsInHanded {} Try.checked os 3 .any (Rows.poolApartSpec.pre6 enc Try.prog Try.f3 Rows.poolApartRow.domain false) (Rows.poolApartSpec.post enc Try.prog Try.f3 false true false false) := by
  refine lifted (C := Try.checked) (tb := T_bool) Try.own started (by kernel_rfl) Try.func3
    (ChangeSpec.witness6 (enc := enc) (C := Try.checked) false ⟨#[], #[.slice none 0 0, .slice none 0 0, .slice none 0 0], []⟩ 8 (by kernel_rfl) (by kernel_rfl) (by kernel_rfl) (by kernel_rfl)) Try.laidOut (by kernel_rfl) rfl rfl und_bool ?_
  intro W base args ds p hval0 hA0
  have hval : ∀ (j : Nat) t v, Try.f3.params[j]? = some t → args[j]? = some v → Value.okWide Try.prog W .any base t v := hval0
  have hA : DataW.TrodAll enc Try.prog W 0 (fun _ => true) true Try.f3.params.toList args.toList ds p := hA0
  rw [Try.params3] at hA hval
  obtain ⟨v0, v1, v2, d0, d1, d2, p0, p1, p2, rfl, rfl, rfl, h0, h1, h2⟩ := trodAll_three hA
  refine ⟨rfl, ?_⟩
  obtain ⟨a0, n0, c0, A, rfl, l0, _, r0⟩ := open_bytes und_sl_uint8 und_uint8 cells_uint8 (hval 0 T_sl_uint8 v0 rfl rfl) h0
  obtain ⟨a1, n1, c1, B, rfl, l1, _, r1⟩ := open_bytes und_sl_uint8 und_uint8 cells_uint8 (hval 1 T_sl_uint8 v1 rfl rfl) h1
  obtain ⟨a2, n2, c2, C, rfl, l2, _, r2⟩ := open_bytes und_sl_uint8 und_uint8 cells_uint8 (hval 2 T_sl_uint8 v2 rfl rfl) h2
  exact law02_PoolApart_spec r0 r1 r2 l0 l1 l2

theorem poolApart_holds : Rows.PoolApartSaid :=
  OpenClaim.holds_of_wide 3 Try.f3 rfl rfl rfl rfl rfl rfl rfl ⟨rfl, rfl, rfl, rfl, rfl⟩ rfl rfl rfl rfl rfl (by kernel_rfl) Try.func3 (by kernel_rfl)
    (of_decide_eq_true (by kernel_rfl)) (by unfold Func.isWrapper; first | (rw [if_pos (by decide +kernel)]; kernel_rfl) | (rw [if_neg (by decide +kernel)]; exact ⟨rfl, rfl⟩))
    (fun os started H enc _ => poolApart_lifted os started H enc)

#print axioms poolApart_holds

end Go.Proofs.Ytligjponbhnedaa
