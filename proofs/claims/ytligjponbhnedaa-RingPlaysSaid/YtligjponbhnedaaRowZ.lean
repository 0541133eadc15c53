/-
  'pointsmanlaw03.RingPlays' returns true whatever the input, and the input reads as it did. Conditions: none beyond those of the given statement.
-/
import Derived.Test.YtligjponbhnedaaActs3
namespace Go.Proofs.Ytligjponbhnedaa
open Go.Sh Go.ChangeShapes Go.WideShapes Go.ChangeAt Go.RowKit

theorem Try.ownZ : ownKnob Try.prog.godebug = none := by kernel_rfl
theorem Try.laidOutZ : laidOutB Try.prog = true := by kernel_rfl

set_option maxRecDepth 100000 in
theorem ringPlays_lifted (os : Os) (started : os.Started) (H : Type) (enc : TypeId × Value → H) :
    ReturnsInHanded {} Try.checked os 9 .any (Rows.ringPlaysSpec.pre6 enc Try.prog Try.f9 Rows.ringPlaysRow.domain false) (Rows.ringPlaysSpec.post enc Try.prog Try.f9 false true false false) := by
  refine lifted (C := Try.checked) (tb := T_bool) Try.ownZ started (by kernel_rfl) Try.func9
    (ChangeSpec.witness6 (enc := enc) (C := Try.checked) false ⟨#[], #[.int .i64 0, .int .i64 0, .slice none 0 0], []⟩ 8 (by kernel_rfl) (by kernel_rfl) (by kernel_rfl) (by kernel_rfl)) Try.laidOutZ (by kernel_rfl) rfl rfl und_bool3 ?_
  intro W base args ds p hval0 hA0
  have hval : ∀ (j : Nat) t v, Try.f9.params[j]? = some t → args[j]? = some v → Value.okWide Try.prog W .any base t v := hval0
  have hA : DataW.TrodAll enc Try.prog W 0 (fun _ => true) true Try.f9.params.toList args.toList ds p := hA0
  rw [Try.params9] at hA hval
  obtain ⟨v0, v1, v2, d0, d1, d2, p0, p1, p2, rfl, rfl, rfl, h0, h1, h2⟩ := trodAll_three hA
  refine ⟨rfl, ?_⟩
  obtain ⟨n0, rfl, _, _, _⟩ := open_int und_int3 (hval 0 T_int v0 rfl rfl) h0
  obtain ⟨size, rfl, _, _, _⟩ := open_int und_int3 (hval 1 T_int v1 rfl rfl) h1
  obtain ⟨a, n, cap, rfl, _, ha⟩ := open_acts3 (hval 2 T_sl_pointsmanlaw03_Act v2 rfl rfl) h2
  exact law03_RingPlays_spec n0 size ha

theorem ringPlays_holds : Rows.RingPlaysSaid :=
  OpenClaim.holds_of_wide 9 Try.f9 rfl rfl rfl rfl rfl rfl rfl ⟨rfl, rfl, rfl, rfl, rfl⟩ rfl rfl rfl rfl rfl (by kernel_rfl) Try.func9 (by kernel_rfl)
    (of_decide_eq_true (by kernel_rfl)) (by unfold Func.isWrapper; first | (rw [if_pos (by decide +kernel)]; kernel_rfl) | (rw [if_neg (by decide +kernel)]; exact ⟨rfl, rfl⟩))
    (fun os started H enc _ => ringPlays_lifted os started H enc)

#print axioms ringPlays_holds

end Go.Proofs.Ytligjponbhnedaa
