/-
  'pointsmanlaw04.WheelVoid' returns true whatever the input, and the input reads as it did. Conditions: none beyond those of the given statement.
-/
import Derived.Test.YtdhjglkacnhhcaaPlan
import Derived.Test.YtdhjglkacnhhcaaEv10
set_option linter.all false
namespace Go.Proofs.Ytdhjglkacnhhcaa
open Go.Sh Go.Ev Go.ChangeShapes Go.WideShapes Go.ChangeAt Go.RowKit

theorem wheelVoid_own : ownKnob Try.prog.godebug = none := by kernel_rfl
theorem wheelVoid_laid : laidOutB Try.prog = true := by kernel_rfl
theorem wheelVoid_bool : Try.prog.underlying 4 = some .bool := by kernel_rfl
theorem wheelVoid_u3 : Try.prog.underlying 3 = some (.int .i64) := by kernel_rfl
theorem wheelVoid_u3c : Try.prog.cellsOf 3 = 1 := by kernel_rfl
set_option maxRecDepth 1000000 in
theorem wheelVoid_run (x0 : Int) (x1 : Int) : isTrue (cFn Try.prog plansOf noOv 60 7 [.int .i64 x0, .int .i64 x1] ch0) = true := by kernel_rfl

set_option maxRecDepth 100000 in
theorem wheelVoid_lifted (os : Os) (started : os.Started) (H : Type) (enc : TypeId × Value → H) :
    ReturnsInHanded {} Try.checked os 7 .any (Rows.wheelVoidSpec.pre6 enc Try.prog Try.f7 Rows.wheelVoidRow.domain false) (Rows.wheelVoidSpec.post enc Try.prog Try.f7 false true false false) := by
  refine lifted (C := Try.checked) (tb := 4) wheelVoid_own started (by kernel_rfl) Try.func7
    (ChangeSpec.witness6 (enc := enc) (C := Try.checked) false ⟨#[], #[.int .i64 0, .int .i64 0], []⟩ 8 (by kernel_rfl) (by kernel_rfl) (by kernel_rfl) (by kernel_rfl)) wheelVoid_laid (by kernel_rfl) rfl rfl wheelVoid_bool ?_
  intro W base args ds p hval0 hA0
  obtain ⟨args⟩ := args
  have hval : ∀ (j : Nat) t v, Try.f7.params[j]? = some t → args[j]? = some v → Value.okWide Try.prog W .any base t v := fun j t v h1 h2 => hval0 j t v h1 (by simpa using h2)
  have hA : DataW.TrodAll enc Try.prog W 0 (fun _ => true) true Try.f7.params.toList args ds p := hA0
  rw [Try.params7] at hA hval
  obtain ⟨v0, vs0, d0, ds0, p0, q0, rfl, rfl, rfl, h0, hA⟩ := trodAll_cons hA
  obtain ⟨v1, vs1, d1, ds1, p1, q1, rfl, rfl, rfl, h1, hA⟩ := trodAll_cons hA
  obtain ⟨rfl, rfl, rfl⟩ := trodAll_nil hA
  refine ⟨rfl, ?_⟩
  obtain ⟨x0, rfl⟩ := okWide_int wheelVoid_u3 (hval 0 3 v0 rfl rfl)
  obtain ⟨x1, rfl⟩ := okWide_int wheelVoid_u3 (hval 1 3 v1 rfl rfl)
  letI : Sym := sym0
  exact ev_true (noOv.ok _) (by kernel_rfl) (VRs.cons (vr_int _ _) (VRs.cons (vr_int _ _) (VRs.nil))) (wheelVoid_run x0 x1) (hp W)

theorem wheelVoid_holds : Rows.WheelVoidSaid :=
  OpenClaim.holds_of_wide 7 Try.f7 rfl rfl rfl rfl rfl rfl rfl ⟨rfl, rfl, rfl, rfl, rfl⟩ rfl rfl rfl rfl rfl (by kernel_rfl) Try.func7 (by kernel_rfl)
    (of_decide_eq_true (by kernel_rfl)) (by unfold Func.isWrapper; first | (rw [if_pos (by decide +kernel)]; kernel_rfl) | (rw [if_neg (by decide +kernel)]; exact ⟨rfl, rfl⟩))
    (fun os started H enc _ => wheelVoid_lifted os started H enc)

#print axioms wheelVoid_holds

end Go.Proofs.Ytdhjglkacnhhcaa
