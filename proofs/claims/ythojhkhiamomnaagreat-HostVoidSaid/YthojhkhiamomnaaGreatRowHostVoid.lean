/-
  'pointsmanlaw36.HostVoid' returns true whatever the input, and the input reads as it did. Conditions: none beyond those of the given statement.
-/
import Derived.Test.YthojhkhiamomnaaGreatHvRun
import Derived.Test.YthojhkhiamomnaaGreatClosedHostVoid
set_option linter.all false
namespace Go.Proofs.YthojhkhiamomnaaGreat
open Go.Sh Go.Ev Go.ChangeShapes Go.WideShapes Go.ChangeAt Go.RowKit

theorem hostVoid_own : ownKnob Tryz.prog.godebug = none := by kernel_rfl
theorem hostVoid_bool : Tryz.prog.underlying 4 = some .bool := by kernel_rfl
theorem hostVoid_u22 : Tryz.prog.underlying 22 = some (.slice 5) := by kernel_rfl
theorem hostVoid_u22c : Tryz.prog.cellsOf 22 = 1 := by kernel_rfl
theorem hostVoid_u3 : Tryz.prog.underlying 3 = some (.int .i64) := by kernel_rfl
theorem hostVoid_u3c : Tryz.prog.cellsOf 3 = 1 := by kernel_rfl
set_option maxRecDepth 100000 in
theorem hostVoid_lifted (os : Os) (started : os.Started) (H : Type) (enc : TypeId × Value → H) :
    ReturnsInHanded {} Tryz.checked os 3 .any (Rows.hostVoidSpec.pre6 enc Tryz.prog Tryz.f3 Rows.hostVoidRow.domain false) (Rows.hostVoidSpec.post enc Tryz.prog Tryz.f3 false true false false) := by
  refine lifted (C := Tryz.checked) (tb := 4) hostVoid_own started (by kernel_rfl) Tryz.func3
    (ChangeSpec.witness6 (enc := enc) (C := Tryz.checked) false ⟨#[], #[.slice none 0 0, .int .i64 0], []⟩ 8 (by kernel_rfl) (by kernel_rfl) (by kernel_rfl) (by kernel_rfl)) Closed.k2 Closed.params rfl rfl hostVoid_bool ?_
  intro W base args ds p hval0 hA0
  obtain ⟨args⟩ := args
  have hval : ∀ (j : Nat) t v, Tryz.f3.params[j]? = some t → args[j]? = some v → Value.okWide Tryz.prog W .any base t v := fun j t v h1 h2 => hval0 j t v h1 (by simpa using h2)
  have hA : DataW.TrodAll enc Tryz.prog W 0 (fun _ => true) true Tryz.f3.params.toList args ds p := hA0
  rw [Tryz.params3] at hA hval
  obtain ⟨v0, vs0, d0, ds0, p0, q0, rfl, rfl, rfl, h0, hA⟩ := trodAll_cons hA
  obtain ⟨v1, vs1, d1, ds1, p1, q1, rfl, rfl, rfl, h1, hA⟩ := trodAll_cons hA
  obtain ⟨rfl, rfl, rfl⟩ := trodAll_nil hA
  refine ⟨rfl, ?_⟩
  obtain ⟨a0, n0, c0, rfl⟩ := okWide_slice hostVoid_u22 (hval 0 22 v0 rfl rfl)
  obtain ⟨x1, rfl⟩ := okWide_int hostVoid_u3 (hval 1 3 v1 rfl rfl)
  letI : Sym := sym0
  exact ev_true (noOv.ok _) (by kernel_rfl) (VRs.cons (vr_opq _) (VRs.cons (vr_int _ _) (VRs.nil))) (hostVoid_run a0 n0 c0 x1) (hp W) trivial

set_option maxRecDepth 100000 in
theorem hostVoid_holds : Rows.HostVoidSaid :=
  OpenClaim.holds_of_wide 3 Tryz.f3 rfl rfl rfl rfl rfl rfl rfl ⟨rfl, rfl, rfl, rfl, rfl⟩ rfl rfl rfl rfl rfl (by kernel_rfl) Tryz.func3 Closed.joined
    (of_decide_eq_true (by kernel_rfl)) (by unfold Func.isWrapper; first | (rw [if_pos (by decide +kernel)]; kernel_rfl) | (rw [if_neg (by decide +kernel)]; exact ⟨rfl, rfl⟩))
    (fun os started H enc _ => hostVoid_lifted os started H enc)

#print axioms hostVoid_holds

end Go.Proofs.YthojhkhiamomnaaGreat
