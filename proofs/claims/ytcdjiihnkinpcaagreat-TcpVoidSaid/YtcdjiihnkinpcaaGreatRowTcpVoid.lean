/-
  'pointsmanlaw16.TcpVoid' returns true whatever the input, and the input reads as it did. Conditions: none beyond those of the given statement.
-/
import Derived.Test.YtcdjiihnkinpcaaGreatPlan
import Derived.Test.YtcdjiihnkinpcaaGreatEv10
set_option linter.all false
namespace Go.Proofs.YtcdjiihnkinpcaaGreat
open Go.Sh Go.Ev Go.ChangeShapes Go.WideShapes Go.ChangeAt Go.RowKit

theorem tcpVoid_own : ownKnob Tryz.prog.godebug = none := by kernel_rfl
theorem tcpVoid_laid : laidOutB Tryz.prog = true := by kernel_rfl
theorem tcpVoid_bool : Tryz.prog.underlying 4 = some .bool := by kernel_rfl
theorem tcpVoid_u3 : Tryz.prog.underlying 3 = some (.int .i64) := by kernel_rfl
theorem tcpVoid_u3c : Tryz.prog.cellsOf 3 = 1 := by kernel_rfl
theorem tcpVoid_u27 : Tryz.prog.underlying 27 = some (.int .u32) := by kernel_rfl
theorem tcpVoid_u27c : Tryz.prog.cellsOf 27 = 1 := by kernel_rfl
theorem tcpVoid_u40 : Tryz.prog.underlying 40 = some (.slice 5) := by kernel_rfl
theorem tcpVoid_u40c : Tryz.prog.cellsOf 40 = 1 := by kernel_rfl
set_option maxRecDepth 1000000 in
theorem tcpVoid_run (x0 : Int) (x1 : Int) (a2 : Option Addr) (n2 c2 : Nat) : isTrue (cFn Tryz.prog plansOf noOv 60 7 [.int .i64 x0, .int .u32 x1, .opq (.slice a2 n2 c2)] ch0) = true := by kernel_rfl

set_option maxRecDepth 100000 in
theorem tcpVoid_lifted (os : Os) (started : os.Started) (H : Type) (enc : TypeId × Value → H) :
    ReturnsInHanded {} Tryz.checked os 7 .any (Rows.tcpVoidSpec.pre6 enc Tryz.prog Tryz.f7 Rows.tcpVoidRow.domain false) (Rows.tcpVoidSpec.post enc Tryz.prog Tryz.f7 false true false false) := by
  refine lifted (C := Tryz.checked) (tb := 4) tcpVoid_own started (by kernel_rfl) Tryz.func7
    (ChangeSpec.witness6 (enc := enc) (C := Tryz.checked) false ⟨#[], #[.int .i64 0, .int .u32 0, .slice none 0 0], []⟩ 8 (by kernel_rfl) (by kernel_rfl) (by kernel_rfl) (by kernel_rfl)) tcpVoid_laid (by kernel_rfl) rfl rfl tcpVoid_bool ?_
  intro W base args ds p hval0 hA0
  obtain ⟨args⟩ := args
  have hval : ∀ (j : Nat) t v, Tryz.f7.params[j]? = some t → args[j]? = some v → Value.okWide Tryz.prog W .any base t v := fun j t v h1 h2 => hval0 j t v h1 (by simpa using h2)
  have hA : DataW.TrodAll enc Tryz.prog W 0 (fun _ => true) true Tryz.f7.params.toList args ds p := hA0
  rw [Tryz.params7] at hA hval
  obtain ⟨v0, vs0, d0, ds0, p0, q0, rfl, rfl, rfl, h0, hA⟩ := trodAll_cons hA
  obtain ⟨v1, vs1, d1, ds1, p1, q1, rfl, rfl, rfl, h1, hA⟩ := trodAll_cons hA
  obtain ⟨v2, vs2, d2, ds2, p2, q2, rfl, rfl, rfl, h2, hA⟩ := trodAll_cons hA
  obtain ⟨rfl, rfl, rfl⟩ := trodAll_nil hA
  refine ⟨rfl, ?_⟩
  obtain ⟨x0, rfl⟩ := okWide_int tcpVoid_u3 (hval 0 3 v0 rfl rfl)
  obtain ⟨x1, rfl⟩ := okWide_int tcpVoid_u27 (hval 1 27 v1 rfl rfl)
  obtain ⟨a2, n2, c2, rfl⟩ := okWide_slice tcpVoid_u40 (hval 2 40 v2 rfl rfl)
  exact ev_true (noOv.ok _) rfl (VRs.cons (vr_int _ _) (VRs.cons (vr_int _ _) (VRs.cons (vr_opq _) (VRs.nil)))) (tcpVoid_run x0 x1 a2 n2 c2) (hp W)

theorem tcpVoid_holds : Rows.TcpVoidSaid :=
  OpenClaim.holds_of_wide 7 Tryz.f7 rfl rfl rfl rfl rfl rfl rfl ⟨rfl, rfl, rfl, rfl, rfl⟩ rfl rfl rfl rfl rfl (by kernel_rfl) Tryz.func7 (by kernel_rfl)
    (of_decide_eq_true (by kernel_rfl)) (by unfold Func.isWrapper; first | (rw [if_pos (by decide +kernel)]; kernel_rfl) | (rw [if_neg (by decide +kernel)]; exact ⟨rfl, rfl⟩))
    (fun os started H enc _ => tcpVoid_lifted os started H enc)

#print axioms tcpVoid_holds

end Go.Proofs.YtcdjiihnkinpcaaGreat
