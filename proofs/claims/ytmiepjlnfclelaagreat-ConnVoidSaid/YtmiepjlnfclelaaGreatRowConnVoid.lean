/-
  'pointsmanlaw15.ConnVoid' returns true whatever the input, and the input reads as it did. Conditions: none beyond those of the given statement.
-/
import Derived.Test.YtmiepjlnfclelaaGreatPlan
import Derived.Test.YtmiepjlnfclelaaGreatEv10
set_option linter.all false
namespace Go.Proofs.YtmiepjlnfclelaaGreat
open Go.Sh Go.Ev Go.ChangeShapes Go.WideShapes Go.ChangeAt Go.RowKit

theorem connVoid_own : ownKnob Tryz.prog.godebug = none := by kernel_rfl
theorem connVoid_laid : laidOutB Tryz.prog = true := by kernel_rfl
theorem connVoid_bool : Tryz.prog.underlying 4 = some .bool := by kernel_rfl
theorem connVoid_u3 : Tryz.prog.underlying 3 = some (.int .i64) := by kernel_rfl
theorem connVoid_u3c : Tryz.prog.cellsOf 3 = 1 := by kernel_rfl
theorem connVoid_u31 : Tryz.prog.underlying 31 = some (.struct #[⟨ "From", 3, 0, false, "", "", 0⟩, ⟨ "To", 3, 1, false, "", "", 8⟩, ⟨ "Seq", 22, 2, false, "", "", 16⟩, ⟨ "Ack", 22, 3, false, "", "", 20⟩, ⟨ "Flags", 3, 4, false, "", "", 24⟩, ⟨ "Window", 3, 5, false, "", "", 32⟩, ⟨ "Urgent", 3, 6, false, "", "", 40⟩, ⟨ "Greatest", 3, 7, false, "", "", 48⟩, ⟨ "Data", 29, 8, false, "", "", 56⟩]) := by kernel_rfl
theorem connVoid_u22 : Tryz.prog.underlying 22 = some (.int .u32) := by kernel_rfl
theorem connVoid_u22c : Tryz.prog.cellsOf 22 = 1 := by kernel_rfl
theorem connVoid_u29 : Tryz.prog.underlying 29 = some (.slice 5) := by kernel_rfl
theorem connVoid_u29c : Tryz.prog.cellsOf 29 = 1 := by kernel_rfl
set_option maxRecDepth 1000000 in
theorem connVoid_run (x0 : Int) (y1_0 : Int) (y1_1 : Int) (y1_2 : Int) (y1_3 : Int) (y1_4 : Int) (y1_5 : Int) (y1_6 : Int) (y1_7 : Int) (y1_8a : Option Addr) (y1_8n y1_8c : Nat) (x2 : Int) : isTrue (cFn Tryz.prog plansOf noOv 60 5 [.int .i64 x0, .agg [.int .i64 y1_0, .int .i64 y1_1, .int .u32 y1_2, .int .u32 y1_3, .int .i64 y1_4, .int .i64 y1_5, .int .i64 y1_6, .int .i64 y1_7, .opq (.slice y1_8a y1_8n y1_8c)], .int .i64 x2] ch0) = true := by kernel_rfl

set_option maxRecDepth 100000 in
theorem connVoid_lifted (os : Os) (started : os.Started) (H : Type) (enc : TypeId × Value → H) :
    ReturnsInHanded {} Tryz.checked os 5 .any (Rows.connVoidSpec.pre6 enc Tryz.prog Tryz.f5 Rows.connVoidRow.domain false) (Rows.connVoidSpec.post enc Tryz.prog Tryz.f5 false true false false) := by
  refine lifted (C := Tryz.checked) (tb := 4) connVoid_own started (by kernel_rfl) Tryz.func5
    (ChangeSpec.witness6 (enc := enc) (C := Tryz.checked) false ⟨#[], #[.int .i64 0, .agg #[.int .i64 0, .int .i64 0, .int .u32 0, .int .u32 0, .int .i64 0, .int .i64 0, .int .i64 0, .int .i64 0, .slice none 0 0], .int .i64 0], []⟩ 8 (by kernel_rfl) (by kernel_rfl) (by kernel_rfl) (by kernel_rfl)) connVoid_laid (by kernel_rfl) rfl rfl connVoid_bool ?_
  intro W base args ds p hval0 hA0
  obtain ⟨args⟩ := args
  have hval : ∀ (j : Nat) t v, Tryz.f5.params[j]? = some t → args[j]? = some v → Value.okWide Tryz.prog W .any base t v := fun j t v h1 h2 => hval0 j t v h1 (by simpa using h2)
  have hA : DataW.TrodAll enc Tryz.prog W 0 (fun _ => true) true Tryz.f5.params.toList args ds p := hA0
  rw [Tryz.params5] at hA hval
  obtain ⟨v0, vs0, d0, ds0, p0, q0, rfl, rfl, rfl, h0, hA⟩ := trodAll_cons hA
  obtain ⟨v1, vs1, d1, ds1, p1, q1, rfl, rfl, rfl, h1, hA⟩ := trodAll_cons hA
  obtain ⟨v2, vs2, d2, ds2, p2, q2, rfl, rfl, rfl, h2, hA⟩ := trodAll_cons hA
  obtain ⟨rfl, rfl, rfl⟩ := trodAll_nil hA
  refine ⟨rfl, ?_⟩
  obtain ⟨x0, rfl⟩ := okWide_int connVoid_u3 (hval 0 3 v0 rfl rfl)
  obtain ⟨l1, m1, rfl, hl1, hf1⟩ := open_fields connVoid_u31 (hval 1 31 v1 rfl rfl) h1
  obtain ⟨_, g1_0⟩ := hf1 0 _ rfl
  obtain ⟨y1_0, e1_0⟩ := field_int connVoid_u3 connVoid_u3c g1_0
  obtain ⟨_, g1_1⟩ := hf1 1 _ rfl
  obtain ⟨y1_1, e1_1⟩ := field_int connVoid_u3 connVoid_u3c g1_1
  obtain ⟨_, g1_2⟩ := hf1 2 _ rfl
  obtain ⟨y1_2, e1_2⟩ := field_int connVoid_u22 connVoid_u22c g1_2
  obtain ⟨_, g1_3⟩ := hf1 3 _ rfl
  obtain ⟨y1_3, e1_3⟩ := field_int connVoid_u22 connVoid_u22c g1_3
  obtain ⟨_, g1_4⟩ := hf1 4 _ rfl
  obtain ⟨y1_4, e1_4⟩ := field_int connVoid_u3 connVoid_u3c g1_4
  obtain ⟨_, g1_5⟩ := hf1 5 _ rfl
  obtain ⟨y1_5, e1_5⟩ := field_int connVoid_u3 connVoid_u3c g1_5
  obtain ⟨_, g1_6⟩ := hf1 6 _ rfl
  obtain ⟨y1_6, e1_6⟩ := field_int connVoid_u3 connVoid_u3c g1_6
  obtain ⟨_, g1_7⟩ := hf1 7 _ rfl
  obtain ⟨y1_7, e1_7⟩ := field_int connVoid_u3 connVoid_u3c g1_7
  obtain ⟨_, g1_8⟩ := hf1 8 _ rfl
  obtain ⟨y1_8a, y1_8n, y1_8c, e1_8⟩ := field_slice connVoid_u29 connVoid_u29c g1_8
  rw [show Tryz.prog.cellsOf 31 = 9 from by kernel_rfl] at hl1
  match l1, hl1 with
  | [z1_0, z1_1, z1_2, z1_3, z1_4, z1_5, z1_6, z1_7, z1_8], _ =>
  cases e1_0
  cases e1_1
  cases e1_2
  cases e1_3
  cases e1_4
  cases e1_5
  cases e1_6
  cases e1_7
  cases e1_8
  obtain ⟨x2, rfl⟩ := okWide_int connVoid_u3 (hval 2 3 v2 rfl rfl)
  exact ev_true (noOv.ok _) (VRs.cons (vr_int _ _) (VRs.cons (vr_agg (VRs.cons (vr_int _ _) (VRs.cons (vr_int _ _) (VRs.cons (vr_int _ _) (VRs.cons (vr_int _ _) (VRs.cons (vr_int _ _) (VRs.cons (vr_int _ _) (VRs.cons (vr_int _ _) (VRs.cons (vr_int _ _) (VRs.cons (vr_opq _) (VRs.nil))))))))))) (VRs.cons (vr_int _ _) (VRs.nil)))) (connVoid_run x0 y1_0 y1_1 y1_2 y1_3 y1_4 y1_5 y1_6 y1_7 y1_8a y1_8n y1_8c x2) (hp W)

theorem connVoid_holds : Rows.ConnVoidSaid :=
  OpenClaim.holds_of_wide 5 Tryz.f5 rfl rfl rfl rfl rfl rfl rfl ⟨rfl, rfl, rfl, rfl, rfl⟩ rfl rfl rfl rfl rfl (by kernel_rfl) Tryz.func5 (by kernel_rfl)
    (of_decide_eq_true (by kernel_rfl)) (by unfold Func.isWrapper; first | (rw [if_pos (by decide +kernel)]; kernel_rfl) | (rw [if_neg (by decide +kernel)]; exact ⟨rfl, rfl⟩))
    (fun os started H enc _ => connVoid_lifted os started H enc)

#print axioms connVoid_holds

end Go.Proofs.YtmiepjlnfclelaaGreat
