/-
  'pointsmanlaw21.UpdBuilds' returns true whatever the input, and the input reads as it did. Conditions: none beyond those of the given statement (the listed package-level variables are laid as the program's text lays them).
-/
import Derived.Test.YtboagabgpcghcaaGreatDoorRowL3
import Derived.Test.YtboagabgpcghcaaGreatDoorP21b
set_option linter.unusedVariables false
namespace Go.Proofs.YtboagabgpcghcaaGreatDoor
open Go.Sh Go.ChangeShapes Go.WideShapes Go.ChangeAt Go.RowKit
theorem updBuilds_ps : pksL Tryz.prog Tryz.f5.params.toList = some law21_UpdBuilds_ps := by kernel_rfl
set_option maxRecDepth 100000 in
theorem updBuilds_lifted (os : Os) (started : os.Started) (H : Type) (enc : TypeId × Value → H) :
    ReturnsInHanded {} Tryz.checked os 5 .any (fun w args => (Rows.updBuildsSpec.pre enc Tryz.prog Tryz.f5 Rows.updBuildsRow.domain false w args ∧ laidMetH Tryz.prog laid7 w) ∧ sizedMet enc Tryz.prog Tryz.f5 (OpenSpec.ofChange Rows.updBuildsSpec) false w args)
      (Rows.updBuildsSpec.post enc Tryz.prog Tryz.f5 false true false false) := by
  refine lifted3 (C := Tryz.checked) (tb := T_bool) (laid := laid7) row_own started (by kernel_rfl) Tryz.func5
    (ChangeSpec.witness_shaped (enc := enc) (C := Tryz.checked) (os := os) (X := fun w _ => laidMetH Tryz.prog laid7 w) false (World.laidAll Tryz.prog os laid7) #[.agg #[.slice none 0 0, .slice none 0 0, .int .i64 0, .slice none 0 0, .int .u32 0, .bool false, .int .u32 0, .bool false, .int .u32 0, .bool false, .bool false, .int .u32 0, .int .u32 0, .slice none 0 0, .slice none 0 0, .int .i64 0], .bool false] 12 (World.laidAll_os _ _ _)
      (World.shaped_of_ZipB (by kernel_rfl) (by kernel_rfl)) (by kernel_rfl) (by kernel_rfl) (by kernel_rfl)
      (by rw [MakeChecks.laidMetH_plain _ _ _ (by kernel_rfl)]; exact laidMet_laidAll _ (by kernel_rfl) (by kernel_rfl))) row_laidOut (by kernel_rfl) rfl rfl row_bool ?_
  intro W base args ds p hval hA hwt hL hsh
  have hlen : ∃ d1 d2, ds = [d1, d2] := by
    have hA' : DataW.TrodAll enc Tryz.prog W 0 (fun _ => true) true [Tryz.f5.params[0]!, Tryz.f5.params[1]!] args.toList ds p := hA
    obtain ⟨v0, v1, e0, e1, p0, p1, _, h2, _⟩ := trodAll_two hA'
    exact ⟨e0, e1, h2⟩
  obtain ⟨d1, d2, rfl⟩ := hlen
  refine ⟨rfl, ?_⟩
  obtain ⟨vs⟩ := args
  obtain ⟨l1, l2⟩ := row_vars hL hsh
  exact law_of law21_UpdBuilds_fq updBuilds_ps (fun x hw hz => updBuilds_q x.1 x.2.1 (by
    have h1 : SzT [Kd.lst [Kd.int .u32, Kd.int .i64], Kd.lst [Kd.int .u32, Kd.int .i64], Kd.int .i64, Kd.lst [Kd.bool, Kd.lst [Kd.int .u32]], Kd.int .u32, Kd.bool, Kd.int .u32, Kd.bool, Kd.int .u32, Kd.bool, Kd.bool, Kd.int .u32, Kd.int .u32, Kd.lst [Kd.int .u32], Kd.lst [Kd.int .i64, Kd.lst [Kd.int .u8]], Kd.int .i64] x.1 := hz.1
    simp only [SzT, SzE] at h1
    refine ⟨fun s hs => ?_, fun y hy => ?_⟩
    · have h2 := (h1.2.2.2.1.2 s hs).2.1.1
      have h3 : s.2.length * 4 ≤ 140737488351232 := h2
      omega
    · have h2 := (h1.2.2.2.2.2.2.2.2.2.2.2.2.2.2.1.2 y hy).2.1.1
      have h3 : y.2.length * 1 ≤ 140737488351232 := h2
      omega)) (fun j t v h1 h2 => hval j t v (by simpa using h1) (by simpa using h2)) hA hwt l1 l2
theorem updBuilds_row : Rows.UpdBuildsSaid :=
  OpenClaim.holds_of_wide 5 Tryz.f5 rfl rfl rfl rfl rfl rfl rfl ⟨rfl, rfl, rfl, rfl, rfl⟩ rfl rfl rfl rfl rfl (by kernel_rfl) Tryz.func5 (by kernel_rfl)
    (of_decide_eq_true (by kernel_rfl)) (by unfold Func.isWrapper; first | (rw [if_pos (by decide +kernel)]; kernel_rfl) | (rw [if_neg (by decide +kernel)]; exact ⟨rfl, rfl⟩))
    (fun os started H enc _ => updBuilds_lifted os started H enc)
theorem updBuilds_holds : Rows.UpdBuildsCardSaid :=
  Claim7.holds_tied_plain_at .later [] [.data, .data, .data] true (true, "f0ece80c07ee29861796522814b1054ac4fbfeb9b924c81167a20fcdb9f14a78") true
    updBuilds_row (fun _ h => by cases h) (by kernel_rfl) (fun _ h => by cases h) updBuilds_row_tie rfl ⟨rfl, rfl⟩ (by kernel_rfl) rfl
    (fun f fn hf hfn => by
      obtain rfl : f = 5 := Option.some.inj ((show Tryz.prog.funcNamed "pointsman/pointsmanlaw21.UpdBuilds" = some 5 by kernel_rfl).symm.trans hf) |>.symm
      obtain rfl : fn = Tryz.f5 := (Option.some.inj (Tryz.func5.symm.trans hfn)).symm
      exact ⟨by kernel_rfl, no_standIn (by kernel_rfl)⟩)
    (by kernel_rfl)
#print axioms updBuilds_holds
end Go.Proofs.YtboagabgpcghcaaGreatDoor
