/-
  'pointsmanlaw21.UpdTells' returns true whatever the input, and the input reads as it did. Conditions: none beyond those of the given statement (the listed package-level variables are laid as the program's text lays them).
-/
import Derived.Test.YtboagabgpcghcaaGreatDoorRowS
import Derived.Test.YtboagabgpcghcaaGreatDoorP21
set_option linter.unusedVariables false
namespace Go.Proofs.YtboagabgpcghcaaGreatDoor
open Go.Sh Go.ChangeShapes Go.WideShapes Go.ChangeAt Go.RowKit
theorem updTells_ps : pksL Tryz.prog Tryz.f6.params.toList = some law21_UpdTells_ps := by kernel_rfl
set_option maxRecDepth 100000 in
theorem updTells_lifted (os : Os) (started : os.Started) (H : Type) (enc : TypeId × Value → H) :
    ReturnsInHanded {} Tryz.checked os 6 .any (fun w args => (Rows.updTellsSpec.pre enc Tryz.prog Tryz.f6 Rows.updTellsRow.domain false w args ∧ laidMetH Tryz.prog laid7 w) ∧ sizedMet enc Tryz.prog Tryz.f6 (OpenSpec.ofChange Rows.updTellsSpec) false w args)
      (Rows.updTellsSpec.post enc Tryz.prog Tryz.f6 false true false false) := by
  refine lifted3 (C := Tryz.checked) (tb := T_bool) (laid := laid7) row_own started (by kernel_rfl) Tryz.func6
    (ChangeSpec.witness_shaped (enc := enc) (C := Tryz.checked) (os := os) (X := fun w _ => laidMetH Tryz.prog laid7 w) false (World.laidAll Tryz.prog os laid7) #[.agg #[.int .u32 0, .int .i64 0], .agg #[.int .u32 0, .int .i64 0], .string ⟨#[]⟩] 12 (World.laidAll_os _ _ _)
      (World.shaped_of_ZipB (by kernel_rfl) (by kernel_rfl)) (by kernel_rfl) (by kernel_rfl) (by kernel_rfl)
      (by rw [MakeChecks.laidMetH_plain _ _ _ (by kernel_rfl)]; exact laidMet_laidAll _ (by kernel_rfl) (by kernel_rfl))) row_laidOut (by kernel_rfl) rfl rfl row_bool ?_
  intro W base args ds p hval hA hwt hL hsh
  have hlen : ∃ d1 d2 d3, ds = [d1, d2, d3] := by
    have hA' : DataW.TrodAll enc Tryz.prog W 0 (fun _ => true) true [Tryz.f6.params[0]!, Tryz.f6.params[1]!, Tryz.f6.params[2]!] args.toList ds p := hA
    obtain ⟨v0, v1, v2, e0, e1, e2, p0, p1, p2, _, h2, _⟩ := trodAll_three hA'
    exact ⟨e0, e1, e2, h2⟩
  obtain ⟨d1, d2, d3, rfl⟩ := hlen
  refine ⟨rfl, ?_⟩
  obtain ⟨vs⟩ := args
  obtain ⟨l1, l2⟩ := row_vars hL hsh
  exact law_of law21_UpdTells_fq updTells_ps (fun x hw hz => updTells_q x.1 x.2.1 x.2.2.1 (by have h : x.2.2.1.length ≤ lenMax := hw.2.2.1; unfold lenMax at h; exact h)) (fun j t v h1 h2 => hval j t v (by simpa using h1) (by simpa using h2)) hA hwt l1 l2
theorem updTells_row : Rows.UpdTellsSaid :=
  OpenClaim.holds_of_wide 6 Tryz.f6 rfl rfl rfl rfl rfl rfl rfl ⟨rfl, rfl, rfl, rfl, rfl⟩ rfl rfl rfl rfl rfl (by kernel_rfl) Tryz.func6 (by kernel_rfl)
    (of_decide_eq_true (by kernel_rfl)) (by unfold Func.isWrapper; first | (rw [if_pos (by decide +kernel)]; kernel_rfl) | (rw [if_neg (by decide +kernel)]; exact ⟨rfl, rfl⟩))
    (fun os started H enc _ => updTells_lifted os started H enc)
theorem updTells_holds : Rows.UpdTellsCardSaid :=
  Claim7.holds_tied_plain_at .later [] [.data, .data, .data, .data, .sentinel, .sentinel, .pinned] true (true, "f0ece80c07ee29861796522814b1054ac4fbfeb9b924c81167a20fcdb9f14a78") true
    updTells_row (fun _ h => by cases h) (by kernel_rfl) (fun _ h => by cases h) updTells_row_tie rfl ⟨rfl, rfl⟩ (by kernel_rfl) rfl
    (fun f fn hf hfn => by
      obtain rfl : f = 6 := Option.some.inj ((show Tryz.prog.funcNamed "pointsman/pointsmanlaw21.UpdTells" = some 6 by kernel_rfl).symm.trans hf) |>.symm
      obtain rfl : fn = Tryz.f6 := (Option.some.inj (Tryz.func6.symm.trans hfn)).symm
      exact ⟨by kernel_rfl, no_standIn (by kernel_rfl)⟩)
    (by kernel_rfl)
#print axioms updTells_holds
end Go.Proofs.YtboagabgpcghcaaGreatDoor
