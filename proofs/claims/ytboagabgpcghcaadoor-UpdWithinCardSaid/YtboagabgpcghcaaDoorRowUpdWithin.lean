/-
  'pointsmanlaw21.UpdWithin' returns true whatever the input, and the input reads as it did. Conditions: none beyond those of the given statement (the listed package-level variables are laid as the program's text lays them).
-/
import Derived.Test.YtboagabgpcghcaaDoorRowL3
import Derived.Test.YtboagabgpcghcaaDoorLaw21w
set_option linter.unusedVariables false
namespace Go.Proofs.YtboagabgpcghcaaDoor
open Go.Sh Go.ChangeShapes Go.WideShapes Go.ChangeAt Go.RowKit
theorem updWithin_ps : pksL Tryd.prog Tryd.f4.params.toList = some law21_UpdWithin_ps := by kernel_rfl
set_option maxRecDepth 100000 in
theorem updWithin_lifted (os : Os) (started : os.Started) (H : Type) (enc : TypeId × Value → H) :
    ReturnsInHanded {} Tryd.checked os 4 .any (fun w args => (Rows.updWithinSpec.pre enc Tryd.prog Tryd.f4 Rows.updWithinRow.domain false w args ∧ laidMetH Tryd.prog laid7 w) ∧ sizedMet enc Tryd.prog Tryd.f4 (OpenSpec.ofChange Rows.updWithinSpec) false w args)
      (Rows.updWithinSpec.post enc Tryd.prog Tryd.f4 false true false false) := by
  refine lifted3 (C := Tryd.checked) (tb := T_bool) (laid := laid7) row_own started (by kernel_rfl) Tryd.func4
    (ChangeSpec.witness_shaped (enc := enc) (C := Tryd.checked) (os := os) (X := fun w _ => laidMetH Tryd.prog laid7 w) false (World.laidAll Tryd.prog os laid7) #[.agg #[.int .u32 0, .int .i64 0], .agg #[.int .u32 0, .int .i64 0], .int .u32 0] 12 (World.laidAll_os _ _ _)
      (World.shaped_of_ZipB (by kernel_rfl) (by kernel_rfl)) (by kernel_rfl) (by kernel_rfl) (by kernel_rfl)
      (by rw [MakeChecks.laidMetH_plain _ _ _ (by kernel_rfl)]; exact laidMet_laidAll _ (by kernel_rfl) (by kernel_rfl))) row_laidOut (by kernel_rfl) rfl rfl row_bool ?_
  intro W base args ds p hval hA hwt hL hsh
  have hlen : ∃ d1 d2 d3, ds = [d1, d2, d3] := by
    have hA' : DataW.TrodAll enc Tryd.prog W 0 (fun _ => true) true [Tryd.f4.params[0]!, Tryd.f4.params[1]!, Tryd.f4.params[2]!] args.toList ds p := hA
    obtain ⟨v0, v1, v2, e0, e1, e2, p0, p1, p2, _, h2, _⟩ := trodAll_three hA'
    exact ⟨e0, e1, e2, h2⟩
  obtain ⟨d1, d2, d3, rfl⟩ := hlen
  refine ⟨rfl, ?_⟩
  obtain ⟨vs⟩ := args
  obtain ⟨l1, l2⟩ := row_vars hL hsh
  exact law_of law21_UpdWithin_fq updWithin_ps (fun x hw hz => updWithin_q x.1 x.2.1 x.2.2.1 (by have h : InR .u32 x.2.2.1 := hw.2.2.1; simp only [InR, loI, hiI] at h; omega)) (fun j t v h1 h2 => hval j t v (by simpa using h1) (by simpa using h2)) hA hwt l1 l2
theorem updWithin_row : Rows.UpdWithinSaid :=
  OpenClaim.holds_of_wide 4 Tryd.f4 rfl rfl rfl rfl rfl rfl rfl ⟨rfl, rfl, rfl, rfl, rfl⟩ rfl rfl rfl rfl rfl (by kernel_rfl) Tryd.func4 (by kernel_rfl)
    (of_decide_eq_true (by kernel_rfl)) (by unfold Func.isWrapper; first | (rw [if_pos (by decide +kernel)]; kernel_rfl) | (rw [if_neg (by decide +kernel)]; exact ⟨rfl, rfl⟩))
    (fun os started H enc _ => updWithin_lifted os started H enc)
theorem updWithin_holds : Rows.UpdWithinCardSaid :=
  Claim7.holds_tied_plain_at .later [] [.data, .data, .data] true (true, "9cedd944a915faf5ba4dd978eb604c2a333f3060e05f9e88dae99e026211bad4") false
    updWithin_row (fun _ h => by cases h) (by kernel_rfl) (fun _ h => by cases h) updWithin_row_tie rfl ⟨rfl, rfl⟩ (by kernel_rfl) rfl
    (fun f fn hf hfn => by
      obtain rfl : f = 4 := Option.some.inj ((show Tryd.prog.funcNamed "pointsman/pointsmanlaw21.UpdWithin" = some 4 by kernel_rfl).symm.trans hf) |>.symm
      obtain rfl : fn = Tryd.f4 := (Option.some.inj (Tryd.func4.symm.trans hfn)).symm
      exact ⟨by kernel_rfl, no_standIn (by kernel_rfl)⟩)
    (by kernel_rfl)
#print axioms updWithin_holds
end Go.Proofs.YtboagabgpcghcaaDoor
