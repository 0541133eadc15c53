/-
  'pointsmanlaw07.IpCuts' returns true whatever the input, and the input reads as it did. Conditions: none beyond those of the given statement (the listed package-level variables are laid as the program's text lays them).
-/
import Derived.Test.YtolmljommmhpkaaDoorRow07
import Derived.Test.YtolmljommmhpkaaDoorIp5
set_option linter.unusedVariables false
namespace Go.Proofs.YtolmljommmhpkaaDoor
open Go.Sh Go.ChangeShapes Go.WideShapes Go.ChangeAt Go.RowKit

theorem wf_i64 {x : PkTs law07_IpCuts_ps} (h : WfPs law07_IpCuts_ps x) : @LE.le Int _ x.2.1 9223372036854775807 := by
  simp only [WfPs, WfPk, InR, loI, hiI] at h
  exact h.2.1.2
theorem ipCuts_ps : pksL Tryd.prog Tryd.f7.params.toList = some law07_IpCuts_ps := by kernel_rfl
set_option maxRecDepth 100000 in
theorem ipCuts_lifted (os : Os) (started : os.Started) (H : Type) (enc : TypeId × Value → H) :
    ReturnsInHanded {} Tryd.checked os 7 .any (fun w args => (Rows.ipCutsSpec.pre enc Tryd.prog Tryd.f7 Rows.ipCutsRow.domain false w args ∧ laidMetH Tryd.prog laid3 w) ∧ sizedMet enc Tryd.prog Tryd.f7 (OpenSpec.ofChange Rows.ipCutsSpec) false w args)
      (Rows.ipCutsSpec.post enc Tryd.prog Tryd.f7 false true false false) := by
  refine lifted3 (C := Tryd.checked) (tb := T_bool) (laid := laid3) row_own started (by kernel_rfl) Tryd.func7
    (ChangeSpec.witness_shaped (enc := enc) (C := Tryd.checked) (os := os) (X := fun w _ => laidMetH Tryd.prog laid3 w) false (World.laidAll Tryd.prog os laid3) #[.agg #[.int .i64 0, .int .i64 0, .int .i64 0, .int .i64 0, .bool false, .bool false, .int .u32 0, .int .u32 0, .slice none 0 0], .int .i64 0] 12 (World.laidAll_os _ _ _)
      (World.shaped_of_ZipB (by kernel_rfl) (by kernel_rfl)) (by kernel_rfl) (by kernel_rfl) (by kernel_rfl)
      (by rw [MakeChecks.laidMetH_plain _ _ _ (by kernel_rfl)]; exact laidMet_laidAll _ (by kernel_rfl) (by kernel_rfl))) row_laidOut (by kernel_rfl) rfl rfl row_bool ?_
  intro W base args ds p hval hA hwt hL _
  have hlen : ∃ d1 d2, ds = [d1, d2] := by
    have hA' : DataW.TrodAll enc Tryd.prog W 0 (fun _ => true) true [Tryd.f7.params[0]!, Tryd.f7.params[1]!] args.toList ds p := hA
    obtain ⟨v0, v1, e0, e1, p0, p1, _, h2, _⟩ := trodAll_two hA'
    exact ⟨e0, e1, h2⟩
  obtain ⟨d1, d2, rfl⟩ := hlen
  refine ⟨rfl, ?_⟩
  obtain ⟨vs⟩ := args
  obtain ⟨l1, l2⟩ := row_pow hL
  exact law_of law07_IpCuts_fq ipCuts_ps (fun x hw _ => ipCuts_c x.1 x.2.1 (wf_i64 hw)) (fun j t v h1 h2 => hval j t v (by simpa using h1) (by simpa using h2)) hA hwt l1 l2

theorem ipCuts_row : Rows.IpCutsSaid :=
  OpenClaim.holds_of_wide 7 Tryd.f7 rfl rfl rfl rfl rfl rfl rfl ⟨rfl, rfl, rfl, rfl, rfl⟩ rfl rfl rfl rfl rfl (by kernel_rfl) Tryd.func7 (by kernel_rfl)
    (of_decide_eq_true (by kernel_rfl)) (by unfold Func.isWrapper; first | (rw [if_pos (by decide +kernel)]; kernel_rfl) | (rw [if_neg (by decide +kernel)]; exact ⟨rfl, rfl⟩))
    (fun os started H enc _ => ipCuts_lifted os started H enc)

theorem ipCuts_holds : Rows.IpCutsCardSaid :=
  Claim7.holds_tied_plain_at .later [] [.data, .data, .data] true (true, "2dba4e975ebc66f6eb22ed5400c522c0fee9ecf7bd67302a355eebf2da63ca75") true
    ipCuts_row (fun _ h => by cases h) (by kernel_rfl) (fun _ h => by cases h) ipCuts_row_tie rfl ⟨rfl, rfl⟩ (by kernel_rfl) rfl
    (fun f fn hf hfn => by
      obtain rfl : f = 7 := Option.some.inj ((show Tryd.prog.funcNamed "pointsman/pointsmanlaw07.IpCuts" = some 7 by kernel_rfl).symm.trans hf) |>.symm
      obtain rfl : fn = Tryd.f7 := (Option.some.inj (Tryd.func7.symm.trans hfn)).symm
      exact ⟨by kernel_rfl, no_standIn (by kernel_rfl)⟩)
    (by kernel_rfl)

#print axioms ipCuts_holds

end Go.Proofs.YtolmljommmhpkaaDoor
