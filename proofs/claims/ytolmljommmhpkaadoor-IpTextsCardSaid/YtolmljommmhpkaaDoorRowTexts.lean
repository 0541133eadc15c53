/-
  'pointsmanlaw07.IpTexts' returns true whatever the input, and the input reads as it did. Conditions: none beyond those of the given statement (the listed package-level variables are laid as the program's text lays them).
-/
import Derived.Test.YtolmljommmhpkaaDoorRow07t
set_option linter.unusedVariables false
namespace Go.Proofs.YtolmljommmhpkaaDoor
open Go.Sh Go.ChangeShapes Go.WideShapes Go.ChangeAt Go.RowKit

theorem wf_u32 {x : PkTs law07_IpTexts_ps} (h : WfPs law07_IpTexts_ps x) : @LE.le Int _ 0 x.1 ∧ @LE.le Int _ x.1 4294967295 := by
  simp only [WfPs, WfPk, InR, loI, hiI] at h
  exact h.1
theorem ipTexts_ps : pksL Tryd.prog Tryd.f9.params.toList = some law07_IpTexts_ps := by kernel_rfl
set_option maxRecDepth 100000 in
theorem ipTexts_lifted (os : Os) (started : os.Started) (H : Type) (enc : TypeId × Value → H) :
    ReturnsInHanded {} Tryd.checked os 9 .any (fun w args => (Rows.ipTextsSpec.pre enc Tryd.prog Tryd.f9 Rows.ipTextsRow.domain false w args ∧ laidMetH Tryd.prog laid7 w) ∧ sizedMet enc Tryd.prog Tryd.f9 (OpenSpec.ofChange Rows.ipTextsSpec) false w args)
      (Rows.ipTextsSpec.post enc Tryd.prog Tryd.f9 false true false false) := by
  refine lifted3 (C := Tryd.checked) (tb := T_bool) (laid := laid7) row_own started (by kernel_rfl) Tryd.func9
    (ChangeSpec.witness_shaped (enc := enc) (C := Tryd.checked) (os := os) (X := fun w _ => laidMetH Tryd.prog laid7 w) false (World.laidAll Tryd.prog os laid7) #[.int .u32 0, .int .u32 0, .string ⟨#[]⟩] 12 (World.laidAll_os _ _ _)
      (World.shaped_of_ZipB (by kernel_rfl) (by kernel_rfl)) (by kernel_rfl) (by kernel_rfl) (by kernel_rfl)
      (by rw [MakeChecks.laidMetH_plain _ _ _ (by kernel_rfl)]; exact laidMet_laidAll _ (by kernel_rfl) (by kernel_rfl))) row_laidOut (by kernel_rfl) rfl rfl row_bool ?_
  intro W base args ds p hval hA hwt hL hsh
  have hlen : ∃ d1 d2 d3, ds = [d1, d2, d3] := by
    have hA' : DataW.TrodAll enc Tryd.prog W 0 (fun _ => true) true [Tryd.f9.params[0]!, Tryd.f9.params[1]!, Tryd.f9.params[2]!] args.toList ds p := hA
    obtain ⟨v0, v1, v2, e0, e1, e2, p0, p1, p2, _, h2, _⟩ := trodAll_three hA'
    exact ⟨e0, e1, e2, h2⟩
  obtain ⟨d1, d2, d3, rfl⟩ := hlen
  refine ⟨rfl, ?_⟩
  obtain ⟨vs⟩ := args
  obtain ⟨l1, l2⟩ := row_vars hL hsh
  exact law_of law07_IpTexts_fq ipTexts_ps (fun x hw _ => ipTexts_c x.1 x.2.1 x.2.2.1 (wf_u32 hw)) (fun j t v h1 h2 => hval j t v (by simpa using h1) (by simpa using h2)) hA hwt l1 l2

theorem ipTexts_row : Rows.IpTextsSaid :=
  OpenClaim.holds_of_wide 9 Tryd.f9 rfl rfl rfl rfl rfl rfl rfl ⟨rfl, rfl, rfl, rfl, rfl⟩ rfl rfl rfl rfl rfl (by kernel_rfl) Tryd.func9 (by kernel_rfl)
    (of_decide_eq_true (by kernel_rfl)) (by unfold Func.isWrapper; first | (rw [if_pos (by decide +kernel)]; kernel_rfl) | (rw [if_neg (by decide +kernel)]; exact ⟨rfl, rfl⟩))
    (fun os started H enc _ => ipTexts_lifted os started H enc)

theorem ipTexts_holds : Rows.IpTextsCardSaid :=
  Claim7.holds_tied_plain_at .later [] [.data, .data, .data, .data, .sentinel, .sentinel, .pinned] true (true, "2dba4e975ebc66f6eb22ed5400c522c0fee9ecf7bd67302a355eebf2da63ca75") true
    ipTexts_row (fun _ h => by cases h) (by kernel_rfl) (fun _ h => by cases h) ipTexts_row_tie rfl ⟨rfl, rfl⟩ (by kernel_rfl) rfl
    (fun f fn hf hfn => by
      obtain rfl : f = 9 := Option.some.inj ((show Tryd.prog.funcNamed "pointsman/pointsmanlaw07.IpTexts" = some 9 by kernel_rfl).symm.trans hf) |>.symm
      obtain rfl : fn = Tryd.f9 := (Option.some.inj (Tryd.func9.symm.trans hfn)).symm
      exact ⟨by kernel_rfl, no_standIn (by kernel_rfl)⟩)
    (by kernel_rfl)

#print axioms ipTexts_holds

end Go.Proofs.YtolmljommmhpkaaDoor
