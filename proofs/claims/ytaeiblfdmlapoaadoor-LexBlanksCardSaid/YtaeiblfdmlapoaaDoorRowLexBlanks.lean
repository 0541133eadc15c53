/-
  'pointsmanlaw24.LexBlanks' returns true whatever the input, and the input reads as it did. Conditions: none beyond those of the given statement (the listed package-level variables are laid as the program's text lays them).
-/
import Derived.Test.YtaeiblfdmlapoaaDoorRowS
import Derived.Test.YtaeiblfdmlapoaaDoorLx6
set_option linter.unusedVariables false
namespace Go.Proofs.YtaeiblfdmlapoaaDoor
open Go.Sh Go.ChangeShapes Go.WideShapes Go.ChangeAt Go.RowKit

theorem lexBlanks_ps : pksL Tryd.prog Tryd.f5.params.toList = some law24_LexBlanks_ps := by kernel_rfl
set_option maxRecDepth 100000 in
theorem lexBlanks_lifted (os : Os) (started : os.Started) (H : Type) (enc : TypeId × Value → H) :
    ReturnsInHanded {} Tryd.checked os 5 .any (fun w args => (Rows.lexBlanksSpec.pre enc Tryd.prog Tryd.f5 Rows.lexBlanksRow.domain false w args ∧ laidMetH Tryd.prog laid7 w) ∧ sizedMet enc Tryd.prog Tryd.f5 (OpenSpec.ofChange Rows.lexBlanksSpec) false w args)
      (Rows.lexBlanksSpec.post enc Tryd.prog Tryd.f5 false true false false) := by
  refine lifted3 (C := Tryd.checked) (tb := T_bool) (laid := laid7) row_own started (by kernel_rfl) Tryd.func5
    (ChangeSpec.witness_shaped (enc := enc) (C := Tryd.checked) (os := os) (X := fun w _ => laidMetH Tryd.prog laid7 w) false (World.laidAll Tryd.prog os laid7) #[.string ⟨#[]⟩, .slice none 0 0] 12 (World.laidAll_os _ _ _)
      (World.shaped_of_ZipB (by kernel_rfl) (by kernel_rfl)) (by kernel_rfl) (by kernel_rfl) (by kernel_rfl)
      (by rw [MakeChecks.laidMetH_plain _ _ _ (by kernel_rfl)]; exact laidMet_laidAll _ (by kernel_rfl) (by kernel_rfl))) row_laidOut (by kernel_rfl) rfl rfl row_bool ?_
  intro W base args ds p hval hA hwt hL hsh
  have hlen : ∃ d1 d2, ds = [d1, d2] := by
    have hA' : DataW.TrodAll enc Tryd.prog W 0 (fun _ => true) true [Tryd.f5.params[0]!, Tryd.f5.params[1]!] args.toList ds p := hA
    obtain ⟨v0, v1, e0, e1, p0, p1, _, h2, _⟩ := trodAll_two hA'
    exact ⟨e0, e1, h2⟩
  obtain ⟨d1, d2, rfl⟩ := hlen
  refine ⟨rfl, ?_⟩
  obtain ⟨vs⟩ := args
  obtain ⟨l1, l2⟩ := row_vars hL hsh
  exact law_of law24_LexBlanks_fq lexBlanks_ps (fun x hw _ => lexBlanks_c x.1 x.2.1) (fun j t v h1 h2 => hval j t v (by simpa using h1) (by simpa using h2)) hA hwt l1 l2

theorem lexBlanks_row : Rows.LexBlanksSaid :=
  OpenClaim.holds_of_wide 5 Tryd.f5 rfl rfl rfl rfl rfl rfl rfl ⟨rfl, rfl, rfl, rfl, rfl⟩ rfl rfl rfl rfl rfl (by kernel_rfl) Tryd.func5 (by kernel_rfl)
    (of_decide_eq_true (by kernel_rfl)) (by unfold Func.isWrapper; first | (rw [if_pos (by decide +kernel)]; kernel_rfl) | (rw [if_neg (by decide +kernel)]; exact ⟨rfl, rfl⟩))
    (fun os started H enc _ => lexBlanks_lifted os started H enc)

theorem lexBlanks_holds : Rows.LexBlanksCardSaid :=
  Claim7.holds_tied_plain_at .later [] [.data, .data, .data, .data, .sentinel, .sentinel, .pinned] true (true, "75ae25f767f264bb9d4500e0df01c7acd977a8654bc6688937b67b48c1eee39b") true
    lexBlanks_row (fun _ h => by cases h) (by kernel_rfl) (fun _ h => by cases h) lexBlanks_row_tie rfl ⟨rfl, rfl⟩ (by kernel_rfl) rfl
    (fun f fn hf hfn => by
      obtain rfl : f = 5 := Option.some.inj ((show Tryd.prog.funcNamed "pointsman/pointsmanlaw24.LexBlanks" = some 5 by kernel_rfl).symm.trans hf) |>.symm
      obtain rfl : fn = Tryd.f5 := (Option.some.inj (Tryd.func5.symm.trans hfn)).symm
      exact ⟨by kernel_rfl, no_standIn (by kernel_rfl)⟩)
    (by kernel_rfl)

#print axioms lexBlanks_holds

end Go.Proofs.YtaeiblfdmlapoaaDoor
