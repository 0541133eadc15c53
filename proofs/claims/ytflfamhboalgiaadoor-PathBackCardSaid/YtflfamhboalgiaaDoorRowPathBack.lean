/-
  'pointsmanlaw19.PathBack' returns true whatever the input, and the input reads as it did. Conditions: none beyond those of the given statement (the listed package-level variables are laid as the program's text lays them).
-/
import Derived.Test.YtflfamhboalgiaaDoorRowS
import Derived.Test.YtflfamhboalgiaaDoorPf
set_option linter.all false
namespace Go.Proofs.YtflfamhboalgiaaDoor
open Go.Sh Go.ChangeShapes Go.WideShapes Go.ChangeAt Go.RowKit
theorem Zcbi : pksL Tryd.prog Tryd.f6.params.toList = some Zbet := by kernel_rfl
set_option maxRecDepth 100000 in
theorem Zcsb (os : Os) (started : os.Started) (H : Type) (enc : TypeId × Value -> H) :
    ReturnsInHanded {} Tryd.checked os 6 .any (fun w args => (Rows.pathBackSpec.pre enc Tryd.prog Tryd.f6 Rows.pathBackRow.domain false w args ∧ laidMetH Tryd.prog Zda w) ∧ sizedMet enc Tryd.prog Tryd.f6 (OpenSpec.ofChange Rows.pathBackSpec) false w args)
      (Rows.pathBackSpec.post enc Tryd.prog Tryd.f6 false true false false) := by
  refine Zqi (C := Tryd.checked) (tb := Zeu) (laid := Zda) Zrw started (by kernel_rfl) Tryd.func6
    (ChangeSpec.witness_shaped (enc := enc) (C := Tryd.checked) (os := os) (X := fun w _ => laidMetH Tryd.prog Zda w) false (World.laidAll Tryd.prog os Zda) #[.slice none 0 0, .slice none 0 0, .bool false] 12 (World.laidAll_os _ _ _)
      (World.shaped_of_ZipB (by kernel_rfl) (by kernel_rfl)) (by kernel_rfl) (by kernel_rfl) (by kernel_rfl)
      (by rw [MakeChecks.laidMetH_plain _ _ _ (by kernel_rfl)]; exact laidMet_laidAll _ (by kernel_rfl) (by kernel_rfl))) Zrh (by kernel_rfl) rfl rfl Zsp ?_
  intro W base args ds p hval hA hwt hL hsh; have hlen : ∃ d1 d2 d3, ds = [d1, d2, d3] := by have hA' : DataW.TrodAll enc Tryd.prog W 0 (fun _ => true) true [Tryd.f6.params[0]!, Tryd.f6.params[1]!, Tryd.f6.params[2]!] args.toList ds p := hA; obtain ⟨v0, v1, v2, e0, e1, e2, p0, p1, p2, _, h2, _⟩ := trodAll_three hA'; exact ⟨e0, e1, e2, h2⟩
  obtain ⟨d1, d2, d3, rfl⟩ := hlen; refine ⟨rfl, ?_⟩; obtain ⟨vs⟩ := args; obtain ⟨l1, l2⟩ := Zru hL hsh; exact Zqc Zcie Zcbi (fun x hw hz => Zcjt x.1 x.2.1 x.2.2.1 _ rfl) (fun j t v h1 h2 => hval j t v (by simpa using h1) (by simpa using h2)) hA hwt l1 l2
theorem Zcpr : Rows.PathBackSaid :=
  OpenClaim.holds_of_wide 6 Tryd.f6 rfl rfl rfl rfl rfl rfl rfl ⟨rfl, rfl, rfl, rfl, rfl⟩ rfl rfl rfl rfl rfl (by kernel_rfl) Tryd.func6 (by kernel_rfl)
    (of_decide_eq_true (by kernel_rfl)) (by unfold Func.isWrapper; first | (rw [if_pos (by decide +kernel)]; kernel_rfl) | (rw [if_neg (by decide +kernel)]; exact ⟨rfl, rfl⟩))
    (fun os started H enc _ => Zcsb os started H enc)
theorem pathBack_holds : Rows.PathBackCardSaid :=
  Claim7.holds_tied_plain_at .later [] [.data, .data, .data, .data, .sentinel, .sentinel, .pinned] true (true, "71d9d7bdeb485920dec708a9a0160a37d5814aad6ee517566498e851d6eb2bf6") true
    Zcpr (fun _ h => by cases h) (by kernel_rfl) (fun _ h => by cases h) pathBack_row_tie rfl ⟨rfl, rfl⟩ (by kernel_rfl) rfl
    (fun f fn hf hfn => by
      obtain rfl : f = 6 := Option.some.inj ((show Tryd.prog.funcNamed "pointsman/pointsmanlaw19.PathBack" = some 6 by kernel_rfl).symm.trans hf) |>.symm
      obtain rfl : fn = Tryd.f6 := (Option.some.inj (Tryd.func6.symm.trans hfn)).symm; exact ⟨by kernel_rfl, Zqj (by kernel_rfl)⟩)
    (by kernel_rfl)
#print axioms pathBack_holds
end Go.Proofs.YtflfamhboalgiaaDoor
