/-
  What the rows of this seat share: the listed variables, the table that is read.
  'pointsmanlaw21.UpdSafe' returns true whatever the input, and the input reads as it did. Conditions: none beyond those of the given statement (the listed package-level variables are laid as the program's text lays them).
-/
import Derived.Test.YtboagabgpcghcaaDoorQ
import Derived.Test.YtboagabgpcghcaaDoorTie
import Derived.Test.YtboagabgpcghcaaDoorCards
import Derived.LaidMore
import Derived.Lay
import Derived.SevenTiedAt
import Derived.Test.YtboagabgpcghcaaDoorP21s
set_option linter.all false
section
namespace Go.Proofs.YtboagabgpcghcaaDoor
open Go.Sh Go.ChangeShapes Go.WideShapes Go.ChangeAt Go.RowKit
def laid7 : List (String × DataW Unit) := [("math/bits.deBruijn32tab", Rows.laid_math_bits_deBruijn32tab), ("math/bits.deBruijn64tab", Rows.laid_math_bits_deBruijn64tab), ("internal/strconv.uint64pow10", Rows.laid_internal_strconv_uint64pow10)]
theorem row_own : ownKnob Tryd.prog.godebug = none := by kernel_rfl
theorem row_laidOut : laidOutB Tryd.prog = true := by kernel_rfl
theorem row_bool : Tryd.prog.underlying T_bool = some .bool := by kernel_rfl
theorem row_vars {W : World} (h : laidMetH Tryd.prog laid7 W) (hsh : W.ShapedOpen Tryd.prog) : (∀ b, Laid.blocks b = true -> hp W b ≠ none) ∧ Laid.ok (layH (hp W)) := by
  rw [MakeChecks.laidMetH_plain _ _ _ (by kernel_rfl)] at h
  have h3 : laidMet Tryd.prog [("internal/strconv.uint64pow10", Lib.tabData .u64 Lib.pow10Tab)] W := (laidMet.tail (laidMet.tail h)); have ht := Lib.tabIs_of_head (g := g_internal_strconv_uint64pow10) (t := T_a20_uint64) (e := T_uint64) (n := 20) (by kernel_rfl) (by kernel_rfl) (by kernel_rfl) (by kernel_rfl) (by kernel_rfl) (by kernel_rfl) h3
  unfold Lib.TabIs World.var? at ht; rw [pow_named, Option.bind_some] at ht; have hg : ∃ T fr, W.heap[g_internal_strconv_uint64pow10]? = some (.cells powCells T fr) := by split at ht; rename_i cs T fr hh; cases ht; exact ⟨T, fr, hh⟩; cases ht
  obtain ⟨T, fr, hg⟩ := hg; have e : hp W g_internal_strconv_uint64pow10 = some (.cells powCells T fr) := hg; refine ⟨fun b hb => ?_, T, fr, e⟩; obtain rfl : b = g_internal_strconv_uint64pow10 := Nat.eq_of_beq_eq_true hb; rw [e]; exact fun h => by cases h
theorem no_standIn {fn : Func} (h : (fn.params.toList.all fun t => !Tryd.prog.wantsStandIn t) = true) (j : Nat) (t : TypeId) (ht : fn.params[j]? = some t) : Tryd.prog.wantsStandIn t = false := by
  have hm : t ∈ fn.params.toList := List.mem_of_getElem? (i := j) (by rw [Array.getElem?_toList]; exact ht)
  have := List.all_eq_true.1 h t hm; simpa using this
end Go.Proofs.YtboagabgpcghcaaDoor
end
section
namespace Go.Proofs.YtboagabgpcghcaaDoor
open Go.Sh Go.ChangeShapes Go.WideShapes Go.ChangeAt Go.RowKit
theorem updSafe_ps : pksL Tryd.prog Tryd.f3.params.toList = some zz37_ps := by kernel_rfl
set_option maxRecDepth 100000 in
theorem updSafe_lifted (os : Os) (started : os.Started) (H : Type) (enc : TypeId × Value -> H) :
    ReturnsInHanded {} Tryd.checked os 3 .any (fun w args => (Rows.updSafeSpec.pre enc Tryd.prog Tryd.f3 Rows.updSafeRow.domain false w args ∧ laidMetH Tryd.prog laid7 w) ∧ sizedMet enc Tryd.prog Tryd.f3 (OpenSpec.ofChange Rows.updSafeSpec) false w args)
      (Rows.updSafeSpec.post enc Tryd.prog Tryd.f3 false true false false) := by
  refine lifted3 (C := Tryd.checked) (tb := T_bool) (laid := laid7) row_own started (by kernel_rfl) Tryd.func3
    (ChangeSpec.witness_shaped (enc := enc) (C := Tryd.checked) (os := os) (X := fun w _ => laidMetH Tryd.prog laid7 w) false (World.laidAll Tryd.prog os laid7) #[.slice none 0 0, .bool false, .bool false] 12 (World.laidAll_os _ _ _)
      (World.shaped_of_ZipB (by kernel_rfl) (by kernel_rfl)) (by kernel_rfl) (by kernel_rfl) (by kernel_rfl)
      (by rw [MakeChecks.laidMetH_plain _ _ _ (by kernel_rfl)]; exact laidMet_laidAll _ (by kernel_rfl) (by kernel_rfl))) row_laidOut (by kernel_rfl) rfl rfl row_bool ?_
  intro W base args ds p hval hA hwt hL hsh; have hlen : ∃ d1 d2 d3, ds = [d1, d2, d3] := by have hA' : DataW.TrodAll enc Tryd.prog W 0 (fun _ => true) true [Tryd.f3.params[0]!, Tryd.f3.params[1]!, Tryd.f3.params[2]!] args.toList ds p := hA; obtain ⟨v0, v1, v2, e0, e1, e2, p0, p1, p2, _, h2, _⟩ := trodAll_three hA'; exact ⟨e0, e1, e2, h2⟩
  obtain ⟨d1, d2, d3, rfl⟩ := hlen; refine ⟨rfl, ?_⟩; obtain ⟨vs⟩ := args; obtain ⟨l1, l2⟩ := row_vars hL hsh; exact law_of zz37_fq updSafe_ps (fun x hw hz => updSafe_q x.1 x.2.1 x.2.2.1) (fun j t v h1 h2 => hval j t v (by simpa using h1) (by simpa using h2)) hA hwt l1 l2
theorem updSafe_row : Rows.UpdSafeSaid :=
  OpenClaim.holds_of_wide 3 Tryd.f3 rfl rfl rfl rfl rfl rfl rfl ⟨rfl, rfl, rfl, rfl, rfl⟩ rfl rfl rfl rfl rfl (by kernel_rfl) Tryd.func3 (by kernel_rfl)
    (of_decide_eq_true (by kernel_rfl)) (by unfold Func.isWrapper; first | (rw [if_pos (by decide +kernel)]; kernel_rfl) | (rw [if_neg (by decide +kernel)]; exact ⟨rfl, rfl⟩))
    (fun os started H enc _ => updSafe_lifted os started H enc)
theorem updSafe_holds : Rows.UpdSafeCardSaid :=
  Claim7.holds_tied_plain_at .later [] [.data, .data, .data] true (true, "9cedd944a915faf5ba4dd978eb604c2a333f3060e05f9e88dae99e026211bad4") false
    updSafe_row (fun _ h => by cases h) (by kernel_rfl) (fun _ h => by cases h) updSafe_row_tie rfl ⟨rfl, rfl⟩ (by kernel_rfl) rfl
    (fun f fn hf hfn => by
      obtain rfl : f = 3 := Option.some.inj ((show Tryd.prog.funcNamed "pointsman/pointsmanlaw21.UpdSafe" = some 3 by kernel_rfl).symm.trans hf) |>.symm
      obtain rfl : fn = Tryd.f3 := (Option.some.inj (Tryd.func3.symm.trans hfn)).symm; exact ⟨by kernel_rfl, no_standIn (by kernel_rfl)⟩)
    (by kernel_rfl)
#print axioms updSafe_holds
end Go.Proofs.YtboagabgpcghcaaDoor
end
