/-
  'pointsmanlaw25.GramDeep' returns true whatever the input, and the input reads as it did. Conditions: none beyond those of the given statement (the listed package-level variables are laid as the program's text lays them).
-/
import Derived.Test.YtgdkeeiikkiolaaGreatDoorGdRun0
import Derived.Test.YtgdkeeiikkiolaaGreatDoorGdRun1
import Derived.Test.YtgdkeeiikkiolaaGreatDoorGdRun2
import Derived.Test.YtgdkeeiikkiolaaGreatDoorGdRun3
import Derived.Test.YtgdkeeiikkiolaaGreatDoorGdRun4
import Derived.Test.YtgdkeeiikkiolaaGreatDoorGdRun5
import Derived.Test.YtgdkeeiikkiolaaGreatDoorGdRun6
import Derived.Test.YtgdkeeiikkiolaaGreatDoorGdRun7
import Derived.Test.YtgdkeeiikkiolaaGreatDoorAm
import Derived.Test.YtgdkeeiikkiolaaGreatDoorEv10
import Derived.Test.YtgdkeeiikkiolaaGreatDoorLift3
import Derived.Test.YtgdkeeiikkiolaaGreatDoorTie
import Derived.Test.YtgdkeeiikkiolaaGreatDoorCards
import Derived.LaidMore
import Derived.Lay
import Derived.SevenTiedAt
import Derived.Stop.LaidErr
set_option linter.all false
set_option maxRecDepth 100000
namespace Go.Proofs.YtgdkeeiikkiolaaGreatDoor
open Go.Sh Go.Ev Go.ChangeShapes Go.WideShapes Go.ChangeAt Go.RowKit

def laid7 : List (String × DataW Unit) := [("math/bits.deBruijn32tab", Rows.laid_math_bits_deBruijn32tab), ("math/bits.deBruijn64tab", Rows.laid_math_bits_deBruijn64tab), ("internal/strconv.uint64pow10", Rows.laid_internal_strconv_uint64pow10), ("unicode/utf8.acceptRanges", Rows.laid_unicode_utf8_acceptRanges), ("strconv.ErrRange", Rows.laid_strconv_ErrRange), ("strconv.ErrSyntax", Rows.laid_strconv_ErrSyntax), ("unicode/utf8.first", Rows.laid_unicode_utf8_first)]
theorem row_own : ownKnob Tryz.prog.godebug = none := by kernel_rfl
theorem row_laidOut : laidOutB Tryz.prog = true := by kernel_rfl
theorem row_int : Tryz.prog.underlying T_int = some (.int .i64) := by kernel_rfl
theorem row_bool : Tryz.prog.underlying T_bool = some .bool := by kernel_rfl
theorem row_pow {W : World} (h : laidMetH Tryz.prog laid7 W) : PowOk (hp W) := by
  rw [MakeChecks.laidMetH_plain _ _ _ (by kernel_rfl)] at h
  have h3 : laidMet Tryz.prog (("internal/strconv.uint64pow10", Lib.tabData .u64 Lib.pow10Tab) :: [("unicode/utf8.acceptRanges", Rows.laid_unicode_utf8_acceptRanges), ("strconv.ErrRange", Rows.laid_strconv_ErrRange), ("strconv.ErrSyntax", Rows.laid_strconv_ErrSyntax), ("unicode/utf8.first", Rows.laid_unicode_utf8_first)]) W := (laidMet.tail (laidMet.tail h))
  have ht := Lib.tabIs_of_head (g := g_internal_strconv_uint64pow10) (t := T_a20_uint64) (e := T_uint64) (n := 20) (by kernel_rfl) (by kernel_rfl) (by kernel_rfl) (by kernel_rfl) (by kernel_rfl) (by kernel_rfl) h3
  unfold Lib.TabIs World.var? at ht
  rw [pow_named, Option.bind_some] at ht
  split at ht
  · rename_i cs T fr hh
    cases ht
    exact ⟨T, fr, hh⟩
  · cases ht
theorem no_standIn {fn : Func} (h : (fn.params.toList.all fun t => !Tryz.prog.wantsStandIn t) = true) (j : Nat) (t : TypeId) (ht : fn.params[j]? = some t) : Tryz.prog.wantsStandIn t = false := by
  have hm : t ∈ fn.params.toList := List.mem_of_getElem? (i := j) (by rw [Array.getElem?_toList]; exact ht)
  have := List.all_eq_true.1 h t hm
  simpa using this

theorem works_fw {H : Heap} (hg : PowOk H) : FnW Tryz.prog f_law25_works ⟨[]⟩ H fun v H' => v = .bool true ∧ Keep Nil H H' := by
  letI : Sym := symOf 0 PowOk
  exact ev_true (ovOr.ok ovTrim.ok (ovOr.ok (ovNum.ok fun _ h => h) ovStr.ok)) (by kernel_rfl) VRs.nil works_run H hg
theorem gramDeep_ov (x : Int) : @CallOk (symOf x PowOk) Tryz.prog (ovOr (ovT f_law25_works) (ovOr ovTrim (ovOr ovNum ovStr))) := by
  letI : Sym := symOf x PowOk
  refine ovOr.ok (ovT.ok (by kernel_rfl) fun H0 H hg hs => works_fw ?_) (ovOr.ok ovTrim.ok <| ovOr.ok (ovNum.ok fun _ h => h) ovStr.ok)
  obtain ⟨T, fr, hc⟩ := hg
  exact ⟨T, fr, by rw [hs _ (by rw [hc]; simp)]; exact hc⟩
theorem ten {p : Nat → Prop} (h0 : p 0) (h1 : p 1) (h2 : p 2) (h3 : p 3) (h4 : p 4) (h5 : p 5) (h6 : p 6) (h7 : p 7) (h8 : p 8) (h9 : p 9) : ∀ r, r < 10 → p r
  | 0, _ => h0 | 1, _ => h1 | 2, _ => h2 | 3, _ => h3 | 4, _ => h4 | 5, _ => h5 | 6, _ => h6 | 7, _ => h7 | 8, _ => h8 | 9, _ => h9
  | n + 10, h => absurd h (by omega)
theorem gramDeep_vr (x : Int) (b : Bool) (r : List RB) : @VRs (symOf x PowOk) r [.sym 0, .bool b] [.int .i64 x, .bool b] := by
  letI : Sym := symOf x PowOk
  exact VRs.cons (show VR r (.sym 0) (.int .i64 x) from rfl) (VRs.cons (vr_bool b) VRs.nil)
theorem gramDeep_fw (x : Int) (b : Bool) {H : Heap} (hg : PowOk H) : FnW Tryz.prog f_law25_GramDeep ⟨[.int .i64 x, .bool b]⟩ H fun v H' => v = .bool true ∧ Keep Nil H H' := by
  cases b with
  | true =>
    exact am_run (m := 10) (cs := [.sym 0, .bool true]) (vs := [.int .i64 x, .bool true]) (by omega) (by decide) (by kernel_rfl) (by kernel_rfl) (gramDeep_ov x) (gramDeep_vr x true)
      (ten gd_t0 gd_t1 gd_t2 gd_t3 gd_t4 gd_t5 gd_t6 gd_t7 gd_t8 gd_t9) H hg
  | false =>
    exact am_run (m := 10) (cs := [.sym 0, .bool false]) (vs := [.int .i64 x, .bool false]) (by omega) (by decide) (by kernel_rfl) (by kernel_rfl) (gramDeep_ov x) (gramDeep_vr x false)
      (ten gd_f0 gd_f1 gd_f2 gd_f3 gd_f4 gd_f5 gd_f6 gd_f7 gd_f8 gd_f9) H hg

theorem gramDeep_lifted (os : Os) (started : os.Started) (H : Type) (enc : TypeId × Value → H) :
    ReturnsInHanded {} Tryz.checked os 4 .any (fun w args => (Rows.gramDeepSpec.pre enc Tryz.prog Tryz.f4 Rows.gramDeepRow.domain false w args ∧ laidMetH Tryz.prog laid7 w) ∧ sizedMet enc Tryz.prog Tryz.f4 (OpenSpec.ofChange Rows.gramDeepSpec) false w args)
      (Rows.gramDeepSpec.post enc Tryz.prog Tryz.f4 false true false false) := by
  refine lifted3 (C := Tryz.checked) (tb := T_bool) (laid := laid7) row_own started (by kernel_rfl) Tryz.func4
    (ChangeSpec.witness_shaped (enc := enc) (C := Tryz.checked) (os := os) (X := fun w _ => laidMetH Tryz.prog laid7 w) false (World.laidAll Tryz.prog os laid7) #[.int .i64 0, .bool false] 12 (World.laidAll_os _ _ _)
      (World.shaped_of_ZipB (by kernel_rfl) (by kernel_rfl)) (by kernel_rfl) (by kernel_rfl) (by kernel_rfl)
      (by rw [MakeChecks.laidMetH_plain _ _ _ (by kernel_rfl)]; exact laidMet_laidAll _ (by kernel_rfl) (by kernel_rfl))) row_laidOut (by kernel_rfl) rfl rfl row_bool ?_
  intro W base args ds p hval0 hA0 hwt hL hsh
  obtain ⟨args⟩ := args
  have hval : ∀ (j : Nat) t v, Tryz.f4.params[j]? = some t → args[j]? = some v → Value.okWide Tryz.prog W .any base t v := fun j t v h1 h2 => hval0 j t v h1 (by simpa using h2)
  have hA : DataW.TrodAll enc Tryz.prog W 0 (fun _ => true) true Tryz.f4.params.toList args ds p := hA0
  rw [Tryz.params4] at hA hval
  obtain ⟨v0, vs0, d0, ds0, p0, q0, rfl, rfl, rfl, h0, hA⟩ := trodAll_cons hA
  obtain ⟨v1, vs1, d1, ds1, p1, q1, rfl, rfl, rfl, h1, hA⟩ := trodAll_cons hA
  obtain ⟨rfl, rfl, rfl⟩ := trodAll_nil hA
  refine ⟨rfl, ?_⟩
  obtain ⟨x0, rfl⟩ := okWide_int row_int (hval 0 T_int v0 rfl rfl)
  obtain ⟨x1, rfl⟩ := okWide_bool row_bool (hval 1 T_bool v1 rfl rfl)
  exact gramDeep_fw x0 x1 (row_pow hL)

theorem gramDeep_row : Rows.GramDeepSaid :=
  OpenClaim.holds_of_wide 4 Tryz.f4 rfl rfl rfl rfl rfl rfl rfl ⟨rfl, rfl, rfl, rfl, rfl⟩ rfl rfl rfl rfl rfl (by kernel_rfl) Tryz.func4 (by kernel_rfl)
    (of_decide_eq_true (by kernel_rfl)) (by unfold Func.isWrapper; first | (rw [if_pos (by decide +kernel)]; kernel_rfl) | (rw [if_neg (by decide +kernel)]; exact ⟨rfl, rfl⟩))
    (fun os started H enc _ => gramDeep_lifted os started H enc)

theorem gramDeep_holds : Rows.GramDeepCardSaid :=
  Claim7.holds_tied_plain_at .later [] [.data, .data, .data, .data, .sentinel, .sentinel, .pinned] true (true, "772257b77da97917381663333aaffa240c0ed87f6147429483016051f3d4a641") true
    gramDeep_row (fun _ h => by cases h) (by kernel_rfl) (fun _ h => by cases h) gramDeep_row_tie rfl ⟨rfl, rfl⟩ (by kernel_rfl) rfl
    (fun f fn hf hfn => by
      obtain rfl : f = 4 := Option.some.inj ((show Tryz.prog.funcNamed "pointsman/pointsmanlaw25.GramDeep" = some 4 by kernel_rfl).symm.trans hf) |>.symm
      obtain rfl : fn = Tryz.f4 := (Option.some.inj (Tryz.func4.symm.trans hfn)).symm
      exact ⟨by kernel_rfl, no_standIn (by kernel_rfl)⟩)
    (by kernel_rfl)

#print axioms gramDeep_holds

end Go.Proofs.YtgdkeeiikkiolaaGreatDoor
