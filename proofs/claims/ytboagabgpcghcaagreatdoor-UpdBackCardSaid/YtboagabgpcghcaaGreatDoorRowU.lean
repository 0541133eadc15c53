/-
  What the rows of this seat share: the listed variables, the table that is read.
  'pointsmanlaw21.UpdBack' returns true whatever the input, and the input reads as it did. Conditions: none beyond those of the given statement (the listed package-level variables are laid as the program's text lays them).
-/
import Derived.Test.YtboagabgpcghcaaGreatDoorQ
import Derived.Test.YtboagabgpcghcaaGreatDoorTie
import Derived.Test.YtboagabgpcghcaaGreatDoorCards
import Derived.LaidMore
import Derived.Lay
import Derived.SevenTiedAt
import Derived.Test.YtboagabgpcghcaaGreatDoorQL
set_option linter.all false
section
namespace Go.Proofs.YtboagabgpcghcaaGreatDoor
open Go.Sh Go.ChangeShapes Go.WideShapes Go.ChangeAt Go.RowKit
def Zqt : List (String × DataW Unit) := [("math/bits.deBruijn32tab", Rows.laid_math_bits_deBruijn32tab), ("math/bits.deBruijn64tab", Rows.laid_math_bits_deBruijn64tab), ("internal/strconv.uint64pow10", Rows.laid_internal_strconv_uint64pow10)]
theorem Zctc : ownKnob Tryz.prog.godebug = none := by kernel_rfl
theorem Zcdn : laidOutB Tryz.prog = true := by kernel_rfl
theorem Zcra : Tryz.prog.underlying Zbdf = some .bool := by kernel_rfl
theorem Zcux {W : World} (h : laidMetH Tryz.prog Zqt W) (hsh : W.ShapedOpen Tryz.prog) : (∀ b, Laid.blocks b = true -> hp W b ≠ none) ∧ Laid.ok (layH (hp W)) := by
  rw [MakeChecks.laidMetH_plain _ _ _ (by kernel_rfl)] at h
  have h3 : laidMet Tryz.prog [("internal/strconv.uint64pow10", Lib.tabData .u64 Lib.pow10Tab)] W := (laidMet.tail (laidMet.tail h)); have ht := Lib.tabIs_of_head (g := Zji) (t := Zcjg) (e := Zcao) (n := 20) (by kernel_rfl) (by kernel_rfl) (by kernel_rfl) (by kernel_rfl) (by kernel_rfl) (by kernel_rfl) h3
  unfold Lib.TabIs World.var? at ht; rw [Zbtp, Option.bind_some] at ht; have hg : ∃ T fr, W.heap[Zji]? = some (.cells Zxm T fr) := by split at ht; rename_i cs T fr hh; cases ht; exact ⟨T, fr, hh⟩; cases ht
  obtain ⟨T, fr, hg⟩ := hg; have e : hp W Zji = some (.cells Zxm T fr) := hg; refine ⟨fun b hb => ?_, T, fr, e⟩; obtain rfl : b = Zji := Nat.eq_of_beq_eq_true hb; rw [e]; exact fun h => by cases h
theorem Zcot {fn : Func} (h : (fn.params.toList.all fun t => !Tryz.prog.wantsStandIn t) = true) (j : Nat) (t : TypeId) (ht : fn.params[j]? = some t) : Tryz.prog.wantsStandIn t = false := by
  have hm : t ∈ fn.params.toList := List.mem_of_getElem? (i := j) (by rw [Array.getElem?_toList]; exact ht)
  have := List.all_eq_true.1 h t hm; simpa using this
end Go.Proofs.YtboagabgpcghcaaGreatDoor
end
section
namespace Go.Proofs.YtboagabgpcghcaaGreatDoor
open Go.Sh Go.ChangeShapes Go.WideShapes Go.ChangeAt Go.RowKit
theorem Zcdh : pksL Tryz.prog Tryz.f4.params.toList = some Zbir := by kernel_rfl
set_option maxRecDepth 100000 in
theorem Zcnk (os : Os) (started : os.Started) (H : Type) (enc : TypeId × Value -> H) :
    ReturnsInHanded {} Tryz.checked os 4 .any (fun w args => (Rows.updBackSpec.pre enc Tryz.prog Tryz.f4 Rows.updBackRow.domain false w args ∧ laidMetH Tryz.prog Zqt w) ∧ sizedMet enc Tryz.prog Tryz.f4 (OpenSpec.ofChange Rows.updBackSpec) false w args)
      (Rows.updBackSpec.post enc Tryz.prog Tryz.f4 false true false false) := by
  refine Zcfa (C := Tryz.checked) (tb := Zbdf) (laid := Zqt) Zctc started (by kernel_rfl) Tryz.func4
    (ChangeSpec.witness_shaped (enc := enc) (C := Tryz.checked) (os := os) (X := fun w _ => laidMetH Tryz.prog Zqt w) false (World.laidAll Tryz.prog os Zqt) #[.agg #[.slice none 0 0, .slice none 0 0, .int .i64 0, .slice none 0 0, .int .u32 0, .bool false, .int .u32 0, .bool false, .int .u32 0, .bool false, .bool false, .int .u32 0, .int .u32 0, .slice none 0 0, .slice none 0 0, .int .i64 0], .bool false] 12 (World.laidAll_os _ _ _)
      (World.shaped_of_ZipB (by kernel_rfl) (by kernel_rfl)) (by kernel_rfl) (by kernel_rfl) (by kernel_rfl)
      (by rw [MakeChecks.laidMetH_plain _ _ _ (by kernel_rfl)]; exact laidMet_laidAll _ (by kernel_rfl) (by kernel_rfl))) Zcdn (by kernel_rfl) rfl rfl Zcra ?_
  intro W base args ds p hval hA hwt hL hsh; have hlen : ∃ d1 d2, ds = [d1, d2] := by have hA' : DataW.TrodAll enc Tryz.prog W 0 (fun _ => true) true [Tryz.f4.params[0]!, Tryz.f4.params[1]!] args.toList ds p := hA; obtain ⟨v0, v1, e0, e1, p0, p1, _, h2, _⟩ := trodAll_two hA'; exact ⟨e0, e1, h2⟩
  obtain ⟨d1, d2, rfl⟩ := hlen; refine ⟨rfl, ?_⟩; obtain ⟨vs⟩ := args; obtain ⟨l1, l2⟩ := Zcux hL hsh; exact Zcbd Zcdq Zcdh (fun x hw hz => Zcle x.1 x.2.1 (by
    have h1 : SzT [Kd.lst [Kd.int .u32, Kd.int .i64], Kd.lst [Kd.int .u32, Kd.int .i64], Kd.int .i64, Kd.lst [Kd.bool, Kd.lst [Kd.int .u32]], Kd.int .u32, Kd.bool, Kd.int .u32, Kd.bool, Kd.int .u32, Kd.bool, Kd.bool, Kd.int .u32, Kd.int .u32, Kd.lst [Kd.int .u32], Kd.lst [Kd.int .i64, Kd.lst [Kd.int .u8]], Kd.int .i64] x.1 := hz.1; simp only [SzT, SzE] at h1; refine ⟨fun s hs => ?_, fun y hy => ?_⟩; have h2 := (h1.2.2.2.1.2 s hs).2.1.1; have h3 : s.2.length * 4 <= 140737488351232 := h2; omega
    . have h2 := (h1.2.2.2.2.2.2.2.2.2.2.2.2.2.2.1.2 y hy).2.1.1; have h3 : y.2.length * 1 <= 140737488351232 := h2; omega)) (fun j t v h1 h2 => hval j t v (by simpa using h1) (by simpa using h2)) hA hwt l1 l2
theorem updBack_row : Rows.UpdBackSaid :=
  OpenClaim.holds_of_wide 4 Tryz.f4 rfl rfl rfl rfl rfl rfl rfl ⟨rfl, rfl, rfl, rfl, rfl⟩ rfl rfl rfl rfl rfl (by kernel_rfl) Tryz.func4 (by kernel_rfl)
    (of_decide_eq_true (by kernel_rfl)) (by unfold Func.isWrapper; first | (rw [if_pos (by decide +kernel)]; kernel_rfl) | (rw [if_neg (by decide +kernel)]; exact ⟨rfl, rfl⟩))
    (fun os started H enc _ => Zcnk os started H enc)
theorem updBack_holds : Rows.UpdBackCardSaid :=
  Claim7.holds_tied_plain_at .later [] [.data, .data, .data] true (true, "f0ece80c07ee29861796522814b1054ac4fbfeb9b924c81167a20fcdb9f14a78") true
    updBack_row (fun _ h => by cases h) (by kernel_rfl) (fun _ h => by cases h) updBack_row_tie rfl ⟨rfl, rfl⟩ (by kernel_rfl) rfl
    (fun f fn hf hfn => by
      obtain rfl : f = 4 := Option.some.inj ((show Tryz.prog.funcNamed "pointsman/pointsmanlaw21.UpdBack" = some 4 by kernel_rfl).symm.trans hf) |>.symm
      obtain rfl : fn = Tryz.f4 := (Option.some.inj (Tryz.func4.symm.trans hfn)).symm; exact ⟨by kernel_rfl, Zcot (by kernel_rfl)⟩)
    (by kernel_rfl)
#print axioms updBack_holds
end Go.Proofs.YtboagabgpcghcaaGreatDoor
end
