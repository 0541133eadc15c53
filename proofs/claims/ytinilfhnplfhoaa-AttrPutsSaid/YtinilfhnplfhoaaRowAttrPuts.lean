/-
  'pointsmanlaw20.AttrPuts' returns true whatever the input, and the input reads as it did. Conditions: none beyond those of the given statement.
-/
import Derived.Test.YtinilfhnplfhoaaLaw20a
namespace Go.Proofs.Ytinilfhnplfhoaa
open Go.Sh Go.ChangeShapes Go.WideShapes Go.ChangeAt Go.RowKit

theorem attrPuts_own : ownKnob Try.prog.godebug = none := by kernel_rfl
theorem attrPuts_laid : laidOutB Try.prog = true := by kernel_rfl
theorem attrPuts_bool : Try.prog.underlying T_bool = some .bool := by kernel_rfl
theorem attrPuts_ps : pksL Try.prog Try.f3.params.toList = some law20_AttrPuts_ps := by kernel_rfl

set_option maxRecDepth 100000 in
theorem attrPuts_lifted (os : Os) (started : os.Started) (H : Type) (enc : TypeId × Value → H) :
    ReturnsInHanded {} Try.checked os 3 .any (Rows.attrPutsSpec.pre6 enc Try.prog Try.f3 Rows.attrPutsRow.domain false) (Rows.attrPutsSpec.post enc Try.prog Try.f3 false true false false) := by
  refine lifted2 (C := Try.checked) (tb := T_bool) attrPuts_own started (by kernel_rfl) Try.func3
    (ChangeSpec.witness6 (enc := enc) (C := Try.checked) false ⟨#[], #[.agg #[.int .i64 0, .slice none 0 0, .int .u32 0, .bool false, .int .u32 0, .bool false, .int .u32 0, .bool false, .bool false, .int .u32 0, .int .u32 0, .slice none 0 0, .slice none 0 0], .bool false], []⟩ 8 (by kernel_rfl) (by kernel_rfl) (by kernel_rfl) (by kernel_rfl)) attrPuts_laid (by kernel_rfl) rfl rfl attrPuts_bool ?_
  intro W base args ds p hval hA hwt
  have hlen : ∃ d1 d2, ds = [d1, d2] := by
    have hA' : DataW.TrodAll enc Try.prog W 0 (fun _ => true) true [Try.f3.params[0]!, Try.f3.params[1]!] args.toList ds p := hA
    obtain ⟨v0, v1, d0, d1, p0, p1, _, h2, _⟩ := trodAll_two hA'
    exact ⟨d0, d1, h2⟩
  obtain ⟨d1, d2, rfl⟩ := hlen
  refine ⟨rfl, ?_⟩
  obtain ⟨vs⟩ := args
  refine law_of law20_AttrPuts_fq attrPuts_ps (fun x _ hz => attrPuts_q x.1 x.2.1 fun s hs => ?_) (fun j t v h1 h2 => hval j t v (by simpa using h1) (by simpa using h2)) hA hwt
  have h1 : SzT [Kd.int .i64, Kd.lst [Kd.bool, Kd.lst [Kd.int .u32]], Kd.int .u32, Kd.bool, Kd.int .u32, Kd.bool, Kd.int .u32, Kd.bool, Kd.bool, Kd.int .u32, Kd.int .u32, Kd.lst [Kd.int .u32], Kd.lst [Kd.int .i64, Kd.lst [Kd.int .u8]]] x.1 := hz.1
  simp only [SzT, SzE] at h1
  have h2 := (h1.2.1.2 s hs).2.1.1
  have h3 : s.2.length * 4 ≤ 140737488351232 := h2
  omega

theorem attrPuts_holds : Rows.AttrPutsSaid :=
  OpenClaim.holds_of_wide 3 Try.f3 rfl rfl rfl rfl rfl rfl rfl ⟨rfl, rfl, rfl, rfl, rfl⟩ rfl rfl rfl rfl rfl (by kernel_rfl) Try.func3 (by kernel_rfl)
    (of_decide_eq_true (by kernel_rfl)) (by unfold Func.isWrapper; first | (rw [if_pos (by decide +kernel)]; kernel_rfl) | (rw [if_neg (by decide +kernel)]; exact ⟨rfl, rfl⟩))
    (fun os started H enc _ => attrPuts_lifted os started H enc)

#print axioms attrPuts_holds

end Go.Proofs.Ytinilfhnplfhoaa
