/-
  'pointsmanlaw33.PackFew' returns true whatever the input, and the input reads as it did. Conditions: none beyond those of the given statement.
-/
import Derived.Test.YtgdkenndkhnkdaaLaw33b
set_option linter.unusedVariables false
namespace Go.Proofs.Ytgdkenndkhnkdaa
open Go.Sh Go.ChangeShapes Go.WideShapes Go.ChangeAt Go.RowKit
theorem packFew_own : ownKnob Try.prog.godebug = none := by kernel_rfl
theorem packFew_laid : laidOutB Try.prog = true := by kernel_rfl
theorem packFew_bool : Try.prog.underlying T_bool = some .bool := by kernel_rfl
theorem packFew_ps : pksL Try.prog Try.f4.params.toList = some law33_PackFew_ps := by kernel_rfl
theorem packFew_len {D : Type} {enc : TypeId × Value → D} {P : Program} {W : World} {base : Nat} {sp : Nat → Bool} {held : Bool} : ∀ {ts : List TypeId} {vs : List Value} {ds : List (DataW D)} {pl : List MemPlace}, DataW.TrodAll enc P W base sp held ts vs ds pl → ds.length = ts.length
  | [], _, _, _, h => by rw [(trodAll_nil h).2.1]; rfl
  | t :: ts, _, _, _, h => by
    obtain ⟨v, vs, d, ds', p, q, _, rfl, _, _, hrest⟩ := trodAll_cons h
    simp only [List.length_cons, packFew_len hrest]
set_option maxRecDepth 100000 in
theorem packFew_lifted (os : Os) (started : os.Started) (H : Type) (enc : TypeId × Value → H) :
    ReturnsInHanded {} Try.checked os 4 .any (Rows.packFewSpec.pre6 enc Try.prog Try.f4 Rows.packFewRow.domain false) (Rows.packFewSpec.post enc Try.prog Try.f4 false true false false) := by
  refine lifted2 (C := Try.checked) (tb := T_bool) packFew_own started (by kernel_rfl) Try.func4
    (ChangeSpec.witness6 (enc := enc) (C := Try.checked) false ⟨#[], #[.int .i64 0, .int .i64 0, .bool false, .agg #[.int .i64 0, .slice none 0 0, .int .u32 0, .bool false, .int .u32 0, .bool false, .int .u32 0, .bool false, .bool false, .int .u32 0, .int .u32 0, .slice none 0 0, .slice none 0 0]], []⟩ 8 (by kernel_rfl) (by kernel_rfl) (by kernel_rfl) (by kernel_rfl)) packFew_laid (by kernel_rfl) rfl rfl packFew_bool ?_
  intro W base args ds p hval hA hwt
  have hlen : ds.length = 4 := packFew_len hA
  match ds, hlen with
  | [d0, d1, d2, d3], _ =>
  refine ⟨rfl, ?_⟩
  obtain ⟨vs⟩ := args
  exact law_of law33_PackFew_fq packFew_ps (fun x hw hz => packFew_q x.1 x.2.1 x.2.2.1 x.2.2.2.1 (by
    have h1 : SzT [Kd.int .i64, Kd.lst [Kd.bool, Kd.lst [Kd.int .u32]], Kd.int .u32, Kd.bool, Kd.int .u32, Kd.bool, Kd.int .u32, Kd.bool, Kd.bool, Kd.int .u32, Kd.int .u32, Kd.lst [Kd.int .u32], Kd.lst [Kd.int .i64, Kd.lst [Kd.int .u8]]] x.2.2.2.1 := hz.2.2.2.1
    simp only [SzT, SzE] at h1
    refine ⟨fun s hs => ?_, fun y hy => ?_⟩
    · have h2 := (h1.2.1.2 s hs).2.1.1
      have h3 : s.2.length * 4 ≤ 140737488351232 := h2
      omega
    · have h2 := (h1.2.2.2.2.2.2.2.2.2.2.2.2.1.2 y hy).2.1.1
      have h3 : y.2.length * 1 ≤ 140737488351232 := h2
      omega)) (fun j t v h1 h2 => hval j t v (by simpa using h1) (by simpa using h2)) hA hwt (fun b hb => by cases hb) trivial
theorem packFew_holds : Rows.PackFewSaid :=
  OpenClaim.holds_of_wide 4 Try.f4 rfl rfl rfl rfl rfl rfl rfl ⟨rfl, rfl, rfl, rfl, rfl⟩ rfl rfl rfl rfl rfl (by kernel_rfl) Try.func4 (by kernel_rfl)
    (of_decide_eq_true (by kernel_rfl)) (by unfold Func.isWrapper; first | (rw [if_pos (by decide +kernel)]; kernel_rfl) | (rw [if_neg (by decide +kernel)]; exact ⟨rfl, rfl⟩))
    (fun os started H enc _ => packFew_lifted os started H enc)
#print axioms packFew_holds
end Go.Proofs.Ytgdkenndkhnkdaa
