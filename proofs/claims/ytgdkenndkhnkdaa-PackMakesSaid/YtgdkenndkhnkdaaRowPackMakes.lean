/-
  'pointsmanlaw33.PackMakes' returns true whatever the input, and the input reads as it did. Conditions: none beyond those of the given statement.
-/
import Derived.Test.YtgdkenndkhnkdaaL33
set_option linter.unusedVariables false
namespace Go.Proofs.Ytgdkenndkhnkdaa
open Go.Sh Go.ChangeShapes Go.WideShapes Go.ChangeAt Go.RowKit
theorem packMakes_own : ownKnob Try.prog.godebug = none := by kernel_rfl
theorem packMakes_laid : laidOutB Try.prog = true := by kernel_rfl
theorem packMakes_bool : Try.prog.underlying T_bool = some .bool := by kernel_rfl
theorem packMakes_ps : pksL Try.prog Try.f3.params.toList = some law33_PackMakes_ps := by kernel_rfl
theorem packMakes_len {D : Type} {enc : TypeId × Value → D} {P : Program} {W : World} {base : Nat} {sp : Nat → Bool} {held : Bool} : ∀ {ts : List TypeId} {vs : List Value} {ds : List (DataW D)} {pl : List MemPlace}, DataW.TrodAll enc P W base sp held ts vs ds pl → ds.length = ts.length
  | [], _, _, _, h => by rw [(trodAll_nil h).2.1]; rfl
  | t :: ts, _, _, _, h => by
    obtain ⟨v, vs, d, ds', p, q, _, rfl, _, _, hrest⟩ := trodAll_cons h
    simp only [List.length_cons, packMakes_len hrest]
set_option maxRecDepth 100000 in
theorem packMakes_lifted (os : Os) (started : os.Started) (H : Type) (enc : TypeId × Value → H) :
    ReturnsInHanded {} Try.checked os 3 .any (Rows.packMakesSpec.pre6 enc Try.prog Try.f3 Rows.packMakesRow.domain false) (Rows.packMakesSpec.post enc Try.prog Try.f3 false true false false) := by
  refine lifted2 (C := Try.checked) (tb := T_bool) packMakes_own started (by kernel_rfl) Try.func3
    (ChangeSpec.witness6 (enc := enc) (C := Try.checked) false ⟨#[], #[.slice none 0 0, .bool false], []⟩ 8 (by kernel_rfl) (by kernel_rfl) (by kernel_rfl) (by kernel_rfl)) packMakes_laid (by kernel_rfl) rfl rfl packMakes_bool ?_
  intro W base args ds p hval hA hwt
  have hlen : ds.length = 2 := packMakes_len hA
  match ds, hlen with
  | [d0, d1], _ =>
  refine ⟨rfl, ?_⟩
  obtain ⟨vs⟩ := args
  exact law_of law33_PackMakes_fq packMakes_ps (fun x hw hz => packMakes_q x.1 x.2.1 (by
    have h1 : WfE (.lst ksCh) x.1 := hw.1
    simp only [WfE] at h1; exact h1.1) (fun c hc => by
    have h1 : SzE (.lst ksCh) x.1 := hz.1
    simp only [SzE, SzT] at h1
    obtain ⟨_, _, _, ⟨_, p2⟩, _, _, _, _, _, _, _, _, _, _, ⟨_, o2⟩, _⟩ := h1.2 c hc
    refine ⟨fun s hs => ?_, fun y hy => ?_⟩
    · have h2 := (p2 s hs).2.1.1
      have h3 : s.2.length * 4 ≤ 140737488351232 := h2
      omega
    · have h2 := (o2 y hy).2.1.1
      have h3 : y.2.length * 1 ≤ 140737488351232 := h2
      omega)) (fun j t v h1 h2 => hval j t v (by simpa using h1) (by simpa using h2)) hA hwt (fun b hb => by cases hb) trivial
theorem packMakes_holds : Rows.PackMakesSaid :=
  OpenClaim.holds_of_wide 3 Try.f3 rfl rfl rfl rfl rfl rfl rfl ⟨rfl, rfl, rfl, rfl, rfl⟩ rfl rfl rfl rfl rfl (by kernel_rfl) Try.func3 (by kernel_rfl)
    (of_decide_eq_true (by kernel_rfl)) (by unfold Func.isWrapper; first | (rw [if_pos (by decide +kernel)]; kernel_rfl) | (rw [if_neg (by decide +kernel)]; exact ⟨rfl, rfl⟩))
    (fun os started H enc _ => packMakes_lifted os started H enc)
#print axioms packMakes_holds
end Go.Proofs.Ytgdkenndkhnkdaa
