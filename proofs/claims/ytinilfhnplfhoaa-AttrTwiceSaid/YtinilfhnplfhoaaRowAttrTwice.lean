/-
  'pointsmanlaw20.AttrTwice' returns true whatever the input, and the input reads as it did. Conditions: none beyond those of the given statement.
-/
import Derived.Test.YtinilfhnplfhoaaLB20
set_option linter.all false
namespace Go.Proofs.Ytinilfhnplfhoaa
open Go.Sh Go.ChangeShapes Go.WideShapes Go.ChangeAt Go.RowKit
theorem attrTwice_own : ownKnob Try.prog.godebug = none := by kernel_rfl
theorem attrTwice_laid : laidOutB Try.prog = true := by kernel_rfl
theorem attrTwice_bool : Try.prog.underlying T_bool = some .bool := by kernel_rfl
theorem attrTwice_ps : pksL Try.prog Try.f7.params.toList = some law20_AttrTwice_ps := by kernel_rfl
theorem attrTwice_len {D : Type} {enc : TypeId × Value -> D} {P : Program} {W : World} {base : Nat} {sp : Nat -> Bool} {held : Bool} : ∀ {ts : List TypeId} {vs : List Value} {ds : List (DataW D)} {pl : List MemPlace}, DataW.TrodAll enc P W base sp held ts vs ds pl -> ds.length = ts.length
  | [], _, _, _, h => by rw [(trodAll_nil h).2.1]; rfl
  | t :: ts, _, _, _, h => by obtain ⟨v, vs, d, ds', p, q, _, rfl, _, _, hrest⟩ := trodAll_cons h; simp only [List.length_cons, attrTwice_len hrest]
set_option maxRecDepth 100000 in
theorem attrTwice_lifted (os : Os) (started : os.Started) (H : Type) (enc : TypeId × Value -> H) :
    ReturnsInHanded {} Try.checked os 7 .any (Rows.attrTwiceSpec.pre6 enc Try.prog Try.f7 Rows.attrTwiceRow.domain false) (Rows.attrTwiceSpec.post enc Try.prog Try.f7 false true false false) := by
  refine lifted2 (C := Try.checked) (tb := T_bool) attrTwice_own started (by kernel_rfl) Try.func7
    (ChangeSpec.witness6 (enc := enc) (C := Try.checked) false ⟨#[], #[.slice none 0 0, .bool false, .bool false], []⟩ 8 (by kernel_rfl) (by kernel_rfl) (by kernel_rfl) (by kernel_rfl)) attrTwice_laid (by kernel_rfl) rfl rfl attrTwice_bool ?_
  intro W base args ds p hval hA hwt; have hlen : ds.length = 3 := attrTwice_len hA
  match ds, hlen with
  | [d0, d1, d2], _ =>
  refine ⟨rfl, ?_⟩; obtain ⟨vs⟩ := args; exact law_of law20_AttrTwice_fq attrTwice_ps (fun x _ _ => attrTwice_q x.1 x.2.1 x.2.2.1) (fun j t v h1 h2 => hval j t v (by simpa using h1) (by simpa using h2)) hA hwt (fun b hb => by cases hb) trivial
theorem attrTwice_holds : Rows.AttrTwiceSaid :=
  OpenClaim.holds_of_wide 7 Try.f7 rfl rfl rfl rfl rfl rfl rfl ⟨rfl, rfl, rfl, rfl, rfl⟩ rfl rfl rfl rfl rfl (by kernel_rfl) Try.func7 (by kernel_rfl)
    (of_decide_eq_true (by kernel_rfl)) (by unfold Func.isWrapper; first | (rw [if_pos (by decide +kernel)]; kernel_rfl) | (rw [if_neg (by decide +kernel)]; exact ⟨rfl, rfl⟩))
    (fun os started H enc _ => attrTwice_lifted os started H enc)
#print axioms attrTwice_holds
end Go.Proofs.Ytinilfhnplfhoaa
