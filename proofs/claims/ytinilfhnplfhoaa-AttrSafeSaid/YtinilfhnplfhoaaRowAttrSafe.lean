/-
  'pointsmanlaw20.AttrSafe' returns true whatever the input, and the input reads as it did. Conditions: none beyond those of the given statement.
-/
import Derived.Test.YtinilfhnplfhoaaLB20
set_option linter.all false
namespace Go.Proofs.Ytinilfhnplfhoaa
open Go.Sh Go.ChangeShapes Go.WideShapes Go.ChangeAt Go.RowKit
theorem attrSafe_own : ownKnob Try.prog.godebug = none := by kernel_rfl
theorem attrSafe_laid : laidOutB Try.prog = true := by kernel_rfl
theorem attrSafe_bool : Try.prog.underlying T_bool = some .bool := by kernel_rfl
theorem attrSafe_ps : pksL Try.prog Try.f6.params.toList = some law20_AttrSafe_ps := by kernel_rfl
theorem attrSafe_len {D : Type} {enc : TypeId × Value -> D} {P : Program} {W : World} {base : Nat} {sp : Nat -> Bool} {held : Bool} : ∀ {ts : List TypeId} {vs : List Value} {ds : List (DataW D)} {pl : List MemPlace}, DataW.TrodAll enc P W base sp held ts vs ds pl -> ds.length = ts.length
  | [], _, _, _, h => by rw [(trodAll_nil h).2.1]; rfl
  | t :: ts, _, _, _, h => by
    obtain ⟨v, vs, d, ds', p, q, _, rfl, _, _, hrest⟩ := trodAll_cons h; simp only [List.length_cons, attrSafe_len hrest]
set_option maxRecDepth 100000 in
theorem attrSafe_lifted (os : Os) (started : os.Started) (H : Type) (enc : TypeId × Value -> H) :
    ReturnsInHanded {} Try.checked os 6 .any (Rows.attrSafeSpec.pre6 enc Try.prog Try.f6 Rows.attrSafeRow.domain false) (Rows.attrSafeSpec.post enc Try.prog Try.f6 false true false false) := by
  refine lifted2 (C := Try.checked) (tb := T_bool) attrSafe_own started (by kernel_rfl) Try.func6
    (ChangeSpec.witness6 (enc := enc) (C := Try.checked) false ⟨#[], #[.slice none 0 0, .bool false, .bool false], []⟩ 8 (by kernel_rfl) (by kernel_rfl) (by kernel_rfl) (by kernel_rfl)) attrSafe_laid (by kernel_rfl) rfl rfl attrSafe_bool ?_
  intro W base args ds p hval hA hwt; have hlen : ds.length = 3 := attrSafe_len hA
  match ds, hlen with
  | [d0, d1, d2], _ =>
  refine ⟨rfl, ?_⟩; obtain ⟨vs⟩ := args; exact law_of law20_AttrSafe_fq attrSafe_ps (fun x _ _ => attrSafe_q x.1 x.2.1 x.2.2.1) (fun j t v h1 h2 => hval j t v (by simpa using h1) (by simpa using h2)) hA hwt (fun b hb => by cases hb) trivial
theorem attrSafe_holds : Rows.AttrSafeSaid :=
  OpenClaim.holds_of_wide 6 Try.f6 rfl rfl rfl rfl rfl rfl rfl ⟨rfl, rfl, rfl, rfl, rfl⟩ rfl rfl rfl rfl rfl (by kernel_rfl) Try.func6 (by kernel_rfl)
    (of_decide_eq_true (by kernel_rfl)) (by unfold Func.isWrapper; first | (rw [if_pos (by decide +kernel)]; kernel_rfl) | (rw [if_neg (by decide +kernel)]; exact ⟨rfl, rfl⟩))
    (fun os started H enc _ => attrSafe_lifted os started H enc)
#print axioms attrSafe_holds
end Go.Proofs.Ytinilfhnplfhoaa
