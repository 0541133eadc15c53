/-
  'pointsmanlaw20.AttrBack' returns true whatever the input, and the input reads as it did. Conditions: none beyond those of the given statement.
-/
import Derived.Test.YtinilfhnplfhoaaLB20
set_option linter.all false
namespace Go.Proofs.Ytinilfhnplfhoaa
open Go.Sh Go.ChangeShapes Go.WideShapes Go.ChangeAt Go.RowKit
theorem attrBack_own : ownKnob Try.prog.godebug = none := by kernel_rfl
theorem attrBack_laid : laidOutB Try.prog = true := by kernel_rfl
theorem attrBack_bool : Try.prog.underlying T_bool = some .bool := by kernel_rfl
theorem attrBack_ps : pksL Try.prog Try.f5.params.toList = some law20_AttrBack_ps := by kernel_rfl
theorem attrBack_len {D : Type} {enc : TypeId × Value -> D} {P : Program} {W : World} {base : Nat} {sp : Nat -> Bool} {held : Bool} : ∀ {ts : List TypeId} {vs : List Value} {ds : List (DataW D)} {pl : List MemPlace}, DataW.TrodAll enc P W base sp held ts vs ds pl -> ds.length = ts.length
  | [], _, _, _, h => by rw [(trodAll_nil h).2.1]; rfl
  | t :: ts, _, _, _, h => by
    obtain ⟨v, vs, d, ds', p, q, _, rfl, _, _, hrest⟩ := trodAll_cons h; simp only [List.length_cons, attrBack_len hrest]
set_option maxRecDepth 100000 in
theorem attrBack_lifted (os : Os) (started : os.Started) (H : Type) (enc : TypeId × Value -> H) :
    ReturnsInHanded {} Try.checked os 5 .any (Rows.attrBackSpec.pre6 enc Try.prog Try.f5 Rows.attrBackRow.domain false) (Rows.attrBackSpec.post enc Try.prog Try.f5 false true false false) := by
  refine lifted2 (C := Try.checked) (tb := T_bool) attrBack_own started (by kernel_rfl) Try.func5
    (ChangeSpec.witness6 (enc := enc) (C := Try.checked) false ⟨#[], #[.agg #[.int .i64 0, .slice none 0 0, .int .u32 0, .bool false, .int .u32 0, .bool false, .int .u32 0, .bool false, .bool false, .int .u32 0, .int .u32 0, .slice none 0 0, .slice none 0 0], .bool false], []⟩ 8 (by kernel_rfl) (by kernel_rfl) (by kernel_rfl) (by kernel_rfl)) attrBack_laid (by kernel_rfl) rfl rfl attrBack_bool ?_
  intro W base args ds p hval hA hwt; have hlen : ds.length = 2 := attrBack_len hA
  match ds, hlen with
  | [d0, d1], _ =>
  refine ⟨rfl, ?_⟩; obtain ⟨vs⟩ := args; exact law_of law20_AttrBack_fq attrBack_ps (fun x _ hz => attrBack_q x.1 x.2.1 fun s hs => by
    have h1 : SzT [Kd.int .i64, Kd.lst [Kd.bool, Kd.lst [Kd.int .u32]], Kd.int .u32, Kd.bool, Kd.int .u32, Kd.bool, Kd.int .u32, Kd.bool, Kd.bool, Kd.int .u32, Kd.int .u32, Kd.lst [Kd.int .u32], Kd.lst [Kd.int .i64, Kd.lst [Kd.int .u8]]] x.1 := hz.1; simp only [SzT, SzE] at h1; have h2 := (h1.2.1.2 s hs).2.1.1; have h3 : s.2.length * 4 <= 140737488351232 := h2; omega) (fun j t v h1 h2 => hval j t v (by simpa using h1) (by simpa using h2)) hA hwt (fun b hb => by cases hb) trivial
theorem attrBack_holds : Rows.AttrBackSaid :=
  OpenClaim.holds_of_wide 5 Try.f5 rfl rfl rfl rfl rfl rfl rfl ⟨rfl, rfl, rfl, rfl, rfl⟩ rfl rfl rfl rfl rfl (by kernel_rfl) Try.func5 (by kernel_rfl)
    (of_decide_eq_true (by kernel_rfl)) (by unfold Func.isWrapper; first | (rw [if_pos (by decide +kernel)]; kernel_rfl) | (rw [if_neg (by decide +kernel)]; exact ⟨rfl, rfl⟩))
    (fun os started H enc _ => attrBack_lifted os started H enc)
#print axioms attrBack_holds
end Go.Proofs.Ytinilfhnplfhoaa
