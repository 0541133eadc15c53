/-
  'pointsmanlaw20.AttrTells' returns true whatever the input, and the input reads as it did. Conditions: none beyond those of the given statement.
-/
import Derived.Test.YtomdgakmkihfhaaTl10
set_option linter.unusedVariables false
set_option maxRecDepth 100000
namespace Go.Proofs.Ytomdgakmkihfhaa
open Go.Sh Go.ChangeShapes Go.WideShapes Go.ChangeAt Go.RowKit

abbrev law20_AttrTells_ps : List Pk := [Pk.agg ksAt, Pk.agg ksAt]
def Szd (a : Attrs) : Prop := ∀ s ∈ a.path, s.2.length ≤ 35184372088736
theorem law20_AttrTells_fq : FnQ Try.prog f_law20_AttrTells law20_AttrTells_ps [Pk.bool] (fun x K => Szd x.1 ∧ Szd x.2.1 ∧ K (true, ())) := by
  refine fnQ_any rfl (fun _ => rfl) fun x K hx H Z vs hsl hz hlay hlo => ?_
  obtain ⟨a, b, u⟩ := x
  obtain ⟨ha, hb, hk⟩ := hx
  have hsl' : SimL (gZ Z) H 0 [.agg (lvT ksAt a), .agg (lvT ksAt b)] vs := hsl
  match vs, hsl' with
  | [v0, v1], hsl' =>
  simp only [SimL, SimV, and_true] at hsl'
  obtain ⟨⟨va, rfl, h1⟩, vb, rfl, h2⟩ := hsl'
  refine (law_run hz ⟨hlay, hlo⟩ h1 h2 ha hb).mono fun v H' hv => ?_
  obtain ⟨k, rfl⟩ := hv
  refine ⟨k, (true, ()), fun _ => False, hk, Fresh.none, ?_⟩
  simp only [pksA, pkA, outA, SimV]

theorem attrTells_own : ownKnob Try.prog.godebug = none := by kernel_rfl
theorem attrTells_laid : laidOutB Try.prog = true := by kernel_rfl
theorem attrTells_bool : Try.prog.underlying T_bool = some .bool := by kernel_rfl
theorem attrTells_ps : pksL Try.prog Try.f3.params.toList = some law20_AttrTells_ps := by kernel_rfl
theorem attrTells_len {D : Type} {enc : TypeId × Value → D} {P : Program} {W : World} {base : Nat} {sp : Nat → Bool} {held : Bool} : ∀ {ts : List TypeId} {vs : List Value} {ds : List (DataW D)} {pl : List MemPlace}, DataW.TrodAll enc P W base sp held ts vs ds pl → ds.length = ts.length
  | [], _, _, _, h => by rw [(trodAll_nil h).2.1]; rfl
  | t :: ts, _, _, _, h => by
    obtain ⟨v, vs, d, ds', p, q, _, rfl, _, _, hrest⟩ := trodAll_cons h
    simp only [List.length_cons, attrTells_len hrest]
theorem szd_of {a : Attrs} (h1 : SzT ksAt a) : Szd a := fun s hs => by
  have h1 : SzT [Kd.int .i64, Kd.lst [Kd.bool, Kd.lst [Kd.int .u32]], Kd.int .u32, Kd.bool, Kd.int .u32, Kd.bool, Kd.int .u32, Kd.bool, Kd.bool, Kd.int .u32, Kd.int .u32, Kd.lst [Kd.int .u32], Kd.lst [Kd.int .i64, Kd.lst [Kd.int .u8]]] a := h1
  simp only [SzT, SzE] at h1
  have h2 := (h1.2.1.2 s hs).2.1.1
  have h3 : s.2.length * 4 ≤ 140737488351232 := h2
  omega

theorem attrTells_lifted (os : Os) (started : os.Started) (H : Type) (enc : TypeId × Value → H) :
    ReturnsInHanded {} Try.checked os 3 .any (Rows.attrTellsSpec.pre6 enc Try.prog Try.f3 Rows.attrTellsRow.domain false) (Rows.attrTellsSpec.post enc Try.prog Try.f3 false true false false) := by
  refine lifted2 (C := Try.checked) (tb := T_bool) attrTells_own started (by kernel_rfl) Try.func3
    (ChangeSpec.witness6 (enc := enc) (C := Try.checked) false ⟨#[], #[.agg #[.int .i64 0, .slice none 0 0, .int .u32 0, .bool false, .int .u32 0, .bool false, .int .u32 0, .bool false, .bool false, .int .u32 0, .int .u32 0, .slice none 0 0, .slice none 0 0], .agg #[.int .i64 0, .slice none 0 0, .int .u32 0, .bool false, .int .u32 0, .bool false, .int .u32 0, .bool false, .bool false, .int .u32 0, .int .u32 0, .slice none 0 0, .slice none 0 0]], []⟩ 8 (by kernel_rfl) (by kernel_rfl) (by kernel_rfl) (by kernel_rfl)) attrTells_laid (by kernel_rfl) rfl rfl attrTells_bool ?_
  intro W base args ds p hval hA hwt
  have hlen : ds.length = 2 := attrTells_len hA
  match ds, hlen with
  | [d0, d1], _ =>
  refine ⟨rfl, ?_⟩
  obtain ⟨vs⟩ := args
  exact law_of law20_AttrTells_fq attrTells_ps (fun x _ hz => ⟨szd_of hz.1, szd_of hz.2.1, rfl⟩) (fun j t v h1 h2 => hval j t v (by simpa using h1) (by simpa using h2)) hA hwt (fun b hb => by cases hb) trivial

theorem attrTells_holds : Rows.AttrTellsSaid :=
  OpenClaim.holds_of_wide 3 Try.f3 rfl rfl rfl rfl rfl rfl rfl ⟨rfl, rfl, rfl, rfl, rfl⟩ rfl rfl rfl rfl rfl (by kernel_rfl) Try.func3 (by kernel_rfl)
    (of_decide_eq_true (by kernel_rfl)) (by unfold Func.isWrapper; first | (rw [if_pos (by decide +kernel)]; kernel_rfl) | (rw [if_neg (by decide +kernel)]; exact ⟨rfl, rfl⟩))
    (fun os started H enc _ => attrTells_lifted os started H enc)

#print axioms attrTells_holds

end Go.Proofs.Ytomdgakmkihfhaa
