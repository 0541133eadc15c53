/-
  What is handed in, by its shape.
-/
import Derived.Test.YthojhkhiamomnaaGreatEv9
import Derived.Test.YthojhkhiamomnaaGreatLift
noncomputable section
set_option linter.all false
namespace Go.Ev
variable [Sym]
open Go.Sh Go.ChangeShapes Go.WideShapes Go.ChangeAt Go.RowKit

/-- The fields of a struct that is handed in. -/
theorem open_fields {H : Type} {enc : TypeId × Value → H} {P : Program} {W : World} {t : TypeId} {fs : Array Field} {base : Nat} {v : Value} {d : DataW H} {ps : List MemPlace} (ht : P.underlying t = some (.struct fs))
    (hval : Value.okWide P W .any base t v) (h : DataW.Trod enc P W 0 (fun _ => true) true t v d ps) :
    ∃ (l : List Value) (n : Nat), v = .agg ⟨l⟩ ∧ l.length = P.cellsOf t ∧ ∀ (i : Nat) (f : Field), fs[i]? = some f → ∃ x, DataW.trod enc P W 0 (fun _ => true) true n f.type ((l.drop f.offset).take (P.cellsOf f.type)) = some x := by
  obtain ⟨cs, rfl, hs⟩ := okWide_struct ht hval
  obtain ⟨l⟩ := cs
  obtain ⟨fuel, h⟩ := h
  obtain ⟨xs, n, _, _, hl, hx, hf⟩ := DataW.trod_struct ht h
  refine ⟨l, n, rfl, hl, fun i f hi => ?_⟩
  have := hf i f hi
  have hlt : i < xs.length := by
    have := (Array.getElem?_eq_some_iff.1 hi).1
    omega
  rw [List.getElem?_eq_getElem hlt] at this
  exact ⟨_, this⟩
theorem field_int {H : Type} {enc : TypeId × Value → H} {P : Program} {W : World} {t : TypeId} {k : IntKind} {l : List Value} {n o : Nat} {x : DataW H × List MemPlace} (ht : P.underlying t = some (.int k)) (hc : P.cellsOf t = 1)
    (h : DataW.trod enc P W 0 (fun _ => true) true n t ((l.drop o).take (P.cellsOf t)) = some x) : ∃ n, l[o]? = some (.int k n) := by
  obtain ⟨m, hm, _⟩ := DataW.trod_int ht h
  rw [hc] at hm
  exact ⟨m, take_one hm⟩
theorem field_slice {H : Type} {enc : TypeId × Value → H} {P : Program} {W : World} {t e : TypeId} {l : List Value} {n o : Nat} {x : DataW H × List MemPlace} (ht : P.underlying t = some (.slice e)) (hc : P.cellsOf t = 1)
    (h : DataW.trod enc P W 0 (fun _ => true) true n t ((l.drop o).take (P.cellsOf t)) = some x) : ∃ a n c, l[o]? = some (.slice a n c) := by
  rcases DataW.trod_slice ht h with ⟨hm, _⟩ | ⟨a, len, cap, _, _, _, _, hm, _⟩
  · rw [hc] at hm; exact ⟨_, _, _, take_one hm⟩
  · rw [hc] at hm; exact ⟨_, _, _, take_one hm⟩
/-- Nothing is known by name alone. -/
abbrev sym0 : Sym := ⟨fun _ => .int .i64 0, fun _ => ⟨_, _, rfl⟩, fun _ => True⟩
theorem vr_agg {r : List RB} {cs : List CV} {vs : List Value} (h : VRs r cs vs) : VR r (.agg cs) (.agg ⟨vs⟩) := ⟨vs, rfl, h⟩
theorem vr_int {r : List RB} (k : IntKind) (n : Int) : VR r (.int k n) (.int k n) := rfl
theorem vr_bool {r : List RB} (b : Bool) : VR r (.bool b) (.bool b) := rfl
theorem vr_opq {r : List RB} (v : Value) : VR r (.opq v) v := rfl
theorem vr_one {r : List RB} {c : CV} {v : Value} {cs : List CV} {vs : List Value} (h : VR r c v) (k : VRs r cs vs) : VRs r (c :: cs) (v :: vs) := VRs.cons h k
end Go.Ev
