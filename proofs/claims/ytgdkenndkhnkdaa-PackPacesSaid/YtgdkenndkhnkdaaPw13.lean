/-
  What is handed in, as plain data; from a law over plain data to its row.
-/
import Derived.Test.YtgdkenndkhnkdaaPw12
import Derived.Test.YtgdkenndkhnkdaaLift
import Derived.OpenShut
set_option linter.unusedSectionVars false
set_option linter.unusedSimpArgs false
set_option linter.unusedVariables false
namespace Go.Sh
variable [Laid]
open Go.ChangeShapes Go.WideShapes Go.ChangeAt Go.RowKit
theorem CellsOk.same {Z : Nat → Prop} {H : Heap} : ∀ (ks : List Kd) (x : Tp ks) (f g : Nat → Option Value), (∀ j, j < ks.length → f j = g j) → CellsOk Z H ks x f → CellsOk Z H ks x g
  | [], _, _, _, _, _ => by simp only [CellsOk]
  | k :: ks, x, f, g, h, hc => by
    simp only [CellsOk] at hc ⊢
    obtain ⟨⟨v, hv, ho⟩, hr⟩ := hc
    exact ⟨⟨v, by rw [← h 0 (by simp)]; exact hv, ho⟩, CellsOk.same ks _ _ _ (fun j hj => h (j + 1) (by simp; omega)) hr⟩
abbrev alive (H : Heap) : Nat → Prop := fun b => H b ≠ none
end Go.Sh
