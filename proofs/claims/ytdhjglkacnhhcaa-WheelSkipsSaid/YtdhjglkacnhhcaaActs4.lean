/-
  A slice of acts of law 04 that is handed in: what its cells hold.
-/
import Derived.Test.YtdhjglkacnhhcaaWhI
import Derived.Test.YtdhjglkacnhhcaaSortI
import Derived.Test.YtdhjglkacnhhcaaLift
import Derived.Deep.Slices
set_option linter.all false
set_option maxRecDepth 100000
namespace Go.Proofs.Ytdhjglkacnhhcaa
open Go.Sh Go.Wheel Go.ChangeShapes Go.WideShapes Go.ChangeAt Go.RowKit

theorem und_bool4 : Try.prog.underlying T_bool = some .bool := by kernel_rfl
theorem und_sl_Act4 : Try.prog.underlying T_sl_pointsmanlaw04_Act = some (.slice T_law04_Act) := by kernel_rfl
theorem und_Act4 : Try.prog.underlying T_law04_Act = some (.struct #[⟨ "Do", 3, 0, false, "", "", 0⟩, ⟨ "Key", 3, 1, false, "", "", 8⟩, ⟨ "N", 3, 2, false, "", "", 16⟩]) := by kernel_rfl
theorem cells_int4 : Try.prog.cellsOf T_int = 1 := by kernel_rfl
theorem cells_Act4 : Try.prog.cellsOf T_law04_Act = 3 := by kernel_rfl

theorem open_acts4 {H : Type} {enc : TypeId × Value → H} {W : World} {base : Nat} {v : Value} {d : DataW H} {ps : List MemPlace}
    (hval : Value.okWide Try.prog W .any base T_sl_pointsmanlaw04_Act v) (h : DataW.Trod enc Try.prog W 0 (fun _ => true) true T_sl_pointsmanlaw04_Act v d ps) :
    ∃ (a : Option Addr) (n c : Nat), v = .slice a n c ∧ IsActs (hp W) a n := by
  obtain ⟨a0, n0, c0, rfl⟩ := okWide_slice und_sl_Act4 hval
  obtain ⟨fuel, h⟩ := h
  rcases Go.Deep.open_slice und_sl_Act4 h with ⟨h1, _⟩ | ⟨a, len, cap, m, n', D, Pl, h1, _, hlc, _, hm, _, hel⟩
  · simp only [Value.cells, List.cons.injEq, and_true] at h1
    cases h1
    exact ⟨_, _, _, rfl, fun i hi => by omega⟩
  · simp only [Value.cells, List.cons.injEq, and_true] at h1
    cases h1
    simp only [if_true] at hm
    subst hm
    refine ⟨_, _, _, rfl, fun i hi => ?_⟩
    obtain ⟨cs, hcs, htr⟩ := hel i (by omega)
    rw [cells_Act4] at hcs
    obtain ⟨_, hl, hcell⟩ := World.cells?_some hcs
    obtain ⟨xs, n1, _, _, hl2, hxl, hf⟩ := DataW.trod_struct und_Act4 htr
    have get : ∀ (k : Nat) (f : Field), k < 3 → (#[⟨ "Do", 3, 0, false, "", "", 0⟩, ⟨ "Key", 3, 1, false, "", "", 8⟩, ⟨ "N", 3, 2, false, "", "", 16⟩] : Array Field)[k]? = some f → ∃ x, DataW.trod enc Try.prog W 0 (fun _ => true) true n1 f.type ((cs.drop f.offset).take (Try.prog.cellsOf f.type)) = some x := by
      intro k f hk he
      refine ⟨xs[k]'(by rw [hxl]; exact hk), ?_⟩
      rw [hf k f he]
      exact List.getElem?_eq_getElem _
    obtain ⟨_, g0⟩ := get 0 _ (by omega) rfl
    obtain ⟨_, g1⟩ := get 1 _ (by omega) rfl
    obtain ⟨_, g2⟩ := get 2 _ (by omega) rfl
    obtain ⟨d0, e0, _, _⟩ := DataW.trod_int und_int g0
    obtain ⟨d1, e1, _, _⟩ := DataW.trod_int und_int g1
    obtain ⟨d2, e2, _, _⟩ := DataW.trod_int und_int g2
    have one : ∀ {o : Nat} {x : Value}, (cs.drop o).take (Try.prog.cellsOf T_int) = [x] → cs[o]? = some x := by
      intro o x h
      rw [cells_int4] at h
      exact take_one h
    have f0 := one e0
    have f1 := one e1
    have f2 := one e2
    obtain ⟨cs', hcs', _⟩ := hel 0 (by omega)
    rw [cells_Act4] at hcs'
    obtain ⟨_, hl', hcell'⟩ := World.cells?_some hcs'
    have s0 := hcell' 0 (by omega)
    rw [List.getElem?_eq_getElem (by omega)] at s0
    obtain ⟨hsp, _⟩ := cell_spot (H := hp W) s0
    obtain ⟨b, o, sp⟩ := a
    replace hsp : sp = none := by simpa [Addr.add] using hsp
    subst hsp
    have hc' : ∀ j, j < 3 → ∀ u, cs[j]? = some u → (hp W).cell ⟨b, o + i * 3 + j, none⟩ = some u := fun j hj u hu => by
      have ea : ((⟨b, o, none⟩ : Addr).add (i * 3)).add j = ⟨b, o + i * 3 + j, none⟩ := by
        rw [add_of_spot (a := ⟨b, o, none⟩) rfl (i * 3)]
        exact add_of_spot rfl j
      rw [hp_cell, ← ea, hcell j hj]
      exact hu
    exact ⟨b, o, rfl, d0, d1, d2, hc' 0 (by omega) _ f0, hc' 1 (by omega) _ f1, hc' 2 (by omega) _ f2⟩
end Go.Proofs.Ytdhjglkacnhhcaa
