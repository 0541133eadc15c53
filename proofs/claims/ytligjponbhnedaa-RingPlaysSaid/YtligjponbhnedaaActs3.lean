/-
  A slice of acts of law 03 that is handed in: what its cells hold.
-/
import Derived.Test.YtligjponbhnedaaLaw3f
import Derived.Test.YtligjponbhnedaaLift
import Derived.Deep.Slices
set_option maxRecDepth 100000
namespace Go.Proofs.Ytligjponbhnedaa
open Go.Sh Go.ChangeShapes Go.WideShapes Go.ChangeAt Go.RowKit

theorem und_bool3 : Try.prog.underlying T_bool = some .bool := by kernel_rfl
theorem und_int3 : Try.prog.underlying T_int = some (.int .i64) := by kernel_rfl
theorem und_sl_Act3 : Try.prog.underlying T_sl_pointsmanlaw03_Act = some (.slice T_law03_Act) := by kernel_rfl
theorem cells_uint83 : Try.prog.cellsOf T_uint8 = 1 := by kernel_rfl
theorem cells_int3 : Try.prog.cellsOf T_int = 1 := by kernel_rfl
theorem cells_bool3 : Try.prog.cellsOf T_bool = 1 := by kernel_rfl
theorem cells_Handle3 : Try.prog.cellsOf T_pool_Handle = 2 := by kernel_rfl
theorem cells_slu83 : Try.prog.cellsOf T_sl_uint8 = 1 := by kernel_rfl
theorem cells_Act3 : Try.prog.cellsOf T_law03_Act = 4 := by kernel_rfl

theorem open_acts3 {H : Type} {enc : TypeId × Value → H} {W : World} {base : Nat} {v : Value} {d : DataW H} {ps : List MemPlace}
    (hval : Value.okWide Try.prog W .any base T_sl_pointsmanlaw03_Act v) (h : DataW.Trod enc Try.prog W 0 (fun _ => true) true T_sl_pointsmanlaw03_Act v d ps) :
    ∃ (a : Option Addr) (n c : Nat), v = .slice a n c ∧ n ≤ c ∧ IsActs3 (hp W) a n := by
  obtain ⟨a0, n0, c0, rfl⟩ := okWide_slice und_sl_Act3 hval
  obtain ⟨fuel, h⟩ := h
  rcases Go.Deep.open_slice und_sl_Act3 h with ⟨h1, _⟩ | ⟨a, len, cap, m, n', D, Pl, h1, _, hlc, _, hm, _, hel⟩
  · simp only [Value.cells, List.cons.injEq, and_true] at h1
    cases h1
    exact ⟨_, _, _, rfl, Nat.le_refl _, fun i hi => by omega⟩
  · simp only [Value.cells, List.cons.injEq, and_true] at h1
    cases h1
    simp only [if_true] at hm
    subst hm
    refine ⟨_, _, _, rfl, hlc, fun i hi => ?_⟩
    obtain ⟨cs, hcs, htr⟩ := hel i (by omega)
    rw [cells_Act3] at hcs
    obtain ⟨_, hl, hcell⟩ := World.cells?_some hcs
    obtain ⟨xs, n1, _, _, _, hxl, hf⟩ := DataW.trod_struct Try.underlying83 htr
    have get : ∀ (k : Nat) (f : Field), k < 3 → (#[{ name := "Do", type := 3, offset := 0, embedded := false, tag := "", pkgPath := "", byteOffset := 0 },
        { name := "H", type := 30, offset := 1, embedded := false, tag := "", pkgPath := "", byteOffset := 8 },
        { name := "B", type := 22, offset := 3, embedded := false, tag := "", pkgPath := "", byteOffset := 24 }] : Array Field)[k]? = some f → ∃ x, DataW.trod enc Try.prog W 0 (fun _ => true) true n1 f.type ((cs.drop f.offset).take (Try.prog.cellsOf f.type)) = some x := by
      intro k f hk he
      refine ⟨xs[k]'(by rw [hxl]; exact hk), ?_⟩
      rw [hf k f he]
      exact List.getElem?_eq_getElem _
    obtain ⟨_, g0⟩ := get 0 _ (by omega) rfl
    obtain ⟨_, g3⟩ := get 1 _ (by omega) rfl
    obtain ⟨_, g4⟩ := get 2 _ (by omega) rfl
    obtain ⟨do_, e0, _, _⟩ := DataW.trod_int und_int3 g0
    obtain ⟨y0, y1, n2, _, _, g30, g31⟩ := trod_struct2 Try.underlying30 g3
    obtain ⟨hn, e3, _, _⟩ := DataW.trod_int und_int3 g30
    obtain ⟨ht, e4, _, _⟩ := DataW.trod_int und_int3 g31
    obtain ⟨ba, bn, bc, bs, e5, hbl, _, hbs⟩ := trod_bytes und_sl_uint8 und_uint8 cells_uint83 g4
    replace e0 := take_one (o := 0) (by rw [← cells_int3]; exact e0)
    replace e5 := take_one (o := 3) (by rw [← cells_slu83]; exact e5)
    have e3' := take_one (l := (cs.drop 1).take 2) (o := 0) (by rw [← cells_int3]; exact e3)
    have e4' := take_one (l := (cs.drop 1).take 2) (o := 1) (by rw [← cells_int3]; exact e4)
    rw [List.getElem?_take_of_lt (by omega), List.getElem?_drop] at e3' e4'
    have hc : ∀ j, j < 4 → ∀ u, cs[j]? = some u → W.cell? ((a.add (i * 4)).add j) = some u := fun j hj u hu => by rw [hcell j hj]; exact hu
    obtain ⟨cs', hcs', _⟩ := hel 0 (by omega)
    rw [cells_Act3] at hcs'
    obtain ⟨_, hl', hcell'⟩ := World.cells?_some hcs'
    have s0 := hcell' 0 (by omega)
    rw [List.getElem?_eq_getElem (by omega)] at s0
    obtain ⟨hsp, _⟩ := cell_spot (H := hp W) s0
    obtain ⟨b, o, sp⟩ := a
    replace hsp : sp = none := by simpa [Addr.add] using hsp
    subst hsp
    have hc' : ∀ j, j < 4 → ∀ u, cs[j]? = some u → (hp W).cell ⟨b, o + i * 4 + j, none⟩ = some u := fun j hj u hu => by
      have ea : ((⟨b, o, none⟩ : Addr).add (i * 4)).add j = ⟨b, o + i * 4 + j, none⟩ := by
        rw [add_of_spot (a := ⟨b, o, none⟩) rfl (i * 4)]
        exact add_of_spot rfl j
      rw [hp_cell, ← hc j hj u hu, ea]
    exact ⟨b, o, rfl, do_, hn, ht, ba, bn, bc, bs, hc' 0 (by omega) _ e0, hc' 1 (by omega) _ e3', hc' 2 (by omega) _ e4', hc' 3 (by omega) _ e5, hbs, hbl⟩

end Go.Proofs.Ytligjponbhnedaa
