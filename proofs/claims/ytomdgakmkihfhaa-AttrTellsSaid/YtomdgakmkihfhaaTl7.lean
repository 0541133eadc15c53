/-
  The law's end: numbers are raised in the copy, and compared.
-/
import Derived.Test.YtomdgakmkihfhaaTl6
set_option linter.all false
set_option maxRecDepth 100000
namespace Go.Proofs.Ytomdgakmkihfhaa
open Go.Sh

/-- A cell was written. -/
structure Wr (Hx Hy : Heap) (b o : Nat) (v : Value) : Prop where
  same : ∀ m, m ≠ b → Hy m = Hx m
  blk : ∃ T c, Blk Hy b T c
  here : Hy.cell ⟨b, o, none⟩ = some v
  off : ∀ b' o', ¬ (b' = b ∧ o' = o) → Hy.cell ⟨b', o', none⟩ = Hx.cell ⟨b', o', none⟩
theorem wr_num {Hx : Heap} {b o : Nat} {kd : IntKind} {v w : Int} {K : Heap → Prop} (hb : ∃ T c, Blk Hx b T c) (hv : Hx.cell ⟨b, o, none⟩ = some (.int kd v)) (hk : ∀ Hy, Wr Hx Hy b o (.int kd w) → K Hy) : StCell Hx ⟨b, o, none⟩ (.int kd w) K := by
  obtain ⟨T, c, hb⟩ := hb
  have hc := hb.cell o
  rw [hv] at hc
  have ho : o < c.size := by
    rcases Nat.lt_or_ge o c.size with h | h
    · exact h
    · rw [Array.getElem?_eq_none h] at hc; cases hc
  refine StCell.blk hb ho rfl (hk _ ⟨fun m hm => Sh.upd_ne hm, ⟨T, _, Blk.upd_eq⟩, ?_, fun b' o' hne => ?_⟩)
  · have hb2 : Blk (Hx.upd b (.cells (c.setIfInBounds o (.int kd w)) T (0, 0))) b T (c.setIfInBounds o (.int kd w)) := Blk.upd_eq
    rw [hb2.cell]
    simp [Array.getElem?_setIfInBounds, ho]
  · by_cases e : b' = b
    · subst e
      have hb2 : Blk (Hx.upd b' (.cells (c.setIfInBounds o (.int kd w)) T (0, 0))) b' T (c.setIfInBounds o (.int kd w)) := Blk.upd_eq
      rw [hb2.cell, hb.cell, Array.getElem?_setIfInBounds_ne (fun e => hne ⟨rfl, e.symm⟩)]
    · unfold Heap.cell
      simp only [Sh.upd_ne e]
theorem wrap_up32 (n : Int) : IntKind.wrap .u32 (IntKind.wrap .u32 n + 1) = IntKind.wrap .u32 (n + 1) := by
  rw [wr_u32, wr_u32, wr_u32]; omega
theorem wrap_up8 (n : Int) : IntKind.wrap .u8 (IntKind.wrap .u8 n + 1) = IntKind.wrap .u8 (n + 1) := by
  rw [wr_u8, wr_u8, wr_u8]; omega
/-- A number, raised so often. -/
def Up (H : Heap) (b o : Nat) (kd : IntKind) (x l h : Nat) : Prop := ∃ k : Nat, l ≤ k ∧ k ≤ h ∧ H.cell ⟨b, o, none⟩ = some (.int kd (IntKind.wrap kd ((x + k : Nat) : Int)))
theorem Up.other {Hx Hy : Heap} {b o b' o' : Nat} {kd kd' : IntKind} {x l h : Nat} {w u : Int} (hw : Wr Hx Hy b o (.int kd w)) (hu : Hx.cell ⟨b, o, none⟩ = some (.int kd u)) (hne : kd' ≠ kd) (hp : Up Hx b' o' kd' x l h) : Up Hy b' o' kd' x l h := by
  obtain ⟨k, h1, h2, h3⟩ := hp
  refine ⟨k, h1, h2, ?_⟩
  rw [hw.off b' o' fun e => ?_]
  · exact h3
  · obtain ⟨rfl, rfl⟩ := e
    rw [hu] at h3
    simp only [Option.some.injEq, Value.int.injEq] at h3
    exact hne h3.1.symm
theorem Up.self32 {Hx Hy : Heap} {b o x l h : Nat} {u : Int} (hw : Wr Hx Hy b o (.int .u32 (IntKind.wrap .u32 (u + 1)))) (hu : Hx.cell ⟨b, o, none⟩ = some (.int .u32 u)) (hp : Up Hx b o .u32 x l h) : Up Hy b o .u32 x (l + 1) (h + 1) := by
  obtain ⟨k, h1, h2, h3⟩ := hp
  rw [hu] at h3
  simp only [Option.some.injEq, Value.int.injEq, true_and] at h3
  subst h3
  refine ⟨k + 1, by omega, by omega, ?_⟩
  rw [hw.here, wrap_up32]
  rfl
theorem Up.self8 {Hx Hy : Heap} {b o x l h : Nat} {u : Int} (hw : Wr Hx Hy b o (.int .u8 (IntKind.wrap .u8 (u + 1)))) (hu : Hx.cell ⟨b, o, none⟩ = some (.int .u8 u)) (hp : Up Hx b o .u8 x l h) : Up Hy b o .u8 x (l + 1) (h + 1) := by
  obtain ⟨k, h1, h2, h3⟩ := hp
  rw [hu] at h3
  simp only [Option.some.injEq, Value.int.injEq, true_and] at h3
  subst h3
  refine ⟨k + 1, by omega, by omega, ?_⟩
  rw [hw.here, wrap_up8]
  rfl
theorem Up.any32 {Hx Hy : Heap} {b o b' o' x l h : Nat} {u : Int} (hw : Wr Hx Hy b o (.int .u32 (IntKind.wrap .u32 (u + 1)))) (hu : Hx.cell ⟨b, o, none⟩ = some (.int .u32 u)) (hp : Up Hx b' o' .u32 x l h) : Up Hy b' o' .u32 x l (h + 1) := by
  by_cases e : b' = b ∧ o' = o
  · obtain ⟨rfl, rfl⟩ := e
    obtain ⟨k, h1, h2, h3⟩ := Up.self32 hw hu hp
    exact ⟨k, by omega, h2, h3⟩
  · obtain ⟨k, h1, h2, h3⟩ := hp
    exact ⟨k, h1, by omega, by rw [hw.off b' o' e]; exact h3⟩
theorem Up.weak {H : Heap} {b o : Nat} {kd : IntKind} {x l h l' h' : Nat} (hp : Up H b o kd x l h) (h1 : l' ≤ l) (h2 : h ≤ h') : Up H b o kd x l' h' := by
  obtain ⟨k, q1, q2, q3⟩ := hp
  exact ⟨k, by omega, by omega, q3⟩
theorem cell_int {Hx Hy : Heap} {b o b' o' : Nat} {kd : IntKind} {w u : Int} {v : Value} (hw : Wr Hx Hy b o (.int kd w)) (hu : Hx.cell ⟨b, o, none⟩ = some (.int kd u)) (hv : Hx.cell ⟨b', o', none⟩ = some v) (hn : ∀ k n, v ≠ .int k n) : Hy.cell ⟨b', o', none⟩ = some v := by
  rw [hw.off b' o' fun e => ?_]
  · exact hv
  · obtain ⟨rfl, rfl⟩ := e
    rw [hu] at hv
    cases hv
    exact hn _ _ rfl

/-- A member of a row of one cell. -/
theorem at_one {Z : Nat → Prop} {H : Heap} {k : Kd} {xs : List (Tp [k])} {a : Option Addr} {n c : Nat} (h : CellOk Z H (.lst [k]) xs (.slice a n c)) {i : Nat} {x : Tp [k]} (hx : xs[i]? = some x) :
    ∃ b o v, a = some ⟨b, o, none⟩ ∧ Z b ∧ H.cell ⟨b, o + i * 1, none⟩ = some v ∧ CellOk Z H k (hdT [] x) v := by
  have hi : i < xs.length := (List.getElem?_eq_some_iff.1 hx).1
  obtain ⟨rfl, _, _⟩ := lst_len h
  simp only [CellOk] at h
  obtain ⟨a', n', c', e, _, _, _, h5⟩ := h
  cases e
  obtain ⟨b, o, rfl, hz, cs, T, fr, hb, hc⟩ := h5 (by omega)
  have := hc i x hx
  simp only [CellsOk, and_true] at this
  obtain ⟨v, h1, h2⟩ := this
  refine ⟨b, o, v, rfl, hz, ?_, h2⟩
  simp only [Heap.cell, hb]; exact h1

/-- Towards the end. -/
structure End (H Hx : Heap) (a2 c5 : Nat) (a : Attrs) (Za Zc : Nat → Prop) (pa : Option Addr) (pn pc : Nat) (ca : Option Addr) (cn cc : Nat) (oa : Option Addr) (on oc : Nat) (pa' : Option Addr) (pn' pc' : Nat) (ca' : Option Addr) (cn' cc' : Nat) (oa' : Option Addr) (on' oc' : Nat) (l1 h1 l2 h2 l3 h3 : Nat) : Prop where
  kp : Keep Nil H Hx
  A : Blk Hx a2 T_api_Attrs ⟨attG a pa pn pc ca cn cc oa on oc⟩
  C : Blk Hx c5 T_api_Attrs ⟨attG a pa' pn' pc' ca' cn' cc' oa' on' oc'⟩
  P : Parts Za Hx a pa pn pc ca cn cc oa on oc
  za : ∀ m, Za m → Hx m ≠ none
  zc : ∀ m, Zc m → H m = none ∧ ¬ Za m ∧ m ≠ a2 ∧ m ≠ c5 ∧ ∃ T c, Blk Hx m T c
  n1 : cn' = a.comms.length
  n2 : pn' = a.path.length
  n3 : on' = a.others.length
  c1 : ∀ x t, a.comms = x :: t → ∃ b o, ca' = some ⟨b, o, none⟩ ∧ Zc b ∧ Up Hx b o .u32 x.toNat l1 h1
  c2 : ∀ s t, a.path = s :: t → ∃ b o sa sn sc, pa' = some ⟨b, o, none⟩ ∧ Hx.cell ⟨b, o + 1, none⟩ = some (.slice sa sn sc) ∧ sn = s.2.length ∧ ∀ x r, s.2 = x :: r → ∃ sb so, sa = some ⟨sb, so, none⟩ ∧ Zc sb ∧ Up Hx sb so .u32 x.toNat l2 h2
  c3 : ∀ s t, a.others = s :: t → ∃ b o sa sn sc, oa' = some ⟨b, o, none⟩ ∧ Hx.cell ⟨b, o + 1, none⟩ = some (.slice sa sn sc) ∧ sn = s.2.length ∧ ∀ x r, s.2 = x :: r → ∃ sb so, sa = some ⟨sb, so, none⟩ ∧ Zc sb ∧ Up Hx sb so .u8 x.toNat l3 h3

section
variable {H Hx : Heap} {a2 c5 : Nat} {a : Attrs} {Za Zc : Nat → Prop} {pa : Option Addr} {pn pc : Nat} {ca : Option Addr} {cn cc : Nat} {oa : Option Addr} {on oc : Nat} {pa' : Option Addr} {pn' pc' : Nat} {ca' : Option Addr} {cn' cc' : Nat} {oa' : Option Addr} {on' oc' : Nat} {l1 h1 l2 h2 l3 h3 : Nat}
theorem End.wr (e : End H Hx a2 c5 a Za Zc pa pn pc ca cn cc oa on oc pa' pn' pc' ca' cn' cc' oa' on' oc' l1 h1 l2 h2 l3 h3) {Hy : Heap} {b o : Nat} {v : Value} (hb : Zc b) (hw : Wr Hx Hy b o v) :
    Keep Nil H Hy ∧ Blk Hy a2 T_api_Attrs ⟨attG a pa pn pc ca cn cc oa on oc⟩ ∧ Blk Hy c5 T_api_Attrs ⟨attG a pa' pn' pc' ca' cn' cc' oa' on' oc'⟩ ∧ Parts Za Hy a pa pn pc ca cn cc oa on oc ∧ (∀ m, Za m → Hy m ≠ none) ∧ ∀ m, Zc m → H m = none ∧ ¬ Za m ∧ m ≠ a2 ∧ m ≠ c5 ∧ ∃ T c, Blk Hy m T c := by
  obtain ⟨f, nz, na, nc, _⟩ := e.zc b hb
  have k : Keep (fun m => m = b) Hx Hy := ⟨fun m hm _ => hw.same m hm, fun m hm => by
    by_cases he : m = b
    · subst he
      obtain ⟨T, c, h⟩ := hw.blk
      exact h.some
    · rw [hw.same m he]; exact hm⟩
  have zb : ∀ m, Za m → m ≠ b := fun m hm he => nz (he ▸ hm)
  refine ⟨keep0 e.kp k fun m hm => by subst hm; exact f, e.A.same (hw.same _ (Ne.symm na)), e.C.same (hw.same _ (Ne.symm nc)), e.P.ext fun m hm => ⟨hm, hw.same m (zb m hm)⟩, fun m hm => k.live m (e.za m hm), fun m hm => ?_⟩
  obtain ⟨q1, q2, q3, q4, T, c, q5⟩ := e.zc m hm
  refine ⟨q1, q2, q3, q4, ?_⟩
  by_cases he : m = b
  · subst he; exact hw.blk
  · exact ⟨T, c, q5.same (hw.same m he)⟩
end

end Go.Proofs.Ytomdgakmkihfhaa
