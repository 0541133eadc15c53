/-
  Copies of attributes over the heap: what is held.
-/
import Derived.Test.YtomdgakmkihfhaaTl1
set_option linter.all false
set_option maxRecDepth 100000
namespace Go.Proofs.Ytomdgakmkihfhaa
open Go.Sh

def attG (a : Attrs) (pa : Option Addr) (pn pc : Nat) (ca : Option Addr) (cn cc : Nat) (oa : Option Addr) (on oc : Nat) : List Value :=
  [.int .i64 a.origin, .slice pa pn pc, .int .u32 (a.next.toNat : Int), .bool a.hasMed, .int .u32 (a.med.toNat : Int), .bool a.hasLocal, .int .u32 (a.loc.toNat : Int), .bool a.atomic, .bool a.hasMaker, .int .u32 (a.makerAS.toNat : Int), .int .u32 (a.maker.toNat : Int), .slice ca cn cc, .slice oa on oc]
def zrA : List Value := [.int .i64 0, .slice none 0 0, .int .u32 0, .bool false, .int .u32 0, .bool false, .int .u32 0, .bool false, .bool false, .int .u32 0, .int .u32 0, .slice none 0 0, .slice none 0 0]
/-- Where the lists of attributes lie. -/
structure Parts (Z : Nat → Prop) (H : Heap) (a : Attrs) (pa : Option Addr) (pn pc : Nat) (ca : Option Addr) (cn cc : Nat) (oa : Option Addr) (on oc : Nat) : Prop where
  o : InR .i64 a.origin
  p : CellOk Z H kSegs a.path (.slice pa pn pc)
  c : CellOk Z H kU32 a.comms (.slice ca cn cc)
  r : CellOk Z H (.lst ksRaw) a.others (.slice oa on oc)
theorem Parts.ext {Z Z' : Nat → Prop} {H H' : Heap} (h : ∀ b, Z b → Z' b ∧ H' b = H b) {a : Attrs} {pa pn pc ca cn cc oa on oc} (p : Parts Z H a pa pn pc ca cn cc oa on oc) : Parts Z' H' a pa pn pc ca cn cc oa on oc :=
  ⟨p.o, CellOk.ext h _ _ _ p.p, CellOk.ext h _ _ _ p.c, CellOk.ext h _ _ _ p.r⟩
theorem lst_len {Z : Nat → Prop} {H : Heap} {ks : List Kd} {xs : List (Tp ks)} {a : Option Addr} {n c : Nat} (h : CellOk Z H (.lst ks) xs (.slice a n c)) : n = xs.length ∧ n ≤ c ∧ c ≤ lenMax := by
  simp only [CellOk] at h
  obtain ⟨a', n', c', e, h1, h2, h3, _⟩ := h
  cases e
  exact ⟨h1.symm, h2, h3⟩
theorem lst_slice {Z : Nat → Prop} {H : Heap} {ks : List Kd} {xs : El (.lst ks)} {v : Value} (h : CellOk Z H (.lst ks) xs v) : ∃ a n c, v = .slice a n c := by
  simp only [CellOk] at h
  obtain ⟨a, n, c, rfl, _⟩ := h
  exact ⟨a, n, c, rfl⟩
theorem sim_open {Z : Nat → Prop} {H : Heap} {a : Attrs} {vs : List Value} (h : SimL (gZ Z) H 0 (lvT ksAt a) vs) : ∃ pa pn pc ca cn cc oa on oc, vs = attG a pa pn pc ca cn cc oa on oc ∧ Parts Z H a pa pn pc ca cn cc oa on oc := by
  obtain ⟨origin, path, nxt, hasMed, med, hasLocal, loc, atomic, hasMaker, makerAS, maker, comms, others⟩ := a
  have h : SimL (gZ Z) H 0 [.int .i64 origin, .lst [Kd.bool, Kd.lst [Kd.int .u32]] path, .int .u32 (nxt.toNat : Int), .bool hasMed, .int .u32 (med.toNat : Int), .bool hasLocal, .int .u32 (loc.toNat : Int), .bool atomic, .bool hasMaker, .int .u32 (makerAS.toNat : Int), .int .u32 (maker.toNat : Int), .lst [Kd.int .u32] comms, .lst [Kd.int .i64, Kd.lst [Kd.int .u8]] others] vs := h
  match vs, h with
  | [v0, v1, v2, v3, v4, v5, v6, v7, v8, v9, v10, v11, v12], h =>
  simp only [SimL, SimV, and_true] at h
  obtain ⟨⟨rfl, ho⟩, hp, ⟨rfl, _⟩, rfl, ⟨rfl, _⟩, rfl, ⟨rfl, _⟩, rfl, rfl, ⟨rfl, _⟩, ⟨rfl, _⟩, hc, hr⟩ := h
  obtain ⟨pa, pn, pc, rfl⟩ := lst_slice hp
  obtain ⟨ca, cn, cc, rfl⟩ := lst_slice hc
  obtain ⟨oa, on, oc, rfl⟩ := lst_slice hr
  exact ⟨pa, pn, pc, ca, cn, cc, oa, on, oc, rfl, ho, hp, hc, hr⟩
theorem sim_close {Z : Nat → Prop} {H : Heap} {a : Attrs} {pa pn pc ca cn cc oa on oc} (h : Parts Z H a pa pn pc ca cn cc oa on oc) : SimL (gZ Z) H 0 (lvT ksAt a) (attG a pa pn pc ca cn cc oa on oc) := by
  obtain ⟨origin, path, nxt, hasMed, med, hasLocal, loc, atomic, hasMaker, makerAS, maker, comms, others⟩ := a
  show SimL (gZ Z) H 0 [.int .i64 origin, .lst [Kd.bool, Kd.lst [Kd.int .u32]] path, .int .u32 (nxt.toNat : Int), .bool hasMed, .int .u32 (med.toNat : Int), .bool hasLocal, .int .u32 (loc.toNat : Int), .bool atomic, .bool hasMaker, .int .u32 (makerAS.toNat : Int), .int .u32 (maker.toNat : Int), .lst [Kd.int .u32] comms, .lst [Kd.int .i64, Kd.lst [Kd.int .u8]] others] _
  simp only [attG, SimL, SimV]
  exact ⟨⟨trivial, h.o⟩, h.p, ⟨trivial, inr32 _⟩, trivial, ⟨trivial, inr32 _⟩, trivial, ⟨trivial, inr32 _⟩, trivial, trivial, ⟨trivial, inr32 _⟩, ⟨trivial, inr32 _⟩, h.c, h.r, trivial⟩

/-- Within a copy. -/
structure Cp (H Hx : Heap) (a1 x2 b3 : Nat) (Z : Nat → Prop) (Ts : List TypeId) (av bv : List Value) : Prop where
  keep : Keep Nil H Hx
  new : NewZ H Hx Z Ts
  A : Blk Hx a1 T_api_Attrs ⟨av⟩
  X : Blk Hx x2 T_api_Attrs ⟨zrA⟩
  B : Blk Hx b3 T_api_Attrs ⟨bv⟩
  fa : H a1 = none
  fx : H x2 = none
  fb : H b3 = none
  n1 : a1 ≠ b3
  n2 : x2 ≠ b3
section
variable {H Hx : Heap} {a1 x2 b3 : Nat} {Z : Nat → Prop} {Ts : List TypeId} {av bv : List Value}
theorem Cp.step (h : Cp H Hx a1 x2 b3 Z Ts av bv) {S : Nat → Prop} {Hy : Heap} (k : Keep S Hx Hy) (hS : ∀ m, S m → H m = none ∧ ¬ Z m ∧ ∃ T c, Blk Hx m T c ∧ T ≠ T_api_Attrs) : Cp H Hy a1 x2 b3 Z Ts av bv := by
  have ns : ∀ {m c}, Blk Hx m T_api_Attrs c → ¬ S m := fun {m c} hb hs => by
    obtain ⟨_, _, T, c', hb', hne⟩ := hS m hs
    exact hne (blk_ty hb' hb)
  exact ⟨keep0 h.keep k fun m hm => (hS m hm).1, h.new.keep k fun m hm hs => (hS m hs).2.1 hm, k.blk h.A (ns h.A), k.blk h.X (ns h.X), k.blk h.B (ns h.B), h.fa, h.fx, h.fb, h.n1, h.n2⟩
theorem Cp.kept (h : Cp H Hx a1 x2 b3 Z Ts av bv) {Hy : Heap} (k : Keep Nil Hx Hy) : Cp H Hy a1 x2 b3 Z Ts av bv := h.step k fun _ h => h.elim
theorem Cp.more (h : Cp H Hx a1 x2 b3 Z Ts av bv) {Z' : Nat → Prop} (hn : NewZ H Hx Z' Ts) : Cp H Hx a1 x2 b3 (fun m => Z m ∨ Z' m) Ts av bv := { h with new := h.new.both hn }
theorem Cp.live (h : Cp H Hx a1 x2 b3 Z Ts av bv) : ∀ m, Z m → Hx m ≠ none := fun m hm => (h.new.fresh m hm).2.1
theorem Cp.notB (h : Cp H Hx a1 x2 b3 Z Ts av bv) (hT : T_api_Attrs ∉ Ts) : ¬ Z b3 := fun hz => by
  obtain ⟨_, T, c, hb, hm⟩ := h.new b3 hz
  exact hT (blk_ty hb h.B ▸ hm)
theorem Cp.set (h : Cp H Hx a1 x2 b3 Z Ts av bv) (hT : T_api_Attrs ∉ Ts) {j : Nat} {v : Value} {K : Heap → Prop} (hj : j < bv.length) (hv : plainC v = true) (hk : ∀ Hy, Cp H Hy a1 x2 b3 Z Ts av (bv.set j v) → Keep (fun m => m = b3) Hx Hy → K Hy) : StCell Hx ⟨b3, j, none⟩ v K := by
  refine StCell.blk h.B (by simpa using hj) hv ?_
  have e : (⟨bv⟩ : Array Value).setIfInBounds j v = ⟨bv.set j v⟩ := by apply Array.ext'; simp
  rw [e]
  have hb : Blk (Hx.upd b3 (.cells ⟨bv.set j v⟩ T_api_Attrs (0, 0))) b3 T_api_Attrs ⟨bv.set j v⟩ := Blk.upd_eq
  have ho : ∀ y, y ≠ b3 → (Hx.upd b3 (.cells ⟨bv.set j v⟩ T_api_Attrs (0, 0))) y = Hx y := fun y hy => Sh.upd_ne hy
  generalize Hx.upd b3 (.cells ⟨bv.set j v⟩ T_api_Attrs (0, 0)) = Hy at hb ho
  have k := keep_box hb ho
  exact hk Hy ⟨keep0 h.keep k fun m hm => by subst hm; exact h.fb, h.new.keep k fun m hm e => by subst e; exact h.notB hT hm, k.blk h.A h.n1, k.blk h.X h.n2, hb, h.fa, h.fx, h.fb, h.n1, h.n2⟩ k
end

/-- The i-th member of rows of two cells. -/
theorem at_two {Z : Nat → Prop} {H : Heap} {k1 k2 : Kd} {xs : List (Tp [k1, k2])} {a : Option Addr} {n c : Nat} (h : CellOk Z H (.lst [k1, k2]) xs (.slice a n c)) {i : Nat} {x : Tp [k1, k2]} (hx : xs[i]? = some x) :
    ∃ b o v w, a = some ⟨b, o, none⟩ ∧ Z b ∧ H.cell ⟨b, o + i * 2, none⟩ = some v ∧ CellOk Z H k1 (hdT [k2] x) v ∧ H.cell ⟨b, o + i * 2 + 1, none⟩ = some w ∧ CellOk Z H k2 (hdT [] (tlT [k2] x)) w := by
  have hi : i < xs.length := (List.getElem?_eq_some_iff.1 hx).1
  obtain ⟨rfl, _, _⟩ := lst_len h
  simp only [CellOk] at h
  obtain ⟨a', n', c', e, _, _, _, h5⟩ := h
  cases e
  obtain ⟨b, o, rfl, hz, cs, T, fr, hb, hc⟩ := h5 (by omega)
  have := hc i x hx
  simp only [CellsOk, and_true] at this
  obtain ⟨⟨v, h1, h2⟩, w, h3, h4⟩ := this
  refine ⟨b, o, v, w, rfl, hz, ?_, h2, ?_, h4⟩
  · simp only [Heap.cell, hb]; exact h1
  · simp only [Heap.cell, hb]; exact h3
theorem two_ok {Z : Nat → Prop} {H : Heap} {k1 k2 : Kd} {xs : List (Tp [k1, k2])} {new : List Value} {x : Tp [k1, k2]} {v w : Value} (hl : new.length = xs.length * 2) (h : ∀ i r, xs[i]? = some r → CellsOk Z H [k1, k2] r (fun j => new[i * 2 + j]?)) (hv : CellOk Z H k1 (hdT [k2] x) v) (hw : CellOk Z H k2 (hdT [] (tlT [k2] x)) w) :
    ∀ i r, (xs ++ [x])[i]? = some r → CellsOk Z H [k1, k2] r (fun j => (new ++ [v, w])[i * 2 + j]?) := by
  intro i r hr
  have hi : i < xs.length + 1 := by
    have := (List.getElem?_eq_some_iff.1 hr).1
    simpa using this
  rcases Nat.lt_or_ge i xs.length with h1 | h1
  · rw [List.getElem?_append_left h1] at hr
    refine CellsOk.congr (fun j hj => ?_) (h i r hr)
    have hj : j < 2 := hj
    show (new ++ [v, w])[i * 2 + j]? = new[i * 2 + j]?
    rw [List.getElem?_append_left (by omega)]
  · have : i = xs.length := by omega
    subst this
    rw [List.getElem?_append_right (Nat.le_refl _)] at hr
    simp only [Nat.sub_self, List.getElem?_cons_zero, Option.some.injEq] at hr
    subst hr
    simp only [CellsOk, and_true]
    refine ⟨⟨v, ?_, hv⟩, w, ?_, hw⟩
    · rw [Nat.add_zero, List.getElem?_append_right (by omega), ← hl, Nat.sub_self]; rfl
    · rw [List.getElem?_append_right (by omega), show xs.length * 2 + (0 + 1) - new.length = 1 by omega]; rfl

end Go.Proofs.Ytomdgakmkihfhaa
