/-
  Copies of rows over the heap, and what is new.
-/
import Derived.Test.YtomdgakmkihfhaaP20t
import Derived.Test.YtomdgakmkihfhaaItsT
import Derived.Test.YtomdgakmkihfhaaPw18
set_option linter.all false
set_option maxRecDepth 100000
namespace Go.Proofs.Ytomdgakmkihfhaa
open Go.Sh

abbrev kSegs : Kd := .lst [.bool, .lst [.int .u32]]
abbrev kBytes : Kd := .lst [.int .u8]
abbrev kU32 : Kd := .lst [.int .u32]
abbrev ksSeg : List Kd := [.bool, .lst [.int .u32]]
abbrev ksRaw : List Kd := [.int .i64, .lst [.int .u8]]
abbrev ksAt : List Kd := [Kd.int .i64, Kd.lst [Kd.bool, Kd.lst [Kd.int .u32]], Kd.int .u32, Kd.bool, Kd.int .u32, Kd.bool, Kd.int .u32, Kd.bool, Kd.bool, Kd.int .u32, Kd.int .u32, Kd.lst [Kd.int .u32], Kd.lst [Kd.int .i64, Kd.lst [Kd.int .u8]]]

/-- What is laid is there. -/
structure Lyd (H : Heap) : Prop where
  live : ∀ b, Laid.blocks b = true → H b ≠ none
  ok : Laid.ok (layH H)
theorem Lyd.keep {H H' : Heap} (h : Lyd H) (k : Keep Nil H H') : Lyd H' := by
  refine ⟨fun b hb => k.live b (h.live b hb), ?_⟩
  have e : layH H' = layH H := by
    funext b
    unfold layH
    cases hb : Laid.blocks b with
    | true => exact k.same b (fun h => h.elim) (h.live b hb)
    | false => rfl
  rw [e]; exact h.ok
theorem keep0 {S : Nat → Prop} {H0 H H' : Heap} (h : Keep Nil H0 H) (k : Keep S H H') (hs : ∀ x, S x → H0 x = none) : Keep Nil H0 H' := h.then k fun b hb => .inr (hs b hb)
theorem own_keep0 {S : Nat → Prop} {H0 H H' : Heap} {a : Option Addr} {n cap sz : Nat} {T : TypeId} {xs : List Value} (h : Sh.Own H0 H a n cap sz T xs) (k : Keep S H H') (hs : ∀ x, S x → a ≠ some ⟨x, 0, none⟩) : Sh.Own H0 H' a n cap sz T xs :=
  h.keep k fun b hb hx => hs b hx hb
theorem newB {H : Heap} {l : List Value} {T : TypeId} {k : Nat → Heap → Prop} (h : ∀ n H1, H n = none → Keep Nil H H1 → Blk H1 n T ⟨l⟩ → k n H1) : NewW H (Obj.cells ⟨l⟩ T) k := NewW.intro fun n hn => h n _ hn ((Keep.refl _ _).new hn) Blk.upd_eq
theorem cell_at {H : Heap} {b : Nat} {T : TypeId} {l : List Value} (h : Blk H b T ⟨l⟩) (j : Nat) {v : Value} (e : l[j]? = some v) : H.cell ⟨b, j, none⟩ = some v := by
  rw [h.cell]; simpa using e
theorem keep_box {H H' : Heap} {m : Nat} {T : TypeId} {c : List Value} (hb : Blk H' m T ⟨c⟩) (ho : ∀ x, x ≠ m → H' x = H x) : Keep (fun x => x = m) H H' := ⟨fun x hx _ => ho x hx, fun x hx => by
  by_cases e : x = m
  · subst e; exact hb.some
  · rw [ho x e]; exact hx⟩
theorem blk_ty {H : Heap} {m : Nat} {T T' : TypeId} {c c' : Array Value} (h : Blk H m T c) (h' : Blk H m T' c') : T = T' := by
  unfold Blk at h h'
  rw [h] at h'
  simp only [Option.some.injEq, Obj.cells.injEq] at h'
  exact h'.2.1
theorem inr32 (n : UInt32) : InR .u32 (n.toNat : Int) := ⟨by simp [loI], by have := UInt32.toNat_lt n; simp only [hiI]; omega⟩
theorem row_of {T : TypeId} {s b : Nat} (h : (Try.prog.info? T).map (fun i => (i.size, i.bytes)) = some (s, b)) : ∃ it, Try.prog.info? T = some it ∧ it.size = s ∧ it.bytes = b := by
  cases hi : Try.prog.info? T with
  | none => rw [hi] at h; cases h
  | some i => rw [hi] at h; simp only [Option.map_some, Option.some.injEq, Prod.mk.injEq] at h; exact ⟨i, rfl, h.1, h.2⟩
theorem row_u32 : ∃ it, Try.prog.info? T_uint32 = some it ∧ it.size = 1 ∧ it.bytes = 4 := row_of (by kernel_rfl)
theorem row_u8 : ∃ it, Try.prog.info? T_uint8 = some it ∧ it.size = 1 ∧ it.bytes = 1 := row_of (by kernel_rfl)
theorem row_seg : ∃ it, Try.prog.info? T_api_Segment = some it ∧ it.size = 2 ∧ it.bytes = 32 := row_of (by kernel_rfl)
theorem row_raw : ∃ it, Try.prog.info? T_api_Raw = some it ∧ it.size = 2 ∧ it.bytes = 32 := row_of (by kernel_rfl)

/-- A row of one's own, for all times. -/
theorem own_frz {H0 H : Heap} {a : Option Addr} {n cap : Nat} {T : TypeId} {xs : List Value} {ks : List Kd} {l : List (Tp ks)} {Z : Nat → Prop} (ho : Sh.Own H0 H a n cap ks.length T xs) (hl : l.length = n) (hc : ∀ i r, l[i]? = some r → CellsOk Z H ks r (fun j => xs[i * ks.length + j]?)) (hcap : cap ≤ lenMax) (hz : ∀ m, a = some ⟨m, 0, none⟩ → Z m) : CellOk Z H (.lst ks) l (.slice a n cap) := by
  simp only [CellOk]
  refine ⟨a, n, cap, rfl, hl, ho.le, hcap, fun h0 => ?_⟩
  obtain ⟨m, rfl⟩ := ho.addr h0
  obtain ⟨rest, hb, _⟩ := ho.blk rfl
  refine ⟨m, 0, rfl, hz m rfl, _, _, _, hb, fun i x hx => ?_⟩
  have hxl := ho.len
  have hi : i < n := by
    rcases Nat.lt_or_ge i l.length with h | h
    · omega
    · have hx' : l[i]? = some x := hx
      rw [List.getElem?_eq_none h] at hx'; cases hx'
  refine CellsOk.congr (fun j hj => ?_) (hc i x hx)
  simp only [Nat.zero_add, List.getElem?_toArray]
  rw [List.getElem?_append_left]
  have : (i + 1) * ks.length ≤ n * ks.length := Nat.mul_le_mul_right _ hi
  rw [Nat.succ_mul] at this
  omega

/-- Blocks that came new, with cells. -/
def NewZ (H H' : Heap) (Z : Nat → Prop) (Ts : List TypeId) : Prop := ∀ m, Z m → H m = none ∧ ∃ T c, Blk H' m T c ∧ T ∈ Ts
theorem NewZ.fresh {H H' : Heap} {Z : Nat → Prop} {Ts : List TypeId} (h : NewZ H H' Z Ts) : Fresh H H' Z := fun m hm => by
  obtain ⟨h1, T, c, h2, _⟩ := h m hm
  refine ⟨h1, h2.some, fun ds e => ?_⟩
  unfold Blk at h2
  rw [h2] at e; cases e
theorem NewZ.keep {H H' H'' : Heap} {Z S : Nat → Prop} {Ts : List TypeId} (h : NewZ H H' Z Ts) (k : Keep S H' H'') (hs : ∀ m, Z m → ¬ S m) : NewZ H H'' Z Ts := fun m hm => by
  obtain ⟨h1, T, c, h2, h3⟩ := h m hm
  exact ⟨h1, T, c, k.blk h2 (hs m hm), h3⟩
theorem NewZ.shut {H H' H'' H0 : Heap} {Z : Nat → Prop} {Ts : List TypeId} (h : NewZ H H' Z Ts) (k : Shut H0 H' H'') : NewZ H H'' Z Ts := fun m hm => by
  obtain ⟨h1, T, c, h2, h3⟩ := h m hm
  exact ⟨h1, T, c, shutB h2 k, h3⟩
theorem NewZ.early {S : Nat → Prop} {H0 H H' : Heap} {Z : Nat → Prop} {Ts : List TypeId} (h : NewZ H H' Z Ts) (k : Keep S H0 H) : NewZ H0 H' Z Ts := fun m hm => by
  obtain ⟨h1, h2⟩ := h m hm
  exact ⟨k.free h1, h2⟩
theorem NewZ.mono {H H' : Heap} {Z : Nat → Prop} {Ts Ts' : List TypeId} (h : NewZ H H' Z Ts) (ht : ∀ T ∈ Ts, T ∈ Ts') : NewZ H H' Z Ts' := fun m hm => by
  obtain ⟨h1, T, c, h2, h3⟩ := h m hm
  exact ⟨h1, T, c, h2, ht T h3⟩
theorem NewZ.both {H H' : Heap} {Z Z' : Nat → Prop} {Ts : List TypeId} (h : NewZ H H' Z Ts) (h' : NewZ H H' Z' Ts) : NewZ H H' (fun m => Z m ∨ Z' m) Ts := fun m hm => hm.elim (h m) (h' m)
theorem NewZ.own {H H' : Heap} {a : Option Addr} {n cap sz : Nat} {T : TypeId} {xs : List Value} (h : Sh.Own H H' a n cap sz T xs) : NewZ H H' (fun m => a = some ⟨m, 0, none⟩) [T] := fun m hm => by
  obtain ⟨c, hc⟩ := h.live hm
  exact ⟨h.free hm, T, c, hc, List.mem_singleton_self _⟩

/-- A copy of a row, frozen. -/
abbrev Cloned (H : Heap) (k : Kd) (x : El k) (T : TypeId) (v : Value) (H' : Heap) : Prop := Keep Nil H H' ∧ ∃ Zn, NewZ H H' Zn [T] ∧ CellOk Zn H' k x v
theorem Cloned.shut {H H' H'' : Heap} {k : Kd} {x : El k} {T : TypeId} {v : Value} (h : Cloned H k x T v H') (hs : Shut H H' H'') : Cloned H k x T v H'' := by
  obtain ⟨h1, Zn, h2, h3⟩ := h
  refine ⟨shutK h1 hs, Zn, h2.shut hs, CellOk.ext (fun m hm => ⟨hm, ?_⟩) _ _ _ h3⟩
  obtain ⟨_, T, c, q, _⟩ := h2 m hm
  rw [q]
  exact shutB q hs
theorem scal {k : IntKind} {Z Z' : Nat → Prop} {H H' : Heap} {r : Tp [.int k]} {f : Nat → Option Value} (h : CellsOk Z H [.int k] r f) : CellsOk Z' H' [.int k] r f := by
  simp only [CellsOk, CellOk] at h ⊢
  exact h
theorem clone_own {H H' : Heap} {k : IntKind} {T : TypeId} {xs : List (Tp [.int k])} {Z : Nat → Prop} {Hz : Heap} {new : List Value} {a : Option Addr} {n c : Nat} (ho : Sh.Own H H' a n c 1 T new) (hl : xs.length = n) (hc : c ≤ lenMax) (hr : ∀ i x, xs[i]? = some x → CellsOk Z Hz [.int k] x (fun j => new[i * 1 + j]?)) (kk : Keep Nil H H') : Cloned H (.lst [.int k]) xs T (.slice a n c) H' := by
  refine ⟨kk, _, NewZ.own ho, own_frz (ks := [.int k]) ho hl (fun i r hi => scal (hr i r hi)) hc fun m hm => hm⟩
theorem clone8 {H : Heap} {Z : Nat → Prop} {xs : List UInt8} {v : Value} (h : CellOk Z H kBytes xs v) (hn : xs.length ≤ 1000000) : FnW Try.prog f_slices_Cloneasl_byte_byte ⟨[v]⟩ H (Cloned H kBytes xs T_uint8) := by
  obtain ⟨a, n, c, new, rfl, hl, h1, h2, h3, h4, h5⟩ := lst_rd (g := gZ Z) h
  have hl : xs.length = n := hl
  refine slices_Cloneasl_byte_byte_sh a n c ?_
  unfold slices_Cloneasl_byte_byte_p
  cases a with
  | none =>
    have h0 : n = 0 := by have := h3.2; simpa using this
    subst h0
    have : xs = [] := List.eq_nil_of_length_eq_zero hl
    subst this
    exact ifT rfl fun H2 hs => Cloned.shut ⟨Keep.refl _ _, fun _ => False, fun m hm => hm.elim, cellOk_nil⟩ hs
  | some a =>
    refine ifF rfl (newB fun m H1 hm k1 hb => ?_)
    obtain ⟨it, i1, i2, i3⟩ := row_u8
    refine own_append2 (e := T_uint8) (xe := T_uint8) (z := [.int .u8 0]) (by kernel_rfl) (by kernel_rfl) i1 i2 i3 (by decide) (by kernel_rfl) rfl (Sh.Own.start hm hb) k1 (new := new) (h3.keep k1 fun _ _ h => h) h5 (by omega) fun a' cap' H' q0 q1 q2 q3 q4 => ?_
    refine ⟨a', 0 + n, cap', rfl, fun H2 hs => Cloned.shut ?_ hs⟩
    rw [Nat.zero_add] at q1 ⊢
    exact clone_own (Z := Z) (Hz := H) q1 hl (q0 (by decide)) h4 q4
theorem clone32 {H : Heap} {Z : Nat → Prop} {xs : List UInt32} {v : Value} (h : CellOk Z H kU32 xs v) (hn : xs.length ≤ 1000000) : FnW Try.prog f_slices_Cloneasl_uint32_uint32 ⟨[v]⟩ H (Cloned H kU32 xs T_uint32) := by
  obtain ⟨a, n, c, new, rfl, hl, h1, h2, h3, h4, h5⟩ := lst_rd (g := gZ Z) h
  have hl : xs.length = n := hl
  refine slices_Cloneasl_uint32_uint32_sh a n c ?_
  unfold slices_Cloneasl_uint32_uint32_p
  cases a with
  | none =>
    have h0 : n = 0 := by have := h3.2; simpa using this
    subst h0
    have : xs = [] := List.eq_nil_of_length_eq_zero hl
    subst this
    exact ifT rfl fun H2 hs => Cloned.shut ⟨Keep.refl _ _, fun _ => False, fun m hm => hm.elim, cellOk_nil⟩ hs
  | some a =>
    refine ifF rfl (newB fun m H1 hm k1 hb => ?_)
    obtain ⟨it, i1, i2, i3⟩ := row_u32
    refine own_append2 (e := T_uint32) (xe := T_uint32) (z := [.int .u32 0]) (by kernel_rfl) (by kernel_rfl) i1 i2 i3 (by decide) (by kernel_rfl) rfl (Sh.Own.start hm hb) k1 (new := new) (h3.keep k1 fun _ _ h => h) h5 (by omega) fun a' cap' H' q0 q1 q2 q3 q4 => ?_
    refine ⟨a', 0 + n, cap', rfl, fun H2 hs => Cloned.shut ?_ hs⟩
    rw [Nat.zero_add] at q1 ⊢
    exact clone_own (Z := Z) (Hz := H) q1 hl (q0 (by decide)) h4 q4

end Go.Proofs.Ytomdgakmkihfhaa
