/-
  A slice that a call makes for itself: grown by append, in a block that was not there at first.
-/
import Derived.Test.YtboagabgpcghcaaDoorSh13
namespace Go.Sh
def Own (H0 H : Heap) (a : Option Addr) (n cap sz : Nat) (T : TypeId) (xs : List Value) : Prop :=
  xs.length = n * sz ∧ n ≤ cap ∧ ((a = none ∧ n = 0 ∧ cap = 0) ∨ ∃ m rest, a = some ⟨m, 0, none⟩ ∧ H0 m = none ∧ Blk H m T ⟨xs ++ rest⟩ ∧ rest.length = (cap - n) * sz)
theorem Own.nil {H0 H : Heap} {sz : Nat} {T : TypeId} : Own H0 H none 0 0 sz T [] := ⟨by simp, Nat.le_refl _, .inl ⟨rfl, rfl, rfl⟩⟩
theorem Own.start {H0 H : Heap} {m sz : Nat} {T : TypeId} (h0 : H0 m = none) (hb : Blk H m T ⟨[]⟩) : Own H0 H (some ⟨m, 0, none⟩) 0 0 sz T [] := ⟨by simp, Nat.le_refl _, .inr ⟨m, [], rfl, h0, hb, by simp⟩⟩
theorem Own.row {H0 H : Heap} {m n sz : Nat} {T : TypeId} {xs : List Value} (h0 : H0 m = none) (hb : Blk H m T ⟨xs⟩) (hl : xs.length = n * sz) : Own H0 H (some ⟨m, 0, none⟩) n n sz T xs :=
  ⟨hl, Nat.le_refl _, .inr ⟨m, [], rfl, h0, by simpa using hb, by simp⟩⟩
theorem Own.len {H0 H : Heap} {a : Option Addr} {n cap sz : Nat} {T : TypeId} {xs : List Value} (h : Own H0 H a n cap sz T xs) : xs.length = n * sz := h.1
theorem Own.le {H0 H : Heap} {a : Option Addr} {n cap sz : Nat} {T : TypeId} {xs : List Value} (h : Own H0 H a n cap sz T xs) : n ≤ cap := h.2.1
theorem Own.free {H0 H : Heap} {a : Option Addr} {n cap sz : Nat} {T : TypeId} {xs : List Value} (h : Own H0 H a n cap sz T xs) {b : Nat} (hb : a = some ⟨b, 0, none⟩) : H0 b = none := by
  rcases h.2.2 with ⟨rfl, _⟩ | ⟨m, rest, rfl, h0, _⟩
  · cases hb
  · cases hb; exact h0
theorem Own.live {H0 H : Heap} {a : Option Addr} {n cap sz : Nat} {T : TypeId} {xs : List Value} (h : Own H0 H a n cap sz T xs) {b : Nat} (hb : a = some ⟨b, 0, none⟩) : ∃ c, Blk H b T c := by
  rcases h.2.2 with ⟨rfl, _⟩ | ⟨m, rest, rfl, h0, hB, _⟩
  · cases hb
  · cases hb; exact ⟨_, hB⟩
theorem Own.reads {H0 H : Heap} {a : Option Addr} {n cap sz : Nat} {T : TypeId} {xs : List Value} (h : Own H0 H a n cap sz T xs) : Reads H a (n * sz) xs := by
  obtain ⟨hl, hc, hr⟩ := h
  rcases hr with ⟨rfl, rfl, rfl⟩ | ⟨m, rest, rfl, h0, hb, hr⟩
  · exact ⟨hl, by simp⟩
  · refine Reads.blk hb hl fun j hj => ?_
    simp [List.getElem?_append, hl, hj]
theorem Own.keep {H0 H H' : Heap} {a : Option Addr} {n cap sz : Nat} {T : TypeId} {xs : List Value} {S : Nat → Prop} (h : Own H0 H a n cap sz T xs) (k : Keep S H H') (hs : ∀ b, a = some ⟨b, 0, none⟩ → ¬ S b) : Own H0 H' a n cap sz T xs := by
  obtain ⟨hl, hc, hr⟩ := h
  refine ⟨hl, hc, ?_⟩
  rcases hr with h | ⟨m, rest, rfl, h0, hb, hr⟩
  · exact .inl h
  · exact .inr ⟨m, rest, rfl, h0, k.blk hb (hs m rfl), hr⟩
theorem Own.mono {H0 H1 H : Heap} {a : Option Addr} {n cap sz : Nat} {T : TypeId} {xs : List Value} {S : Nat → Prop} (h : Own H1 H a n cap sz T xs) (k : Keep S H0 H1) : Own H0 H a n cap sz T xs := by
  obtain ⟨hl, hc, hr⟩ := h
  refine ⟨hl, hc, ?_⟩
  rcases hr with h | ⟨m, rest, rfl, h0, hb, hr⟩
  · exact .inl h
  · exact .inr ⟨m, rest, rfl, k.free h0, hb, hr⟩
theorem Own.then {H0 H H' : Heap} {a : Option Addr} {n cap sz : Nat} {T : TypeId} {xs : List Value} {S : Nat → Prop} (h : Own H0 H a n cap sz T xs) (k0 : Keep S H0 H) (k : Keep (fun b => a = some ⟨b, 0, none⟩) H H') : Keep S H0 H' :=
  k0.then k fun _ hb => .inr (h.free hb)
end Go.Sh
