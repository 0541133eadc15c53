/-
  A slice that a call makes for itself: grown by append, in a block that was not there at first.
-/
import Derived.Test.YthojhkhiamomnaaGreatSh13
namespace Go.Sh

/-- A row of n elements (of sz cells each), of one's own: H0 has not its block. -/
def Own (H0 H : Heap) (a : Option Addr) (n cap sz : Nat) (T : TypeId) (xs : List Value) : Prop :=
  xs.length = n * sz ∧ n ≤ cap ∧ ((a = none ∧ n = 0 ∧ cap = 0) ∨ ∃ m rest, a = some ⟨m, 0, none⟩ ∧ H0 m = none ∧ Blk H m T ⟨xs ++ rest⟩ ∧ rest.length = (cap - n) * sz)

theorem Own.nil {H0 H : Heap} {sz : Nat} {T : TypeId} : Own H0 H none 0 0 sz T [] := ⟨by simp, Nat.le_refl _, .inl ⟨rfl, rfl, rfl⟩⟩
theorem Own.start {H0 H : Heap} {m sz : Nat} {T : TypeId} (h0 : H0 m = none) (hb : Blk H m T ⟨[]⟩) : Own H0 H (some ⟨m, 0, none⟩) 0 0 sz T [] := ⟨by simp, Nat.le_refl _, .inr ⟨m, [], rfl, h0, hb, by simp⟩⟩
theorem Own.row {H0 H : Heap} {m n sz : Nat} {T : TypeId} {xs : List Value} (h0 : H0 m = none) (hb : Blk H m T ⟨xs⟩) (hl : xs.length = n * sz) : Own H0 H (some ⟨m, 0, none⟩) n n sz T xs :=
  ⟨hl, Nat.le_refl _, .inr ⟨m, [], rfl, h0, by simpa using hb, by simp⟩⟩
theorem Own.len {H0 H : Heap} {a : Option Addr} {n cap sz : Nat} {T : TypeId} {xs : List Value} (h : Own H0 H a n cap sz T xs) : xs.length = n * sz := h.1
theorem Own.le {H0 H : Heap} {a : Option Addr} {n cap sz : Nat} {T : TypeId} {xs : List Value} (h : Own H0 H a n cap sz T xs) : n ≤ cap := h.2.1
theorem Own.free {H0 H : Heap} {a : Option Addr} {n cap sz : Nat} {T : TypeId} {xs : List Value} (h : Own H0 H a n cap sz T xs) {b : Nat} (hb : a = some ⟨b, 0, none⟩) : H0 b = none := by
  rcases h.2.2 with ⟨rfl, _⟩ | ⟨m, rest, rfl, h0, _⟩
  · cases hb
  · cases hb; exact h0
theorem Own.live {H0 H : Heap} {a : Option Addr} {n cap sz : Nat} {T : TypeId} {xs : List Value} (h : Own H0 H a n cap sz T xs) {b : Nat} (hb : a = some ⟨b, 0, none⟩) : ∃ c, Blk H b T c := by
  rcases h.2.2 with ⟨rfl, _⟩ | ⟨m, rest, rfl, h0, hB, _⟩
  · cases hb
  · cases hb; exact ⟨_, hB⟩
theorem Own.reads {H0 H : Heap} {a : Option Addr} {n cap sz : Nat} {T : TypeId} {xs : List Value} (h : Own H0 H a n cap sz T xs) : Reads H a (n * sz) xs := by
  obtain ⟨hl, hc, hr⟩ := h
  rcases hr with ⟨rfl, rfl, rfl⟩ | ⟨m, rest, rfl, h0, hb, hr⟩
  · exact ⟨hl, by simp⟩
  · refine Reads.blk hb hl fun j hj => ?_
    simp [List.getElem?_append, hl, hj]
theorem Own.keep {H0 H H' : Heap} {a : Option Addr} {n cap sz : Nat} {T : TypeId} {xs : List Value} {S : Nat → Prop} (h : Own H0 H a n cap sz T xs) (k : Keep S H H') (hs : ∀ b, a = some ⟨b, 0, none⟩ → ¬ S b) : Own H0 H' a n cap sz T xs := by
  obtain ⟨hl, hc, hr⟩ := h
  refine ⟨hl, hc, ?_⟩
  rcases hr with h | ⟨m, rest, rfl, h0, hb, hr⟩
  · exact .inl h
  · exact .inr ⟨m, rest, rfl, h0, k.blk hb (hs m rfl), hr⟩
theorem Own.mono {H0 H1 H : Heap} {a : Option Addr} {n cap sz : Nat} {T : TypeId} {xs : List Value} {S : Nat → Prop} (h : Own H1 H a n cap sz T xs) (k : Keep S H0 H1) : Own H0 H a n cap sz T xs := by
  obtain ⟨hl, hc, hr⟩ := h
  refine ⟨hl, hc, ?_⟩
  rcases hr with h | ⟨m, rest, rfl, h0, hb, hr⟩
  · exact .inl h
  · exact .inr ⟨m, rest, rfl, k.free h0, hb, hr⟩
/-- A step that turns one's own row alone turns nothing of H0. -/
theorem Own.then {H0 H H' : Heap} {a : Option Addr} {n cap sz : Nat} {T : TypeId} {xs : List Value} {S : Nat → Prop} (h : Own H0 H a n cap sz T xs) (k0 : Keep S H0 H) (k : Keep (fun b => a = some ⟨b, 0, none⟩) H H') : Keep S H0 H' :=
  k0.then k fun _ hb => .inr (h.free hb)

theorem own_append2 {P : Program} {st xt t e xe : TypeId} {H0 H : Heap} {a xb : Option Addr} {n cap k xc sz by_ : Nat} {xs new z : List Value} {K : Value → Heap → Prop} {it : TypeInfo} {S : Nat → Prop}
    (hu : P.underlying st = some (.slice e)) (hx : P.underlying xt = some (.slice xe)) (hi : P.info? e = some it) (hsz : it.size = sz) (hby : it.bytes = by_) (hb0 : by_ ≠ 0) (hz : zeroL P e = some z) (hzl : z.length = sz)
    (ho : Own H0 H a n cap sz e xs) (k0 : Keep S H0 H) (hnew : Reads H xb (k * sz) new) (hpl : ∀ v ∈ new, plainC v = true) (hfit : (2 * (n + k) + 192) * by_ ≤ 2 ^ 48)
    (h : ∀ a' cap' H', (cap ≤ 9223372036854775807 → cap' ≤ 9223372036854775807) → Own H0 H' a' (n + k) cap' sz e (xs ++ new) → (∀ b, a' = some ⟨b, 0, none⟩ → a = some ⟨b, 0, none⟩ ∨ H b = none) → Keep (fun b => a = some ⟨b, 0, none⟩) H H' → Keep S H0 H' → K (.slice a' (n + k) cap') H') :
    AppW P #[st, xt] t [.slice a n cap, .slice xb k xc] H K := by
  have hold := ho.reads
  have hmul : (n + k) * sz = n * sz + k * sz := Nat.add_mul _ _ _
  have hnl := hnew.len
  have hxl := ho.len
  refine AppW.intro2 (n := k) (sLen := n) (sCap := cap) (sz := sz) (by_ := by_) hu hx hi hsz hby hb0 hz hzl hold hnew (.inl hfit) ?_ ?_
  · intro hle
    have ho2 := ho
    obtain ⟨hl, hc, hr⟩ := ho2
    rcases hr with ⟨rfl, rfl, rfl⟩ | ⟨m, rest, rfl, h0, hb, hr⟩
    · have hk : k = 0 := by omega
      subst hk
      have hn : new = [] := List.eq_nil_of_length_eq_zero (by simpa using hnl)
      subst hn
      have hx0 : xs = [] := List.eq_nil_of_length_eq_zero (by simpa using hl)
      subst hx0
      exact ⟨rfl, h none 0 H (fun _ => by omega) Own.nil (fun _ h => .inl h) (Keep.refl _ _) k0⟩
    · have hcap : cap * sz = n * sz + (cap - n) * sz := by rw [← Nat.add_mul, Nat.add_sub_cancel' hc]
      have hcap2 : (cap - n) * sz = k * sz + (cap - (n + k)) * sz := by rw [← Nat.add_mul]; congr 1; omega
      refine ⟨rfl, _, _, hb, by simp only [List.size_toArray, List.length_append]; omega, hpl, fun H' hb' hoth => ?_⟩
      have hrow : putRow (⟨xs ++ rest⟩ : Array Value) (0 + n * sz) new = ⟨(xs ++ new) ++ rest.drop (k * sz)⟩ := by
        apply Array.ext_getElem?
        intro j
        rw [putRow_get _ _ _ _ (by simp only [List.size_toArray, List.length_append]; omega)]
        simp only [List.getElem?_toArray]
        by_cases h1 : j < n * sz
        · rw [if_neg (by omega), List.getElem?_append_left (by omega), List.append_assoc, List.getElem?_append_left (by omega)]
        · by_cases h2 : j < n * sz + k * sz
          · rw [if_pos (by omega), List.append_assoc, List.getElem?_append_right (by omega), List.getElem?_append_left (by omega)]
            congr 1; omega
          · rw [if_neg (by omega), List.getElem?_append_right (by omega), List.getElem?_append_right (by simp only [List.length_append]; omega), List.getElem?_drop]
            congr 1; simp only [List.length_append]; omega
      rw [hrow] at hb'
      have kk : Keep (fun b => (some ⟨m, 0, none⟩ : Option Addr) = some ⟨b, 0, none⟩) H H' := ⟨fun b hb1 _ => hoth b fun e => hb1 (by rw [e]), fun b hb1 => by
        by_cases e : b = m
        · subst e; exact hb'.some
        · rw [hoth b e]; exact hb1⟩
      refine h _ _ _ (fun h => h) ⟨by simp only [List.length_append]; omega, hle, .inr ⟨m, _, rfl, h0, hb', by simp only [List.length_drop]; omega⟩⟩ (fun _ h => .inl h) kk (ho.then k0 kk)
  · intro hlt m cap' hm hcap' hcb
    have hrl : (repL (cap' - (n + k)) z).length = (cap' - (n + k)) * sz := by rw [repL_length, hzl]
    refine h _ _ _ (fun _ => hcb) ⟨by simp only [List.length_append]; omega, hcap', .inr ⟨m, _, rfl, k0.free hm, Blk.upd_eq, hrl⟩⟩ (fun b hb => .inr (by cases hb; exact hm)) ((Keep.refl _ _).new hm) (k0.new hm)

theorem own_append {P : Program} {st xt t e xe : TypeId} {H0 H : Heap} {a xb : Option Addr} {n cap k xc sz by_ : Nat} {xs new z : List Value} {K : Value → Heap → Prop} {it : TypeInfo} {S : Nat → Prop}
    (hu : P.underlying st = some (.slice e)) (hx : P.underlying xt = some (.slice xe)) (hi : P.info? e = some it) (hsz : it.size = sz) (hby : it.bytes = by_) (hb0 : by_ ≠ 0) (hz : zeroL P e = some z) (hzl : z.length = sz)
    (ho : Own H0 H a n cap sz e xs) (k0 : Keep S H0 H) (hnew : Reads H xb (k * sz) new) (hpl : ∀ v ∈ new, plainC v = true) (hfit : (2 * (n + k) + 192) * by_ ≤ 2 ^ 48)
    (h : ∀ a' cap' H', Own H0 H' a' (n + k) cap' sz e (xs ++ new) → Keep (fun b => a = some ⟨b, 0, none⟩) H H' → Keep S H0 H' → K (.slice a' (n + k) cap') H') :
    AppW P #[st, xt] t [.slice a n cap, .slice xb k xc] H K :=
  own_append2 hu hx hi hsz hby hb0 hz hzl ho k0 hnew hpl hfit fun a' cap' H' _ h1 _ h2 h3 => h a' cap' H' h1 h2 h3

end Go.Sh
