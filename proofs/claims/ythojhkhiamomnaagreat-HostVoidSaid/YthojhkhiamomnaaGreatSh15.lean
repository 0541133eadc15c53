/-
  Rows of rows that a call makes for itself.
-/
import Derived.Test.YthojhkhiamomnaaGreatSh14
set_option linter.unusedSectionVars false
set_option linter.unusedSimpArgs false
set_option linter.unusedVariables false
namespace Go.Sh

theorem Own.blk {H0 H : Heap} {a : Option Addr} {n cap sz : Nat} {T : TypeId} {xs : List Value} (h : Own H0 H a n cap sz T xs) {b : Nat} (hb : a = some ⟨b, 0, none⟩) : ∃ rest, Blk H b T ⟨xs ++ rest⟩ ∧ rest.length = (cap - n) * sz := by
  rcases h.2.2 with ⟨rfl, _⟩ | ⟨m, rest, rfl, _, hB, hr⟩
  · cases hb
  · cases hb; exact ⟨rest, hB, hr⟩
theorem Own.addr {H0 H : Heap} {a : Option Addr} {n cap sz : Nat} {T : TypeId} {xs : List Value} (h : Own H0 H a n cap sz T xs) (hn : 0 < n) : ∃ m, a = some ⟨m, 0, none⟩ := by
  rcases h.2.2 with ⟨_, h0, _⟩ | ⟨m, rest, rfl, _⟩
  · omega
  · exact ⟨m, rfl⟩

/-- An inner row. -/
structure Inn where
  a : Option Addr
  n : Nat
  cap : Nat
  ys : List Value
def Inn.val (i : Inn) : Value := .slice i.a i.n i.cap
/-- A row of rows: the outer row's blocks and the inner ones' are all apart. -/
structure Deep (H0 H : Heap) (To Ti : TypeId) (sz : Nat) (ins : List Inn) (a : Option Addr) (c : Nat) : Prop where
  out : Own H0 H a ins.length c 1 To (ins.map Inn.val)
  inn : ∀ (j : Nat) (i : Inn), ins[j]? = some i → Own H0 H i.a i.n i.cap sz Ti i.ys
  dis : ∀ (j j' : Nat) (i i' : Inn) (b : Nat), j ≠ j' → ins[j]? = some i → ins[j']? = some i' → i.a = some ⟨b, 0, none⟩ → i'.a ≠ some ⟨b, 0, none⟩
  capO : c ≤ 9223372036854775807
  capI : ∀ (j : Nat) (i : Inn), ins[j]? = some i → i.cap ≤ 9223372036854775807

theorem Deep.apart {H0 H : Heap} {To Ti : TypeId} {sz : Nat} {ins : List Inn} {a : Option Addr} {c : Nat} (d : Deep H0 H To Ti sz ins a c) (hT : To ≠ Ti) {j : Nat} {i : Inn} (hi : ins[j]? = some i) {b : Nat} (hb : i.a = some ⟨b, 0, none⟩) : a ≠ some ⟨b, 0, none⟩ := fun h => by
  obtain ⟨_, h1, _⟩ := d.out.blk h
  obtain ⟨_, h2, _⟩ := (d.inn j i hi).blk hb
  refine hT ?_
  unfold Blk at h1 h2
  rw [h1] at h2
  simp only [Option.some.injEq, Obj.cells.injEq] at h2
  exact h2.2.1
/-- What leaves these blocks alone. -/
theorem Deep.keep {H0 H H' : Heap} {To Ti : TypeId} {sz : Nat} {ins : List Inn} {a : Option Addr} {c : Nat} {S : Nat → Prop} (d : Deep H0 H To Ti sz ins a c) (k : Keep S H H') (hs : ∀ b, S b → H b = none) : Deep H0 H' To Ti sz ins a c :=
  ⟨d.out.keep k fun b hb hS => by obtain ⟨c, h⟩ := d.out.live hb; exact h.some (hs b hS), fun j i hi => (d.inn j i hi).keep k fun b hb hS => by obtain ⟨c, h⟩ := (d.inn j i hi).live hb; exact h.some (hs b hS), d.dis, d.capO, d.capI⟩

/-- A row behind the others. -/
theorem deep_push {P : Program} {st xt t e xe : TypeId} {H0 H : Heap} {a xb : Option Addr} {c xc sz by_ : Nat} {Ti : TypeId} {ins : List Inn} {i : Inn} {z : List Value} {K : Value → Heap → Prop} {it : TypeInfo} {S : Nat → Prop}
    (hT : e ≠ Ti) (hu : P.underlying st = some (.slice e)) (hx : P.underlying xt = some (.slice xe)) (hi : P.info? e = some it) (hsz : it.size = 1) (hby : it.bytes = by_) (hb0 : by_ ≠ 0) (hz : zeroL P e = some z) (hzl : z.length = 1)
    (d : Deep H0 H e Ti sz ins a c) (hin : Own H0 H i.a i.n i.cap sz Ti i.ys) (hic : i.cap ≤ 9223372036854775807) (hia : ∀ (j : Nat) (i' : Inn) (b : Nat), ins[j]? = some i' → i'.a = some ⟨b, 0, none⟩ → i.a ≠ some ⟨b, 0, none⟩) (hoa : ∀ b, i.a = some ⟨b, 0, none⟩ → a ≠ some ⟨b, 0, none⟩)
    (k0 : Keep S H0 H) (hnew : Reads H xb 1 [i.val]) (hfit : (2 * (ins.length + 1) + 192) * by_ ≤ 2 ^ 48)
    (h : ∀ a' c' H', Deep H0 H' e Ti sz (ins ++ [i]) a' c' → Keep (fun b => a = some ⟨b, 0, none⟩) H H' → Keep S H0 H' → K (.slice a' (ins.length + 1) c') H') :
    AppW P #[st, xt] t [.slice a ins.length c, .slice xb 1 xc] H K := by
  refine own_append2 (k := 1) (new := [i.val]) hu hx hi hsz hby hb0 hz hzl d.out k0 hnew (fun v hv => by simp at hv; subst hv; rfl) hfit fun a' c' H' hcap ho hf kk k1 => ?_
  refine h a' c' H' ⟨?_, fun j i' hj => ?_, fun j j' i1 i2 b hjj hj hj' hb => ?_, hcap d.capO, fun j i' hj => ?_⟩ kk k1
  · simpa using ho
  · rcases Nat.lt_trichotomy j ins.length with hlt | rfl | hgt
    · rw [List.getElem?_append_left hlt] at hj
      exact (d.inn j i' hj).keep kk fun b hb hS => d.apart hT hj hb hS
    · rw [List.getElem?_append_right (Nat.le_refl _)] at hj
      simp at hj; subst hj
      exact hin.keep kk fun b hb hS => hoa b hb hS
    · rw [List.getElem?_eq_none (by simp; omega)] at hj; cases hj
  · rcases Nat.lt_trichotomy j ins.length with hlt | rfl | hgt
    · rw [List.getElem?_append_left hlt] at hj
      rcases Nat.lt_trichotomy j' ins.length with hlt' | rfl | hgt'
      · rw [List.getElem?_append_left hlt'] at hj'
        exact d.dis j j' i1 i2 b hjj hj hj' hb
      · rw [List.getElem?_append_right (Nat.le_refl _)] at hj'
        simp at hj'; subst hj'
        exact hia j i1 b hj hb
      · rw [List.getElem?_eq_none (by simp; omega)] at hj'; cases hj'
    · rw [List.getElem?_append_right (Nat.le_refl _)] at hj
      simp at hj; subst hj
      rcases Nat.lt_trichotomy j' ins.length with hlt' | rfl | hgt'
      · rw [List.getElem?_append_left hlt'] at hj'
        exact fun h => hia j' i2 b hj' h hb
      · exact absurd rfl hjj
      · rw [List.getElem?_eq_none (by simp; omega)] at hj'; cases hj'
    · rw [List.getElem?_eq_none (by simp; omega)] at hj; cases hj
  · rcases Nat.lt_trichotomy j ins.length with hlt | rfl | hgt
    · rw [List.getElem?_append_left hlt] at hj
      exact d.capI j i' hj
    · rw [List.getElem?_append_right (Nat.le_refl _)] at hj
      simp at hj; subst hj
      exact hic
    · rw [List.getElem?_eq_none (by simp; omega)] at hj; cases hj

/-- The cell of an inner row. -/
theorem Deep.cell {H0 H : Heap} {To Ti : TypeId} {sz : Nat} {ins : List Inn} {a : Option Addr} {c : Nat} (d : Deep H0 H To Ti sz ins a c) {j : Nat} {i : Inn} (hi : ins[j]? = some i) : ∃ m, a = some ⟨m, 0, none⟩ ∧ H.cell ⟨m, j, none⟩ = some i.val := by
  have hlt : j < ins.length := by
    rcases Nat.lt_or_ge j ins.length with h | h
    · exact h
    · rw [List.getElem?_eq_none h] at hi; cases hi
  obtain ⟨m, hm⟩ := d.out.addr (by omega)
  obtain ⟨rest, hb, _⟩ := d.out.blk hm
  refine ⟨m, hm, ?_⟩
  rw [hb.cell]
  have : (ins.map Inn.val)[j]? = some i.val := by rw [List.getElem?_map, hi]; rfl
  simp only [List.getElem?_toArray]
  rw [List.getElem?_append_left (by simpa using hlt)]
  exact this

/-- A row is taken, something is put behind it, and it is put back. -/
theorem deep_grow {P : Program} {st xt t e xe To : TypeId} {H0 H : Heap} {a xb : Option Addr} {c xc sz by_ k j : Nat} {ins : List Inn} {i : Inn} {new z : List Value} {K : Value → Heap → Prop} {it : TypeInfo} {S : Nat → Prop}
    (hT : To ≠ e) (hu : P.underlying st = some (.slice e)) (hx : P.underlying xt = some (.slice xe)) (hi : P.info? e = some it) (hsz : it.size = sz) (hby : it.bytes = by_) (hb0 : by_ ≠ 0) (hz : zeroL P e = some z) (hzl : z.length = sz)
    (d : Deep H0 H To e sz ins a c) (hj : ins[j]? = some i) (k0 : Keep S H0 H) (hnew : Reads H xb (k * sz) new) (hpl : ∀ v ∈ new, plainC v = true) (hfit : (2 * (i.n + k) + 192) * by_ ≤ 2 ^ 48)
    (h : ∀ (i' : Inn) m H', i'.n = i.n + k → i'.ys = i.ys ++ new → a = some ⟨m, 0, none⟩ → H'.cell ⟨m, j, none⟩ = some i.val → (∀ K' : Heap → Prop, (∀ H'', Deep H0 H'' To e sz (ins.set j i') a c → Keep (fun b => H0 b = none) H H'' → Keep S H0 H'' → (∀ b, H0 b ≠ none → H'' b = H' b) → K' H'') → StCell H' ⟨m, j, none⟩ i'.val K') → Keep (fun b => i.a = some ⟨b, 0, none⟩) H H' → K i'.val H') :
    AppW P #[st, xt] t [.slice i.a i.n i.cap, .slice xb k xc] H K := by
  have hlt : j < ins.length := by
    rcases Nat.lt_or_ge j ins.length with h | h
    · exact h
    · rw [List.getElem?_eq_none h] at hj; cases hj
  obtain ⟨m, hm, _⟩ := d.cell hj
  refine own_append2 hu hx hi hsz hby hb0 hz hzl (d.inn j i hj) k0 hnew hpl hfit fun a' c' H' hcap ho hf kk k1 => ?_
  have hoa : ¬ (i.a = some ⟨m, 0, none⟩) := fun h => d.apart hT hj h hm
  have dout := d.out.keep kk (fun b hb hS => d.apart hT hj hS hb)
  obtain ⟨rest, hb, hr⟩ := dout.blk hm
  have hc1 : H'.cell ⟨m, j, none⟩ = some i.val := by
    rw [hb.cell]
    have : (ins.map Inn.val)[j]? = some i.val := by rw [List.getElem?_map, hj]; rfl
    simp only [List.getElem?_toArray]
    rw [List.getElem?_append_left (by simpa using hlt)]
    exact this
  have hm0 : H0 m = none := d.out.free hm
  have hml : H m ≠ none := by obtain ⟨cc, hh⟩ := d.out.live hm; exact hh.some
  refine h ⟨a', i.n + k, c', i.ys ++ new⟩ m H' rfl rfl hm hc1 (fun K' hK => ?_) kk
  have hne : a' ≠ some ⟨m, 0, none⟩ := fun e => by
    rcases hf m e with h | h
    · exact hoa h
    · exact hml h
  refine StCell.blk hb (by simp only [List.size_toArray, List.length_append, List.length_map]; omega) rfl (hK _ ⟨?_, fun jj i1 hjj => ?_, fun jj jk i1 i2 b hne2 h1 h2 hb1 => ?_, d.capO, fun jj i1 hjj => ?_⟩ ?_ (k1.upd (.inr hm0)) fun b hb0' => upd_ne fun e => hb0' (by rw [e]; exact hm0))
  · refine ⟨by simp, by simpa using d.out.le, .inr ⟨m, rest, hm, hm0, ?_, by simpa using hr⟩⟩
    have e : ((⟨ins.map Inn.val ++ rest⟩ : Array Value).setIfInBounds j (Inn.val ⟨a', i.n + k, c', i.ys ++ new⟩)) = ⟨(ins.set j ⟨a', i.n + k, c', i.ys ++ new⟩).map Inn.val ++ rest⟩ := by
      apply Array.ext'
      simp only [Array.toList_setIfInBounds]
      rw [List.set_append_left _ _ (by simpa using hlt), List.map_set]
    rw [← e]; exact Blk.upd_eq
  · have ku : Keep (fun b => b = m) H' (H'.upd m (.cells ((⟨ins.map Inn.val ++ rest⟩ : Array Value).setIfInBounds j (Inn.val ⟨a', i.n + k, c', i.ys ++ new⟩)) To (0, 0))) := (Keep.refl _ _).upd (.inl rfl)
    rw [List.getElem?_set] at hjj
    split at hjj
    · cases hjj
      exact ho.keep ku fun b hb1 hb2 => hne (by rw [hb1, hb2])
    · rename_i hjn
      refine ((d.inn jj i1 hjj).keep kk fun b hb1 hb2 => d.dis jj j i1 i b (fun e => hjn e.symm) hjj hj hb1 hb2).keep ku fun b hb1 hb2 => ?_
      exact d.apart hT hjj (by rw [hb1, hb2]) hm
  · have other : ∀ (jj : Nat) (i1 : Inn), jj ≠ j → ins[jj]? = some i1 → ∀ b, a' = some ⟨b, 0, none⟩ → i1.a ≠ some ⟨b, 0, none⟩ := fun jj i1 hjn hjj b hb1 hb2 => by
      rcases hf b hb1 with h | h
      · exact d.dis jj j i1 i b hjn hjj hj hb2 h
      · obtain ⟨cc, hh⟩ := (d.inn jj i1 hjj).live hb2
        exact hh.some h
    rw [List.getElem?_set] at h1 h2
    split at h1
    · rename_i hjj
      subst hjj
      cases h1
      split at h2
      · rename_i hjk; exact absurd hjk hne2
      · rename_i hjk
        exact other jk i2 (fun e => hjk e.symm) h2 b hb1
    · rename_i hjj
      split at h2
      · rename_i hjk
        subst hjk
        cases h2
        exact fun e => other jj i1 (fun e => hjj e.symm) h1 b e hb1
      · exact d.dis jj jk i1 i2 b hne2 h1 h2 hb1
  · rw [List.getElem?_set] at hjj
    split at hjj
    · cases hjj
      exact hcap (d.capI j i hj)
    · exact d.capI jj i1 hjj
  · exact (kk.mono fun b hb1 => (d.inn j i hj).free hb1).then ((Keep.refl (fun b => b = m) H').upd (.inl rfl)) fun b hb1 => .inl (by rw [hb1]; exact hm0)

end Go.Sh
