/-
  Contracts and calls said of the heap: for what is shown by hand.
-/
import Derived.Test.YtomdgakmkihfhaaPw16
import Derived.Test.YtomdgakmkihfhaaSh15
set_option linter.unusedSectionVars false
set_option linter.unusedSimpArgs false
set_option linter.unusedVariables false
namespace Go.Sh
variable [Laid]

/-- Nothing of one's own: data alone. -/
def gZ (Z : Nat → Prop) : Gh := ⟨Z, fun _ => 0, fun _ => .nilFunc⟩
theorem simL_gZ {g : Gh} {H : Heap} {as : List AV} {vs : List Value} (h : SimL g H 0 as vs) : SimL (gZ g.Z) H 0 as vs :=
  SimL.ext (g := g) (g' := gZ g.Z) (Nat.le_refl _) ⟨fun b hb => ⟨hb, rfl⟩, fun _ h => absurd h (by omega), fun _ h => absurd h (by omega)⟩ _ _ h

/-- A call of what has a contract, from the heap alone. -/
theorem FnQ.run {P : Program} {f : FuncId} {ps rs : List Pk} {q : PkTs ps → (PkTs rs → Prop) → Prop} (hq : FnQ P f ps rs q) (hrs : rs.all scalarK = true) {x : PkTs ps} (hps : pksR ps x = []) {vs : List Value} {H : Heap} {Z : Nat → Prop}
    (hs : SimL (gZ Z) H 0 (pksA 0 ps x) vs) (hz : ∀ b, Z b → H b ≠ none) (hlay : ∀ b, Laid.blocks b = true → H b ≠ none) (hlo : Laid.ok (layH H)) {K : PkTs rs → Prop} (h : q x K) :
    FnW P f ⟨vs⟩ H fun v H' => Keep Nil H H' ∧ ∃ y, K y ∧ WfPs rs y ∧ ∀ (N : Nat) (g : Gh), SimV g H' N (outA (pksA 0 rs y)) v := by
  have hσ : (parS ps x).σ = [] := hps
  have s2 : Sim ⟨H, Owned (gZ Z) (pksR ps x), (gZ Z).Z⟩ (parS ps x) (env0 vs) H (gZ Z) := by
    refine ⟨fun t => ?_, fun i o hi => ?_, fun i o hi => ?_, fun i j oi oj _ hi => ?_, fun i o hi => ?_, Keep.refl _ _, fun b hb => hb, fun b hb => .inl hb, hz, ⟨fun b hb ho => ?_, hlay, hlo⟩, fun b hb => .inl hb⟩
    · rw [hσ]
      simpa [parS, env0] using simL_getD hs t
    · rw [hσ] at hi; simp at hi
    · rw [hσ] at hi; simp at hi
    · rw [hσ] at hi; simp at hi
    · rw [hσ] at hi; simp at hi
    · obtain ⟨i, o, hi, _⟩ := ho
      rw [hps] at hi; simp at hi
  have hvl : vs.length = ps.length := by rw [← hs.len, pksA_length]
  refine (hq x _ h H (gZ Z) vs hvl s2).mono fun v H' hk => ?_
  obtain ⟨a, st', ρ', g', s', hav, hout⟩ := hk
  unfold outP at hout
  split at hout
  case h_2 => exact hout.elim
  rename_i as hol
  split at hout
  case h_2 => exact hout.elim
  rename_i σ' hfr'
  split at hout
  case h_2 => exact hout.elim
  rename_i y src' htk'
  split at hout
  case h_2 => exact hout.elim
  obtain ⟨g3, s3, r3, l3, f3, _⟩ := frzP_sound rs as st'.σ σ' g' s' hfr'
  obtain ⟨ws, hws, hwsF⟩ := outA_sim hol (takePs_length htk') hav
  have hws3 := SimL.ext r3.len r3.ext _ _ hws
  obtain ⟨hw', hlen', _, hsim'⟩ := takePs_sim s3 htk' hws3 f3
  have hR' : pksR rs y = [] := pksR_noOwn (scal_own hrs)
  have hsrc' : src' = [] := List.eq_nil_of_length_eq_zero (by rw [← hlen', hR']; rfl)
  subst hsrc'
  have hsl' := hsim' g3 0 0 ⟨fun j id h => by simp at h, fun j h => by simp at h⟩ (by simp) rfl
  refine ⟨⟨fun b _ hb => s3.keep.same b (fun ho => by
    obtain ⟨i, o, hi, _⟩ := ho
    rw [hps] at hi; simp at hi) hb, fun b hb => s3.keep.live b hb⟩, y, hout, hw', fun N g => ?_⟩
  exact hwsF g H' _ _ (pksA_length _ _ _) (scal_sim hrs hsl')

/-- A contract of a function that hands out a list for all times, from what is shown of the heap. -/
theorem fnQ_lst {P : Program} {f : FuncId} {ps : List Pk} {ks : List Kd} {q : PkTs ps → (PkTs [.lst ks] → Prop) → Prop} (hks : Kd.decs ks ks = isTrue rfl) (hps : ∀ x, pksR ps x = [])
    (h : ∀ x K, q x K → ∀ (H : Heap) (Z : Nat → Prop) (vs : List Value), SimL (gZ Z) H 0 (pksA 0 ps x) vs → (∀ b, Z b → H b ≠ none) → (∀ b, Laid.blocks b = true → H b ≠ none) → Laid.ok (layH H) →
      FnW P f ⟨vs⟩ H fun v H' => Keep Nil H H' ∧ ∃ (xs : List (Tp ks)) (Zn : Nat → Prop), (∀ b, Zn b → H b = none ∧ ∃ c T r, H' b = some (.cells c T r)) ∧ CellOk (fun b => Z b ∨ Zn b) H' (.lst ks) xs v ∧ K (xs, ())) : FnQ P f ps [.lst ks] q := by
  intro x K hx H g vs hl s
  have hσ : (parS ps x).σ = [] := hps x
  have hsl := parS_simL s hl
  rw [hps x] at hsl
  refine (h x K hx H g.Z vs (simL_gZ hsl) s.zlive (fun b hb => by rw [s.layH.1 b hb]; exact s.lay.live b hb) (by rw [s.layH.2]; exact s.lay.ok)).mono fun v H' hk => ?_
  obtain ⟨hk, xs, Zn, hzn, hc, hK⟩ := hk
  obtain ⟨s', _⟩ := s.keepAll hk
  let g' : Gh := ⟨fun b => g.Z b ∨ Zn b, g.B, g.V⟩
  have ext' : ∀ N, Ext N g H' g' H' := fun N => ⟨fun b hb => ⟨.inl hb, rfl⟩, fun _ _ => rfl, fun _ _ => rfl⟩
  refine ⟨.lst ks xs, parS ps x, env0 vs, g', ⟨fun t => SimV.ext (Nat.le_refl _) (ext' _) _ _ (s'.tmp t), fun i o hi => ?_, fun i o hi => ?_, fun i j oi oj _ hi => ?_, fun i o hi => ?_, s'.keep, fun b hb => .inl (s'.zsub b hb), fun b hb => ?_, fun b hb => ?_, s'.lay, fun b hb => ?_⟩, ?_, ?_⟩
  · rw [hσ] at hi; simp at hi
  · rw [hσ] at hi; simp at hi
  · rw [hσ] at hi; simp at hi
  · rw [hσ] at hi; simp at hi
  · rcases hb with hb | hb
    · exact s'.znew b hb
    · exact .inr (.inl (hzn b hb).1)
  · rcases hb with hb | hb
    · exact s'.zlive b hb
    · obtain ⟨_, c, T, r, h⟩ := hzn b hb
      rw [h]; simp
  · rcases hb with hb | hb
    · exact s'.zc b hb
    · obtain ⟨_, c, T, r, h⟩ := hzn b hb
      exact .inr fun ds e => by rw [h] at e; cases e
  · simp only [SimV]; exact hc
  · simp only [outP, outL, frzP, isOwn, cellsA, frzL, frzO, takePs, takeP, rdL, hks, castL, srcIds, uniqB]
    exact hK

/-- What the rows of a row of rows hold. -/
def Holds (Z : Nat → Prop) (H : Heap) (ks : List Kd) (ins : List Inn) (xss : List (List (Tp ks))) : Prop :=
  ins.length = xss.length ∧ ∀ (j : Nat) (i : Inn) (xs : List (Tp ks)), ins[j]? = some i → xss[j]? = some xs → i.n = xs.length ∧ ∀ t x, xs[t]? = some x → CellsOk Z H ks x (fun q => i.ys[t * ks.length + q]?)
theorem Holds.keep {Z : Nat → Prop} {H H' : Heap} {ks : List Kd} {ins : List Inn} {xss : List (List (Tp ks))} (h : Holds Z H ks ins xss) (hz : ∀ b, Z b → H' b = H b) : Holds Z H' ks ins xss :=
  ⟨h.1, fun j i xs h1 h2 => ⟨(h.2 j i xs h1 h2).1, fun t x ht => CellsOk.ext (fun b hb => ⟨hb, hz b hb⟩) _ _ _ ((h.2 j i xs h1 h2).2 t x ht)⟩⟩
theorem Holds.push {Z : Nat → Prop} {H : Heap} {ks : List Kd} {ins : List Inn} {xss : List (List (Tp ks))} (h : Holds Z H ks ins xss) {i : Inn} {xs : List (Tp ks)} (h1 : i.n = xs.length) (h2 : ∀ t x, xs[t]? = some x → CellsOk Z H ks x (fun q => i.ys[t * ks.length + q]?)) : Holds Z H ks (ins ++ [i]) (xss ++ [xs]) := by
  refine ⟨by simp [h.1], fun j i' xs' hj hx => ?_⟩
  have hl := h.1
  rcases Nat.lt_trichotomy j ins.length with hlt | rfl | hgt
  · rw [List.getElem?_append_left hlt] at hj
    rw [List.getElem?_append_left (by omega)] at hx
    exact h.2 j i' xs' hj hx
  · rw [List.getElem?_append_right (Nat.le_refl _)] at hj
    rw [List.getElem?_append_right (by omega)] at hx
    simp [hl] at hj hx
    subst hj hx
    exact ⟨h1, h2⟩
  · rw [List.getElem?_eq_none (by simp; omega)] at hj; cases hj
theorem Holds.set {Z : Nat → Prop} {H : Heap} {ks : List Kd} {ins : List Inn} {xss : List (List (Tp ks))} (h : Holds Z H ks ins xss) {k : Nat} {i : Inn} {xs : List (Tp ks)} (h1 : i.n = xs.length) (h2 : ∀ t x, xs[t]? = some x → CellsOk Z H ks x (fun q => i.ys[t * ks.length + q]?)) : Holds Z H ks (ins.set k i) (xss.set k xs) := by
  refine ⟨by simp [h.1], fun j i' xs' hj hx => ?_⟩
  rw [List.getElem?_set] at hj hx
  split at hj
  · rename_i hk
    subst hk
    split at hj
    · rename_i hlt
      rw [if_pos rfl, if_pos (by rw [← h.1]; exact hlt)] at hx
      cases hj; cases hx
      exact ⟨h1, h2⟩
    · cases hj
  · rename_i hk
    rw [if_neg hk] at hx
    exact h.2 j i' xs' hj hx

/-- A row of rows, for all times. -/
theorem Deep.frz {H0 H : Heap} {To Ti : TypeId} {sz : Nat} {ins : List Inn} {a : Option Addr} {c : Nat} {Z : Nat → Prop} {ks : List Kd} {xss : List (List (Tp ks))} (d : Deep H0 H To Ti sz ins a c) (h : Holds Z H ks ins xss) (hsz : sz = ks.length) (hlx : ∀ xs, xs ∈ xss → xs.length ≤ lenMax) :
    ∃ Zn : Nat → Prop, (∀ b, Zn b → H0 b = none ∧ ∃ cc T r, H b = some (.cells cc T r)) ∧ CellOk (fun b => Z b ∨ Zn b) H (.lst [.lst ks]) xss (.slice a ins.length c) := by
  refine ⟨fun b => a = some ⟨b, 0, none⟩ ∨ ∃ (j : Nat) (i : Inn), ins[j]? = some i ∧ i.a = some ⟨b, 0, none⟩, fun b hb => ?_, ?_⟩
  · rcases hb with hb | ⟨j, i, hj, hb⟩
    · obtain ⟨rest, h1, _⟩ := d.out.blk hb
      exact ⟨d.out.free hb, _, _, _, h1⟩
    · obtain ⟨rest, h1, _⟩ := (d.inn j i hj).blk hb
      exact ⟨(d.inn j i hj).free hb, _, _, _, h1⟩
  · simp only [CellOk]
    refine ⟨a, ins.length, c, rfl, h.1.symm, d.out.le, d.capO, fun h0 => ?_⟩
    obtain ⟨m, hm⟩ := d.out.addr h0
    obtain ⟨rest, hb, _⟩ := d.out.blk hm
    refine ⟨m, 0, hm, .inr (.inl hm), _, _, _, hb, fun j (xs : List (Tp ks)) hj => ?_⟩
    have hlt : j < ins.length := by
      rw [h.1]
      rcases Nat.lt_or_ge j xss.length with h | h
      · exact h
      · have hj' : xss[j]? = some xs := hj
        rw [List.getElem?_eq_none h] at hj'; cases hj'
    have hj' : xss[j]? = some xs := hj
    obtain ⟨hn, hd⟩ := h.2 j _ xs (List.getElem?_eq_getElem hlt) hj'
    simp only [CellsOk, and_true]
    refine ⟨(ins[j]).val, ?_, ?_⟩
    · simp only [List.length_cons, List.length_nil, Nat.zero_add, Nat.mul_one, Nat.add_zero, List.getElem?_toArray]
      rw [List.getElem?_append_left (by simpa using hlt), List.getElem?_map, List.getElem?_eq_getElem hlt]; rfl
    · have own := d.inn j _ (List.getElem?_eq_getElem hlt)
      simp only [CellOk, hdT]
      refine ⟨(ins[j]).a, (ins[j]).n, (ins[j]).cap, rfl, hn.symm, own.le, d.capI j _ (List.getElem?_eq_getElem hlt), fun hn0 => ?_⟩
      obtain ⟨mi, hmi⟩ := own.addr hn0
      obtain ⟨ri, hbi, _⟩ := own.blk hmi
      refine ⟨mi, 0, hmi, .inr (.inr ⟨j, _, List.getElem?_eq_getElem hlt, hmi⟩), _, _, _, hbi, fun t x ht => ?_⟩
      refine CellsOk.ext (fun b hb => ⟨.inl hb, rfl⟩) _ _ _ (CellsOk.congr (fun q hq => ?_) (hd t x ht))
      have htl : t < xs.length := by
        rcases Nat.lt_or_ge t xs.length with h | h
        · exact h
        · have ht' : xs[t]? = some x := ht
          rw [List.getElem?_eq_none h] at ht'; cases ht'
      have hyl := own.len
      simp only [Nat.zero_add, List.getElem?_toArray]
      rw [List.getElem?_append_left]
      rw [hyl, hn, hsz]
      have : (t + 1) * ks.length ≤ xs.length * ks.length := Nat.mul_le_mul_right _ htl
      rw [Nat.succ_mul] at this
      omega

end Go.Sh
