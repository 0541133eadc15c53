/-
  Calls and contracts said of the heap, with lists and structs as results.
-/
import Derived.Test.YtcnbolonnlmlgaaDoorHeapU
set_option linter.unusedSectionVars false
set_option linter.unusedSimpArgs false
set_option linter.unusedVariables false
namespace Go.Sh
variable [Laid]

theorem ofI_toI : ∀ (k : IntKind) (x : IntTy k), ofI k (toI k x) = x
  | .u8, x => by simp [ofI, toI]
  | .u16, x => by simp [ofI, toI]
  | .u32, x => by simp [ofI, toI]
  | .u64, x => by simp [ofI, toI]
  | .i8, _ => rfl
  | .i16, _ => rfl
  | .i32, _ => rfl
  | .i64, _ => rfl
theorem unE_lvE : ∀ (k : Kd) (x : El k), unE k (lvE k x) = some x
  | .int k, x => by
    simp only [lvE, unE, decide_true]
    exact congrArg some (ofI_toI k x)
  | .bool, _ => rfl
  | .str, _ => rfl
  | .lst ks, xs => by
    simp only [lvE, unE]
    cases h : Kd.decs ks ks with
    | isTrue e => rfl
    | isFalse e => exact absurd rfl e
theorem unrow_lvE (σ : List AObj) : ∀ (k : Kd) (x : El k), unrow σ (lvE k x) = lvE k x
  | .int _, _ => rfl
  | .bool, _ => rfl
  | .str, _ => rfl
  | .lst _, _ => rfl
theorem mkT_hd_tl {k : Kd} : ∀ (ks : List Kd) (x : Tp (k :: ks)), mkT ks (hdT ks x) (tlT ks x) = x
  | [], _ => rfl
  | _ :: _, _ => rfl
theorem unT_lvT (σ : List AObj) : ∀ (ks : List Kd) (x : Tp ks), unT ks ((lvT ks x).map (unrow σ)) = some x
  | [], _ => rfl
  | k :: ks, x => by
    simp only [lvT, List.map_cons, unrow_lvE, unT, unE_lvE, unT_lvT σ ks]
    rw [mkT_hd_tl]
theorem frzL_lvT (σ : List AObj) : ∀ (ks : List Kd) (x : Tp ks), frzL σ (lvT ks x) = some σ
  | [], _ => rfl
  | k :: ks, x => by
    have e : frzO σ (lvE k (hdT ks x)) = some σ := by cases k <;> rfl
    simp only [lvT, frzL, e, frzL_lvT σ ks]
theorem frz_noOwn {σ : List AObj} : ∀ {rs : List Pk} {y : PkTs rs} {M : Nat}, (rs.all fun p => !(isOwn p)) = true → frzP σ rs (pksA M rs y) = some σ
  | [], _, _, _ => rfl
  | r :: rs, y, M, h => by
    simp only [List.all_cons, Bool.and_eq_true] at h
    have ih := frz_noOwn (σ := σ) (rs := rs) (y := y.2) (M := M) h.2
    cases r <;> simp only [isOwn] at h <;> first | (simp at h; done) | skip
    case agg ks =>
      have e : frzL σ (lvT ks y.1) = some σ := frzL_lvT σ ks y.1
      simp only [pksA, frzP, isOwn, pkA, cellsA]
      rw [e]
      exact ih
    all_goals
      simp only [pksA, frzP, isOwn, pkA, cellsA, frzL, frzO]
      exact ih
theorem rdL_lst (σ : List AObj) (ks : List Kd) (xs : List (Tp ks)) : rdL σ ks (.lst ks xs) = some xs := by
  simp only [rdL]
  cases h : Kd.decs ks ks with
  | isTrue e => rfl
  | isFalse e => exact absurd rfl e
theorem take_noOwn {σ : List AObj} : ∀ {rs : List Pk} {y : PkTs rs} {M : Nat}, (rs.all fun p => !(isOwn p)) = true → takePs σ rs (pksA M rs y) = some (y, [])
  | [], _, _, _ => rfl
  | r :: rs, y, M, h => by
    simp only [List.all_cons, Bool.and_eq_true] at h
    have ih := take_noOwn (σ := σ) (rs := rs) (y := y.2) (M := M) h.2
    cases r <;> simp only [isOwn] at h <;> first | (simp at h; done) | skip
    case lst ks =>
      have e : rdL σ ks (.lst ks y.1) = some y.1 := rdL_lst σ ks y.1
      simp only [pksA, takePs, isOwn, pkA, takeP, ih]
      rw [e]
      rfl
    case agg ks =>
      have e : unT ks ((lvT ks y.1).map (unrow σ)) = some y.1 := unT_lvT σ ks y.1
      simp only [pksA, takePs, isOwn, pkA, takeP, ih]
      rw [e]
      rfl
    all_goals
      simp only [pksA, takePs, isOwn, pkA, takeP, decide_true, ih, Nat.beq_refl]
      try rfl
theorem outP_noOwn {rs : List Pk} {st : St} {y : PkTs rs} {K : PkTs rs → Prop} {M : Nat} (h : (rs.all fun p => !(isOwn p)) = true) (k : K y) : outP rs st (outA (pksA M rs y)) K := by
  unfold outP
  rw [outL_outA (pksA_length _ _ _)]
  simp only [frz_noOwn h, take_noOwn h, srcIds, uniqB]
  exact k

/-- Blocks that came new, and hold what is frozen. -/
def Fresh (H H' : Heap) (Zn : Nat → Prop) : Prop := ∀ b, Zn b → H b = none ∧ H' b ≠ none ∧ ∀ ds, H' b ≠ some (.deferred ds)
theorem Fresh.none {H H' : Heap} : Fresh H H' (fun _ => False) := fun _ h => h.elim
theorem Fresh.later {S : Nat → Prop} {H H' H'' : Heap} {Zn : Nat → Prop} (h : Fresh H H' Zn) (k : Keep S H' H'') (hs : ∀ b, Zn b → ¬ S b) : Fresh H H'' Zn := fun b hb => by
  obtain ⟨h1, h2, h3⟩ := h b hb
  rw [k.same b (hs b hb) h2]
  exact ⟨h1, h2, h3⟩
theorem Fresh.early {S : Nat → Prop} {H H' H'' : Heap} {Zn : Nat → Prop} (h : Fresh H' H'' Zn) (k : Keep S H H') : Fresh H H'' Zn := fun b hb => by
  obtain ⟨h1, h2, h3⟩ := h b hb
  exact ⟨k.free h1, h2, h3⟩
theorem Fresh.both {H H' : Heap} {Z1 Z2 : Nat → Prop} (h1 : Fresh H H' Z1) (h2 : Fresh H H' Z2) : Fresh H H' (fun b => Z1 b ∨ Z2 b) := fun b hb => hb.elim (h1 b) (h2 b)
theorem Fresh.mono {H H' : Heap} {Z1 Z2 : Nat → Prop} (h1 : Fresh H H' Z1) (h2 : ∀ b, Z2 b → Z1 b) : Fresh H H' Z2 := fun b hb => h1 b (h2 b hb)
theorem Fresh.shut {H0 H H' H'' : Heap} {Zn : Nat → Prop} (h : Fresh H H' Zn) (hs : Shut H0 H' H'') : Fresh H H'' Zn := fun b hb => by
  obtain ⟨h1, h2, h3⟩ := h b hb
  rcases hs b with e | ⟨_, e, _⟩
  · rw [e]; exact ⟨h1, h2, h3⟩
  · exact absurd e (h3 _)

/-- A call of what has a contract, from the heap alone: the results may be lists for all times. -/
theorem FnQ.runZ {P : Program} {f : FuncId} {ps rs : List Pk} {q : PkTs ps → (PkTs rs → Prop) → Prop} (hq : FnQ P f ps rs q) (hrs : (rs.all fun p => !(isOwn p)) = true) {x : PkTs ps} (hps : pksR ps x = []) {vs : List Value} {H : Heap} {Z : Nat → Prop}
    (hs : SimL (gZ Z) H 0 (pksA 0 ps x) vs) (hz : ∀ b, Z b → H b ≠ none) (hlay : ∀ b, Laid.blocks b = true → H b ≠ none) (hlo : Laid.ok (layH H)) {K : PkTs rs → Prop} (h : q x K) :
    FnW P f ⟨vs⟩ H fun v H' => Keep Nil H H' ∧ ∃ y Zn, K y ∧ WfPs rs y ∧ Fresh H H' Zn ∧ SimV (gZ fun b => Z b ∨ Zn b) H' 0 (outA (pksA 0 rs y)) v := by
  have hσ : (parS ps x).σ = [] := hps
  have s2 : Sim ⟨H, Owned (gZ Z) (pksR ps x), (gZ Z).Z⟩ (parS ps x) (env0 vs) H (gZ Z) := by
    refine ⟨fun t => ?_, fun i o hi => ?_, fun i o hi => ?_, fun i j oi oj _ hi => ?_, fun i o hi => ?_, Keep.refl _ _, fun b hb => hb, fun b hb => .inl hb, hz, ⟨fun b hb ho => ?_, hlay, hlo⟩, fun b hb => .inl hb⟩
    · rw [hσ]
      simpa [parS, env0] using simL_getD hs t
    · rw [hσ] at hi; simp at hi
    · rw [hσ] at hi; simp at hi
    · rw [hσ] at hi; simp at hi
    · rw [hσ] at hi; simp at hi
    · obtain ⟨i, o, hi, _⟩ := ho
      rw [hps] at hi; simp at hi
  have hvl : vs.length = ps.length := by rw [← hs.len, pksA_length]
  refine (hq x _ h H (gZ Z) vs hvl s2).mono fun v H' hk => ?_
  obtain ⟨a, st', ρ', g', s', hav, hout⟩ := hk
  unfold outP at hout
  split at hout
  case h_2 => exact hout.elim
  rename_i as hol
  split at hout
  case h_2 => exact hout.elim
  rename_i σ' hfr'
  split at hout
  case h_2 => exact hout.elim
  rename_i y src' htk'
  split at hout
  case h_2 => exact hout.elim
  obtain ⟨g3, s3, r3, l3, f3, _⟩ := frzP_sound rs as st'.σ σ' g' s' hfr'
  obtain ⟨ws, hws, hwsF⟩ := outA_sim hol (takePs_length htk') hav
  have hws3 := SimL.ext r3.len r3.ext _ _ hws
  obtain ⟨hw', hlen', _, hsim'⟩ := takePs_sim s3 htk' hws3 f3
  have hR' : pksR rs y = [] := pksR_noOwn hrs
  have hsrc' : src' = [] := List.eq_nil_of_length_eq_zero (by rw [← hlen', hR']; rfl)
  subst hsrc'
  have hsl' := hsim' g3 0 0 ⟨fun j id h => by simp at h, fun j h => by simp at h⟩ (by simp) rfl
  have noOwn : ∀ b, ¬ Owned (gZ Z) (pksR ps x) b := fun b ho => by
    obtain ⟨i, o, hi, _⟩ := ho
    rw [hps] at hi; simp at hi
  refine ⟨⟨fun b _ hb => s3.keep.same b (noOwn b) hb, fun b hb => s3.keep.live b hb⟩, y, fun b => g3.Z b ∧ H b = none, hout, hw', fun b hb => ⟨hb.2, s3.zlive b hb.1, ?_⟩, ?_⟩
  · rcases s3.zc b hb.1 with h | h
    · exact absurd hb.2 (hz b h)
    · exact h
  · have e := SimL.ext (g := g3) (g' := gZ fun b => Z b ∨ (g3.Z b ∧ H b = none)) (H' := H') (N := 0) (N' := 0) (Nat.le_refl _) ⟨fun b hb => ⟨by
      rcases s3.znew b hb with h | h | h
      · exact .inl h
      · exact .inr ⟨hb, h⟩
      · exact absurd h (noOwn b), rfl⟩, fun _ h => absurd h (by omega), fun _ h => absurd h (by omega)⟩ _ _ hsl'
    exact hwsF (gZ fun b => Z b ∨ (g3.Z b ∧ H b = none)) H' _ _ (pksA_length _ _ _) e

/-- A contract of a function that hands out data alone, from what is shown of the heap. -/
theorem fnQ_any {P : Program} {f : FuncId} {ps rs : List Pk} {q : PkTs ps → (PkTs rs → Prop) → Prop} (hrs : (rs.all fun p => !(isOwn p)) = true) (hps : ∀ x, pksR ps x = [])
    (h : ∀ x K, q x K → ∀ (H : Heap) (Z : Nat → Prop) (vs : List Value), SimL (gZ Z) H 0 (pksA 0 ps x) vs → (∀ b, Z b → H b ≠ none) → (∀ b, Laid.blocks b = true → H b ≠ none) → Laid.ok (layH H) →
      FnW P f ⟨vs⟩ H fun v H' => Keep Nil H H' ∧ ∃ (y : PkTs rs) (Zn : Nat → Prop), K y ∧ Fresh H H' Zn ∧ SimV (gZ fun b => Z b ∨ Zn b) H' 0 (outA (pksA 0 rs y)) v) : FnQ P f ps rs q := by
  intro x K hx H g vs hl s
  have hσ : (parS ps x).σ = [] := hps x
  have hsl := parS_simL s hl
  rw [hps x] at hsl
  refine (h x K hx H g.Z vs (simL_gZ hsl) s.zlive (fun b hb => by rw [s.layH.1 b hb]; exact s.lay.live b hb) (by rw [s.layH.2]; exact s.lay.ok)).mono fun v H' hk => ?_
  obtain ⟨hk, y, Zn, hK, hzn, hc⟩ := hk
  obtain ⟨s', _⟩ := s.keepAll hk
  let g' : Gh := ⟨fun b => g.Z b ∨ Zn b, g.B, g.V⟩
  have ext' : ∀ N, Ext N g H' g' H' := fun N => ⟨fun b hb => ⟨.inl hb, rfl⟩, fun _ _ => rfl, fun _ _ => rfl⟩
  refine ⟨outA (pksA 0 rs y), parS ps x, env0 vs, g', ⟨fun t => SimV.ext (Nat.le_refl _) (ext' _) _ _ (s'.tmp t), fun i o hi => ?_, fun i o hi => ?_, fun i j oi oj _ hi => ?_, fun i o hi => ?_, s'.keep, fun b hb => .inl (s'.zsub b hb), fun b hb => ?_, fun b hb => ?_, s'.lay, fun b hb => ?_⟩, ?_, ?_⟩
  · rw [hσ] at hi; simp at hi
  · rw [hσ] at hi; simp at hi
  · rw [hσ] at hi; simp at hi
  · rw [hσ] at hi; simp at hi
  · rcases hb with hb | hb
    · exact s'.znew b hb
    · exact .inr (.inl (hzn b hb).1)
  · rcases hb with hb | hb
    · exact s'.zlive b hb
    · exact (hzn b hb).2.1
  · rcases hb with hb | hb
    · exact s'.zc b hb
    · exact .inr (hzn b hb).2.2
  · exact SimV.ext (g := gZ fun b => g.Z b ∨ Zn b) (g' := g') (N := 0) (Nat.zero_le _) ⟨fun b hb => ⟨hb, rfl⟩, fun _ h => absurd h (by omega), fun _ h => absurd h (by omega)⟩ _ _ hc
  · exact outP_noOwn hrs hK

end Go.Sh
