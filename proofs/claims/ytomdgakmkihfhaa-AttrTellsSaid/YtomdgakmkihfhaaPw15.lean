/-
  Contracts of calls that read alone: all that is there may be read, for the time of the call.
-/
import Derived.Test.YtomdgakmkihfhaaPw13
import Derived.Test.YtomdgakmkihfhaaPw14
set_option linter.unusedSectionVars false
set_option linter.unusedSimpArgs false
set_option linter.unusedVariables false
namespace Go.Sh
variable [Laid]

/-- The content of a slice, to be read: of a part of an object, too. -/
def rdC (σ : List AObj) (ks : List Kd) : AV → Option (List (Tp ks))
  | .osl id off n c => match σ[id]? with
    | some (.obj _ _ cs) => match Nat.ble (off + n * ks.length) cs.length && Nat.ble n c && Nat.ble c 1000000 with
      | true => unTs ks n (((cs.drop off).take (n * ks.length)).map (unrow σ))
      | false => none
    | _ => none
  | a => rdL σ ks a
def avInt (k : IntKind) : AV → Option Int
  | .int k' n => match decide (k' = k) with
    | true => some n
    | false => none
  | _ => none
def avBool : AV → Option Bool
  | .bool b => some b
  | _ => none
def avStr : AV → Option (List UInt8)
  | .str s => some s
  | _ => none
def avErr : AV → Option Bool
  | .err b => some b
  | _ => none
def avAgg : AV → Option (List AV)
  | .agg cs => some cs
  | _ => none
def avFn (f : Nat) : AV → Option Unit
  | .fn f' [] => match Nat.beq f' f with
    | true => some ()
    | false => none
  | _ => none
def avNil : AV → Option Unit
  | .nils => some ()
  | _ => none
def rdP (σ : List AObj) (p : Pk) (a : AV) : Option (PkT p) := match p with
  | .int k => avInt k a
  | .bool => avBool a
  | .str => avStr a
  | .lst ks => rdC σ ks a
  | .agg ks => match avAgg a with
    | some cs => unT ks (cs.map (unrow σ))
    | none => none
  | .err => avErr a
  | .fn f => avFn f a
  | .nil => avNil a
  | .own _ _ => none
def rdPs (σ : List AObj) : (ps : List Pk) → List AV → Option (PkTs ps)
  | [], [] => some ()
  | p :: ps, a :: as => match rdP σ p a, rdPs σ ps as with
    | some x, some y => some (x, y)
    | _, _ => none
  | _, _ => none

def gAll (H : Heap) (g : Gh) : Gh := ⟨alive H, g.B, g.V⟩
theorem ext_all {E : En} {st : St} {ρ : Env} {H : Heap} {g : Gh} (s : Sim E st ρ H g) (N : Nat) : Ext N g H (gAll H g) H := ⟨fun b hb => ⟨s.zlive b hb, rfl⟩, fun _ _ => rfl, fun _ _ => rfl⟩
theorem row_all {E : En} {st : St} {ρ : Env} {H : Heap} {g : Gh} (s : Sim E st ρ H g) {T : TypeId} {ks : List Kd} {xs : List (Tp ks)} {v : Value} {b : Nat} (h : RowOk g H T ks xs v b) : CellOk (alive H) H (.lst ks) xs v := by
  obtain ⟨a, n, c, h1, h2, h3, h4, h5⟩ := h
  simp only [CellOk]
  refine ⟨a, n, c, h1, h2, h3, h4, fun h0 => ?_⟩
  rcases h5 with ⟨rfl, h6⟩ | ⟨o, h6, cs, T', hb, hs, hc⟩
  · omega
  · exact ⟨b, o, h6, by show H b ≠ none; rw [hb]; simp, cs, T', _, hb, fun i x hx => CellsOk.ext (ext_all s 0).z _ _ _ (hc i x hx)⟩
theorem unrow_all {E : En} {st : St} {ρ : Env} {H : Heap} {g : Gh} (s : Sim E st ρ H g) {a : AV} {v : Value} (h : SimV g H st.σ.length a v) : SimV (gAll H g) H st.σ.length (unrow st.σ a) v := by
  have h1 := SimV.ext (Nat.le_refl _) (ext_all s _) _ _ h
  cases a <;> first | exact h1 | skip
  rename_i id
  simp only [SimV] at h
  obtain ⟨_, rfl, _⟩ := h
  simp only [unrow]
  split
  · rename_i ho
    simp only [SimV]
    exact row_all (T := 0) s (s.obj id _ ho)
  · rename_i ho
    simp only [SimV]
    exact CellOk.ext (ext_all s 0).z _ _ _ (s.obj id _ ho)
  · simp only [SimV]
theorem unrow_allL {E : En} {st : St} {ρ : Env} {H : Heap} {g : Gh} (s : Sim E st ρ H g) : ∀ {as : List AV} {vs : List Value}, SimL g H st.σ.length as vs → SimL (gAll H g) H st.σ.length (as.map (unrow st.σ)) vs
  | [], [], _ => by simp only [List.map_nil, SimL]
  | [], _ :: _, h => by simp only [SimL] at h
  | _ :: _, [], h => by simp only [SimL] at h
  | a :: as, v :: vs, h => by
    simp only [SimL] at h
    simp only [List.map_cons, SimL]
    exact ⟨unrow_all s h.1, unrow_allL s h.2⟩
theorem rdL_all {E : En} {st : St} {ρ : Env} {H : Heap} {g : Gh} (s : Sim E st ρ H g) {ks : List Kd} {a : AV} {v : Value} {xs : List (Tp ks)} (h : rdL st.σ ks a = some xs) (hs : SimV g H st.σ.length a v) : CellOk (alive H) H (.lst ks) xs v := by
  unfold rdL at h
  split at h
  · split at h
    · rename_i hk _
      subst hk; cases h
      simp only [SimV] at hs
      exact CellOk.ext (ext_all s 0).z _ _ _ hs
    · cases h
  · cases h
    simp only [SimV] at hs
    simp only [CellOk]
    exact ⟨none, 0, 0, hs, rfl, Nat.le_refl _, Nat.zero_le _, fun h => absurd h (by omega)⟩
  · rename_i id
    simp only [SimV] at hs
    obtain ⟨_, rfl, _⟩ := hs
    split at h
    · rename_i T r ks' xs' ho
      split at h
      · rename_i hk _
        subst hk; cases h
        exact row_all (T := 0) s (s.obj id _ ho)
      · cases h
    · rename_i ks' xs' ho
      split at h
      · rename_i hk _
        subst hk; cases h
        exact CellOk.ext (ext_all s 0).z _ _ _ (s.obj id _ ho)
      · cases h
    · cases h
  · cases h
theorem rdC_all {E : En} {st : St} {ρ : Env} {H : Heap} {g : Gh} (s : Sim E st ρ H g) {ks : List Kd} {a : AV} {v : Value} {xs : List (Tp ks)} (h : rdC st.σ ks a = some xs) (hs : SimV g H st.σ.length a v) : CellOk (alive H) H (.lst ks) xs v := by
  unfold rdC at h
  split at h
  case h_2 => exact rdL_all s h hs
  rename_i id off n c
  split at h
  case h_2 => cases h
  rename_i T r cs ho
  split at h
  case h_2 => cases h
  rename_i hb
  simp only [Bool.and_eq_true] at hb
  have hb1 := Nat.le_of_ble_eq_true hb.1.1
  have hb2 := Nat.le_of_ble_eq_true hb.1.2
  have hb3 := Nat.le_of_ble_eq_true hb.2
  simp only [SimV] at hs
  obtain ⟨hid, rfl⟩ := hs
  obtain ⟨us, hB, hsl⟩ := s.obj id _ ho
  have h2 := unrow_allL s ((hsl.drop off).take (n * ks.length))
  obtain ⟨hxl, hol, hoc⟩ := unTs_sim h h2
  simp only [CellOk]
  refine ⟨_, n, c, rfl, hxl, hb2, by unfold lenMax; omega, fun h0 => ⟨g.B id, off, rfl, by show H (g.B id) ≠ none; rw [hB]; simp, ⟨us⟩, T, _, hB, fun i x hx => CellsOk.congr (fun j hj => ?_) (hoc i x hx)⟩⟩
  have hi : i < n := by
    rcases Nat.lt_or_ge i xs.length with h | h
    · omega
    · have : xs[i]? = none := List.getElem?_eq_none h
      have hx' : xs[i]? = some x := hx
      rw [this] at hx'; cases hx'
  have hmul : (i + 1) * ks.length ≤ n * ks.length := Nat.mul_le_mul_right _ (by omega)
  rw [Nat.add_mul] at hmul
  simp only [List.getElem?_toArray]
  rw [List.getElem?_take, if_pos (by omega), List.getElem?_drop, Nat.add_assoc]

theorem rdP_sim {E : En} {st : St} {ρ : Env} {H : Heap} {g : Gh} (s : Sim E st ρ H g) {p : Pk} {a : AV} {v : Value} {x : PkT p} (h : rdP st.σ p a = some x) (hs : SimV g H st.σ.length a v) : WfPk p x ∧ isOwn p = false ∧ ∀ M N, SimV (gAll H g) H N (pkA M p x) v := by
  cases p with
  | int k0 =>
    have h : avInt k0 a = some x := h
    unfold avInt at h
    split at h
    · split at h
      · rename_i hk
        have := of_decide_eq_true hk
        subst this; cases h
        simp only [SimV] at hs
        exact ⟨hs.2, rfl, fun M N => by simp only [pkA, SimV]; exact hs⟩
      · cases h
    · cases h
  | bool =>
    have h : avBool a = some x := h
    unfold avBool at h
    split at h
    · cases h
      simp only [SimV] at hs
      exact ⟨trivial, rfl, fun M N => by simp only [pkA, SimV]; exact hs⟩
    · cases h
  | str =>
    have h : avStr a = some x := h
    unfold avStr at h
    split at h
    · cases h
      simp only [SimV] at hs
      exact ⟨hs.2, rfl, fun M N => by simp only [pkA, SimV]; exact hs⟩
    · cases h
  | lst ks =>
    have := rdC_all s h hs
    exact ⟨CellOk.wf _ _ _ this, rfl, fun M N => by simp only [pkA, SimV]; exact this⟩
  | agg ks =>
    have h : (match avAgg a with
      | some cs => unT ks (cs.map (unrow st.σ))
      | none => none) = some x := h
    unfold avAgg at h
    cases a <;> first | (cases h; done) | skip
    simp only [SimV] at hs
    obtain ⟨vs, rfl, hs⟩ := hs
    have hc := unT_sim h (unrow_allL s hs)
    have hl := unT_length h
    have hl2 := hs.len
    simp only [List.length_map] at hl
    refine ⟨CellsOk.wf _ _ _ hc, rfl, fun M N => ?_⟩
    simp only [pkA, SimV]
    exact ⟨vs, rfl, agg_of_cells hc (by omega)⟩
  | err =>
    have h : avErr a = some x := h
    unfold avErr at h
    split at h
    · cases h
      simp only [SimV] at hs
      exact ⟨trivial, rfl, fun M N => by simp only [pkA, SimV]; exact hs⟩
    · cases h
  | own T ks => cases h
  | fn f' =>
    have h : avFn f' a = some x := h
    unfold avFn at h
    split at h
    · split at h
      · rename_i hf
        have := Nat.eq_of_beq_eq_true hf
        subst this
        simp only [SimV] at hs
        obtain ⟨vs, hv, hvs⟩ := hs
        refine ⟨trivial, rfl, fun M N => ?_⟩
        simp only [pkA, SimV]
        cases vs with
        | nil => exact ⟨[], hv, by simp only [SimL]⟩
        | cons => simp only [SimL] at hvs
      · cases h
    · cases h
  | nil =>
    have h : avNil a = some x := h
    unfold avNil at h
    split at h
    · simp only [SimV] at hs
      exact ⟨trivial, rfl, fun M N => by simp only [pkA, SimV]; exact hs⟩
    · cases h

theorem rdPs_sim {E : En} {st : St} {ρ : Env} {H : Heap} {g : Gh} (s : Sim E st ρ H g) : ∀ {ps : List Pk} {as : List AV} {vs : List Value} {x : PkTs ps}, rdPs st.σ ps as = some x → SimL g H st.σ.length as vs →
    WfPs ps x ∧ pksR ps x = [] ∧ as.length = ps.length ∧ ∀ M N, SimL (gAll H g) H N (pksA M ps x) vs
  | [], [], [], _, _, _ => ⟨trivial, rfl, rfl, fun _ _ => by simp only [pksA, SimL]⟩
  | [], [], _ :: _, _, _, h => by simp only [SimL] at h
  | [], _ :: _, _, _, h, _ => by simp only [rdPs] at h; cases h
  | _ :: _, [], _, _, h, _ => by simp only [rdPs] at h; cases h
  | _ :: _, _ :: _, [], _, _, h => by simp only [SimL] at h
  | p :: ps, a :: as, v :: vs, x, h, hs => by
    simp only [SimL] at hs
    simp only [rdPs] at h
    split at h
    · rename_i y z hy hz
      cases h
      obtain ⟨h1, h2, h3⟩ := rdP_sim s hy hs.1
      obtain ⟨k1, k2, k3, k4⟩ := rdPs_sim s hz hs.2
      refine ⟨⟨h1, k1⟩, ?_, by simp [k3], fun M N => ?_⟩
      · cases p <;> first | exact k2 | (simp only [isOwn] at h2; cases h2)
      · simp only [pksA, SimL, h2]
        exact ⟨h3 M N, k4 M N⟩
    · cases h

/-- What reads alone: whatever is at hand is read, and all is as it was. -/
def ctRd (ps rs : List Pk) (q : PkTs ps → (PkTs rs → Prop) → Prop) : Ct := fun st args K =>
  match rs.all scalarK, rdPs st.σ ps args with
  | true, some x => WfPs ps x → q x fun y => WfPs rs y → K (outA (pksA st.σ.length rs y)) st
  | _, _ => False

theorem ctRd_sound {P : Program} {f : FuncId} {ps rs : List Pk} {q : PkTs ps → (PkTs rs → Prop) → Prop} (hq : FnQ P f ps rs q) : SoundCt P f (ctRd ps rs q) := by
  intro E st ρ H g args vs K s hargs h
  unfold ctRd at h
  split at h
  case h_2 => exact h.elim
  rename_i x hrs htk
  obtain ⟨hw, hR, hlen, hsim⟩ := rdPs_sim s htk hargs
  let g2 : Gh := gAll H g
  have none : ∀ {i : Nat} {o : AObj}, (parS ps x).σ[i]? = some o → False := fun {i o} h => by
    have : (parS ps x).σ = [] := hR
    rw [this] at h; simp at h
  have s2 : Sim ⟨H, Owned g2 (pksR ps x), g2.Z⟩ (parS ps x) (env0 vs) H g2 :=
    { tmp := fun t => by
        have : (parS ps x).σ = [] := hR
        rw [this]
        simpa [parS, env0] using simL_getD (hsim 0 0) t
      obj := fun id o h => (none h).elim
      nz := fun id o h => (none h).elim
      dis := fun i j oi oj _ h => (none h).elim
      own := fun i o h => (none h).elim
      keep := Keep.refl _ _
      zsub := fun _ h => h
      znew := fun _ h => .inl h
      zlive := fun _ h => h
      lay := by
        have e : ∀ b, Owned g2 (pksR ps x) b ↔ Owned g ([] : List AObj) b := fun b => by
          rw [hR]; exact ⟨fun ⟨i, o, h, _⟩ => by simp at h, fun ⟨i, o, h, _⟩ => by simp at h⟩
        refine ⟨fun b hb ho => ?_, fun b hb => ?_, ?_⟩
        · obtain ⟨i, o, h, _⟩ := (e b).1 ho; simp at h
        · exact (s.layE (Z := g.Z)).live b hb
        · exact (s.layE (Z := g.Z)).ok
      zc := fun _ h => .inl h }
  have hvl : vs.length = ps.length := by rw [← hargs.len, hlen]
  refine (hq x _ (h hw) H g2 vs hvl s2).mono fun v H' hk => ?_
  obtain ⟨a, st', ρ', g', s', hav, hout⟩ := hk
  unfold outP at hout
  split at hout
  case h_2 => exact hout.elim
  rename_i as hol
  split at hout
  case h_2 => exact hout.elim
  rename_i σ' hfr'
  split at hout
  case h_2 => exact hout.elim
  rename_i y src' htk'
  split at hout
  case h_2 => exact hout.elim
  obtain ⟨g3, s3, r3, l3, f3, _⟩ := frzP_sound rs as st'.σ σ' g' s' hfr'
  obtain ⟨ws, hws, hwsF⟩ := outA_sim hol (takePs_length htk') hav
  have hws3 := SimL.ext r3.len r3.ext _ _ hws
  obtain ⟨hw', hlen', _, hsim'⟩ := takePs_sim s3 htk' hws3 f3
  have hR' : pksR rs y = [] := pksR_noOwn (scal_own hrs)
  have hsrc' : src' = [] := List.eq_nil_of_length_eq_zero (by rw [← hlen', hR']; rfl)
  subst hsrc'
  have hsl' := hsim' g3 0 0 ⟨fun j id h => by simp at h, fun j h => by simp at h⟩ (by simp) rfl
  have kn : Keep Nil H H' := ⟨fun b _ hb => s3.keep.same b (fun ho => by
    obtain ⟨i, o, hi, _⟩ := ho
    rw [hR] at hi; simp at hi) hb, fun b hb => s3.keep.live b hb⟩
  obtain ⟨sE, rE⟩ := s.keepAll kn
  refine ⟨_, st, g, sE, rE, ?_, rfl, hout hw'⟩
  exact hwsF g H' _ _ (pksA_length _ _ _) (scal_sim hrs hsl')

end Go.Sh
