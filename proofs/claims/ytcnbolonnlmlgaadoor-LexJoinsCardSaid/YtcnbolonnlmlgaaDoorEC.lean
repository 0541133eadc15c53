/-
  A call that is run where it stands: the callee's text over the caller's own objects.
  Contracts of calls that read alone: all that is there may be read, for the time of the call.
  Contracts out of what is known of a call in the model; the row, where package-level variables are listed.
  Contracts and calls said of the heap: for what is shown by hand.
-/
import Derived.Test.YtcnbolonnlmlgaaDoorPw12
import Derived.Test.YtcnbolonnlmlgaaDoorPw13
import Derived.Stop.Joined
import Derived.LaidSub
import Derived.MakeChecks
import Derived.Test.YtcnbolonnlmlgaaDoorSh15
section
set_option linter.unusedSectionVars false
set_option linter.unusedSimpArgs false
set_option linter.unusedVariables false
namespace Go.Sh
variable [Laid]

def ctInl (P : Program) (tab : Tab) (plan : PPlan) (c : Code) (n : Nat) (rs : List ResultVar) : Ct := fun st args K => match Nat.ble args.length n with
  | true => PCode P tab plan c ⟨fun i => args.getD i .undef, st.σ⟩ (PRet P rs fun a st' => K a ⟨st.α, st'.σ⟩)
  | false => False

theorem ctInl_sound {P : Program} {f : FuncId} {fn : Func} {plan : PPlan} {c : Code} {tab : Tab} (k : Known P f fn plan.plan c) (ht : TabsOk P tab) : SoundCt P f (ctInl P tab plan c fn.ntmps fn.results.toList) := by
  intro E st ρ H g args vs K s hargs h
  unfold ctInl at h
  split at h
  case h_2 => exact h.elim
  rename_i hle
  have s1 : Sim E ⟨fun i => args.getD i .undef, st.σ⟩ (env0 vs) H g := { s with tmp := fun t => by simpa [env0] using simL_getD hargs t }
  refine (FnP k ht (args := vs) (by rw [← hargs.len]; exact hle) s1 h).mono fun v H' hk => ?_
  obtain ⟨a, st', ρ', g', s', r', hv, hka⟩ := hk
  exact ⟨a, ⟨st.α, st'.σ⟩, g', { s' with tmp := fun t => SimV.ext r'.len r'.ext _ _ (s.tmp t) }, ⟨r'.len, r'.ext, r'.ro⟩, hv, rfl, hka⟩

end Go.Sh
end

section
set_option linter.unusedSectionVars false
set_option linter.unusedSimpArgs false
set_option linter.unusedVariables false
namespace Go.Sh
variable [Laid]

/-- The content of a slice, to be read: of a part of an object, too. -/
def rdC (σ : List AObj) (ks : List Kd) : AV → Option (List (Tp ks))
  | .osl id off n c => match σ[id]? with
    | some (.obj _ _ cs) => match Nat.ble (off + n * ks.length) cs.length && Nat.ble n c && Nat.ble c 1000000 with
      | true => unTs ks n (((cs.drop off).take (n * ks.length)).map (unrow σ))
      | false => none
    | _ => none
  | a => rdL σ ks a
def avInt (k : IntKind) : AV → Option Int
  | .int k' n => match decide (k' = k) with
    | true => some n
    | false => none
  | _ => none
def avBool : AV → Option Bool
  | .bool b => some b
  | _ => none
def avStr : AV → Option (List UInt8)
  | .str s => some s
  | _ => none
def avErr : AV → Option Bool
  | .err b => some b
  | _ => none
def avAgg : AV → Option (List AV)
  | .agg cs => some cs
  | _ => none
def avFn (f : Nat) : AV → Option Unit
  | .fn f' [] => match Nat.beq f' f with
    | true => some ()
    | false => none
  | _ => none
def avNil : AV → Option Unit
  | .nils => some ()
  | _ => none
def rdP (σ : List AObj) (p : Pk) (a : AV) : Option (PkT p) := match p with
  | .int k => avInt k a
  | .bool => avBool a
  | .str => avStr a
  | .lst ks => rdC σ ks a
  | .agg ks => match avAgg a with
    | some cs => unT ks (cs.map (unrow σ))
    | none => none
  | .err => avErr a
  | .fn f => avFn f a
  | .nil => avNil a
  | .own _ _ => none
def rdPs (σ : List AObj) : (ps : List Pk) → List AV → Option (PkTs ps)
  | [], [] => some ()
  | p :: ps, a :: as => match rdP σ p a, rdPs σ ps as with
    | some x, some y => some (x, y)
    | _, _ => none
  | _, _ => none

def gAll (H : Heap) (g : Gh) : Gh := ⟨alive H, g.B, g.V⟩
theorem ext_all {E : En} {st : St} {ρ : Env} {H : Heap} {g : Gh} (s : Sim E st ρ H g) (N : Nat) : Ext N g H (gAll H g) H := ⟨fun b hb => ⟨s.zlive b hb, rfl⟩, fun _ _ => rfl, fun _ _ => rfl⟩
theorem row_all {E : En} {st : St} {ρ : Env} {H : Heap} {g : Gh} (s : Sim E st ρ H g) {T : TypeId} {ks : List Kd} {xs : List (Tp ks)} {v : Value} {b : Nat} (h : RowOk g H T ks xs v b) : CellOk (alive H) H (.lst ks) xs v := by
  obtain ⟨a, n, c, h1, h2, h3, h4, h5⟩ := h
  simp only [CellOk]
  refine ⟨a, n, c, h1, h2, h3, h4, fun h0 => ?_⟩
  rcases h5 with ⟨rfl, h6⟩ | ⟨o, h6, cs, T', hb, hs, hc⟩
  · omega
  · exact ⟨b, o, h6, by show H b ≠ none; rw [hb]; simp, cs, T', _, hb, fun i x hx => CellsOk.ext (ext_all s 0).z _ _ _ (hc i x hx)⟩
theorem unrow_all {E : En} {st : St} {ρ : Env} {H : Heap} {g : Gh} (s : Sim E st ρ H g) {a : AV} {v : Value} (h : SimV g H st.σ.length a v) : SimV (gAll H g) H st.σ.length (unrow st.σ a) v := by
  have h1 := SimV.ext (Nat.le_refl _) (ext_all s _) _ _ h
  cases a <;> first | exact h1 | skip
  rename_i id
  simp only [SimV] at h
  obtain ⟨_, rfl, _⟩ := h
  simp only [unrow]
  split
  · rename_i ho
    simp only [SimV]
    exact row_all (T := 0) s (s.obj id _ ho)
  · rename_i ho
    simp only [SimV]
    exact CellOk.ext (ext_all s 0).z _ _ _ (s.obj id _ ho)
  · simp only [SimV]
theorem unrow_allL {E : En} {st : St} {ρ : Env} {H : Heap} {g : Gh} (s : Sim E st ρ H g) : ∀ {as : List AV} {vs : List Value}, SimL g H st.σ.length as vs → SimL (gAll H g) H st.σ.length (as.map (unrow st.σ)) vs
  | [], [], _ => by simp only [List.map_nil, SimL]
  | [], _ :: _, h => by simp only [SimL] at h
  | _ :: _, [], h => by simp only [SimL] at h
  | a :: as, v :: vs, h => by
    simp only [SimL] at h
    simp only [List.map_cons, SimL]
    exact ⟨unrow_all s h.1, unrow_allL s h.2⟩
theorem rdL_all {E : En} {st : St} {ρ : Env} {H : Heap} {g : Gh} (s : Sim E st ρ H g) {ks : List Kd} {a : AV} {v : Value} {xs : List (Tp ks)} (h : rdL st.σ ks a = some xs) (hs : SimV g H st.σ.length a v) : CellOk (alive H) H (.lst ks) xs v := by
  unfold rdL at h
  split at h
  · split at h
    · rename_i hk _
      subst hk; cases h
      simp only [SimV] at hs
      exact CellOk.ext (ext_all s 0).z _ _ _ hs
    · cases h
  · cases h
    simp only [SimV] at hs
    simp only [CellOk]
    exact ⟨none, 0, 0, hs, rfl, Nat.le_refl _, Nat.zero_le _, fun h => absurd h (by omega)⟩
  · rename_i id
    simp only [SimV] at hs
    obtain ⟨_, rfl, _⟩ := hs
    split at h
    · rename_i T r ks' xs' ho
      split at h
      · rename_i hk _
        subst hk; cases h
        exact row_all (T := 0) s (s.obj id _ ho)
      · cases h
    · rename_i ks' xs' ho
      split at h
      · rename_i hk _
        subst hk; cases h
        exact CellOk.ext (ext_all s 0).z _ _ _ (s.obj id _ ho)
      · cases h
    · cases h
  · cases h
theorem rdC_all {E : En} {st : St} {ρ : Env} {H : Heap} {g : Gh} (s : Sim E st ρ H g) {ks : List Kd} {a : AV} {v : Value} {xs : List (Tp ks)} (h : rdC st.σ ks a = some xs) (hs : SimV g H st.σ.length a v) : CellOk (alive H) H (.lst ks) xs v := by
  unfold rdC at h
  split at h
  case h_2 => exact rdL_all s h hs
  rename_i id off n c
  split at h
  case h_2 => cases h
  rename_i T r cs ho
  split at h
  case h_2 => cases h
  rename_i hb
  simp only [Bool.and_eq_true] at hb
  have hb1 := Nat.le_of_ble_eq_true hb.1.1
  have hb2 := Nat.le_of_ble_eq_true hb.1.2
  have hb3 := Nat.le_of_ble_eq_true hb.2
  simp only [SimV] at hs
  obtain ⟨hid, rfl⟩ := hs
  obtain ⟨us, hB, hsl⟩ := s.obj id _ ho
  have h2 := unrow_allL s ((hsl.drop off).take (n * ks.length))
  obtain ⟨hxl, hol, hoc⟩ := unTs_sim h h2
  simp only [CellOk]
  refine ⟨_, n, c, rfl, hxl, hb2, by unfold lenMax; omega, fun h0 => ⟨g.B id, off, rfl, by show H (g.B id) ≠ none; rw [hB]; simp, ⟨us⟩, T, _, hB, fun i x hx => CellsOk.congr (fun j hj => ?_) (hoc i x hx)⟩⟩
  have hi : i < n := by
    rcases Nat.lt_or_ge i xs.length with h | h
    · omega
    · have : xs[i]? = none := List.getElem?_eq_none h
      have hx' : xs[i]? = some x := hx
      rw [this] at hx'; cases hx'
  have hmul : (i + 1) * ks.length ≤ n * ks.length := Nat.mul_le_mul_right _ (by omega)
  rw [Nat.add_mul] at hmul
  simp only [List.getElem?_toArray]
  rw [List.getElem?_take, if_pos (by omega), List.getElem?_drop, Nat.add_assoc]

theorem rdP_sim {E : En} {st : St} {ρ : Env} {H : Heap} {g : Gh} (s : Sim E st ρ H g) {p : Pk} {a : AV} {v : Value} {x : PkT p} (h : rdP st.σ p a = some x) (hs : SimV g H st.σ.length a v) : WfPk p x ∧ isOwn p = false ∧ ∀ M N, SimV (gAll H g) H N (pkA M p x) v := by
  cases p with
  | int k0 =>
    have h : avInt k0 a = some x := h
    unfold avInt at h
    split at h
    · split at h
      · rename_i hk
        have := of_decide_eq_true hk
        subst this; cases h
        simp only [SimV] at hs
        exact ⟨hs.2, rfl, fun M N => by simp only [pkA, SimV]; exact hs⟩
      · cases h
    · cases h
  | bool =>
    have h : avBool a = some x := h
    unfold avBool at h
    split at h
    · cases h
      simp only [SimV] at hs
      exact ⟨trivial, rfl, fun M N => by simp only [pkA, SimV]; exact hs⟩
    · cases h
  | str =>
    have h : avStr a = some x := h
    unfold avStr at h
    split at h
    · cases h
      simp only [SimV] at hs
      exact ⟨hs.2, rfl, fun M N => by simp only [pkA, SimV]; exact hs⟩
    · cases h
  | lst ks =>
    have := rdC_all s h hs
    exact ⟨CellOk.wf _ _ _ this, rfl, fun M N => by simp only [pkA, SimV]; exact this⟩
  | agg ks =>
    have h : (match avAgg a with
      | some cs => unT ks (cs.map (unrow st.σ))
      | none => none) = some x := h
    unfold avAgg at h
    cases a <;> first | (cases h; done) | skip
    simp only [SimV] at hs
    obtain ⟨vs, rfl, hs⟩ := hs
    have hc := unT_sim h (unrow_allL s hs)
    have hl := unT_length h
    have hl2 := hs.len
    simp only [List.length_map] at hl
    refine ⟨CellsOk.wf _ _ _ hc, rfl, fun M N => ?_⟩
    simp only [pkA, SimV]
    exact ⟨vs, rfl, agg_of_cells hc (by omega)⟩
  | err =>
    have h : avErr a = some x := h
    unfold avErr at h
    split at h
    · cases h
      simp only [SimV] at hs
      exact ⟨trivial, rfl, fun M N => by simp only [pkA, SimV]; exact hs⟩
    · cases h
  | own T ks => cases h
  | fn f' =>
    have h : avFn f' a = some x := h
    unfold avFn at h
    split at h
    · split at h
      · rename_i hf
        have := Nat.eq_of_beq_eq_true hf
        subst this
        simp only [SimV] at hs
        obtain ⟨vs, hv, hvs⟩ := hs
        refine ⟨trivial, rfl, fun M N => ?_⟩
        simp only [pkA, SimV]
        cases vs with
        | nil => exact ⟨[], hv, by simp only [SimL]⟩
        | cons => simp only [SimL] at hvs
      · cases h
    · cases h
  | nil =>
    have h : avNil a = some x := h
    unfold avNil at h
    split at h
    · simp only [SimV] at hs
      exact ⟨trivial, rfl, fun M N => by simp only [pkA, SimV]; exact hs⟩
    · cases h

theorem rdPs_sim {E : En} {st : St} {ρ : Env} {H : Heap} {g : Gh} (s : Sim E st ρ H g) : ∀ {ps : List Pk} {as : List AV} {vs : List Value} {x : PkTs ps}, rdPs st.σ ps as = some x → SimL g H st.σ.length as vs →
    WfPs ps x ∧ pksR ps x = [] ∧ as.length = ps.length ∧ ∀ M N, SimL (gAll H g) H N (pksA M ps x) vs
  | [], [], [], _, _, _ => ⟨trivial, rfl, rfl, fun _ _ => by simp only [pksA, SimL]⟩
  | [], [], _ :: _, _, _, h => by simp only [SimL] at h
  | [], _ :: _, _, _, h, _ => by simp only [rdPs] at h; cases h
  | _ :: _, [], _, _, h, _ => by simp only [rdPs] at h; cases h
  | _ :: _, _ :: _, [], _, _, h => by simp only [SimL] at h
  | p :: ps, a :: as, v :: vs, x, h, hs => by
    simp only [SimL] at hs
    simp only [rdPs] at h
    split at h
    · rename_i y z hy hz
      cases h
      obtain ⟨h1, h2, h3⟩ := rdP_sim s hy hs.1
      obtain ⟨k1, k2, k3, k4⟩ := rdPs_sim s hz hs.2
      refine ⟨⟨h1, k1⟩, ?_, by simp [k3], fun M N => ?_⟩
      · cases p <;> first | exact k2 | (simp only [isOwn] at h2; cases h2)
      · simp only [pksA, SimL, h2]
        exact ⟨h3 M N, k4 M N⟩
    · cases h

/-- What reads alone: whatever is at hand is read, and all is as it was. -/
def ctRd (ps rs : List Pk) (q : PkTs ps → (PkTs rs → Prop) → Prop) : Ct := fun st args K =>
  match rs.all scalarK, rdPs st.σ ps args with
  | true, some x => WfPs ps x → q x fun y => WfPs rs y → K (outA (pksA st.σ.length rs y)) st
  | _, _ => False

theorem ctRd_sound {P : Program} {f : FuncId} {ps rs : List Pk} {q : PkTs ps → (PkTs rs → Prop) → Prop} (hq : FnQ P f ps rs q) : SoundCt P f (ctRd ps rs q) := by
  intro E st ρ H g args vs K s hargs h
  unfold ctRd at h
  split at h
  case h_2 => exact h.elim
  rename_i x hrs htk
  obtain ⟨hw, hR, hlen, hsim⟩ := rdPs_sim s htk hargs
  let g2 : Gh := gAll H g
  have none : ∀ {i : Nat} {o : AObj}, (parS ps x).σ[i]? = some o → False := fun {i o} h => by
    have : (parS ps x).σ = [] := hR
    rw [this] at h; simp at h
  have s2 : Sim ⟨H, Owned g2 (pksR ps x), g2.Z⟩ (parS ps x) (env0 vs) H g2 :=
    { tmp := fun t => by
        have : (parS ps x).σ = [] := hR
        rw [this]
        simpa [parS, env0] using simL_getD (hsim 0 0) t
      obj := fun id o h => (none h).elim
      nz := fun id o h => (none h).elim
      dis := fun i j oi oj _ h => (none h).elim
      own := fun i o h => (none h).elim
      keep := Keep.refl _ _
      zsub := fun _ h => h
      znew := fun _ h => .inl h
      zlive := fun _ h => h
      lay := by
        have e : ∀ b, Owned g2 (pksR ps x) b ↔ Owned g ([] : List AObj) b := fun b => by
          rw [hR]; exact ⟨fun ⟨i, o, h, _⟩ => by simp at h, fun ⟨i, o, h, _⟩ => by simp at h⟩
        refine ⟨fun b hb ho => ?_, fun b hb => ?_, ?_⟩
        · obtain ⟨i, o, h, _⟩ := (e b).1 ho; simp at h
        · exact (s.layE (Z := g.Z)).live b hb
        · exact (s.layE (Z := g.Z)).ok
      zc := fun _ h => .inl h }
  have hvl : vs.length = ps.length := by rw [← hargs.len, hlen]
  refine (hq x _ (h hw) H g2 vs hvl s2).mono fun v H' hk => ?_
  obtain ⟨a, st', ρ', g', s', hav, hout⟩ := hk
  unfold outP at hout
  split at hout
  case h_2 => exact hout.elim
  rename_i as hol
  split at hout
  case h_2 => exact hout.elim
  rename_i σ' hfr'
  split at hout
  case h_2 => exact hout.elim
  rename_i y src' htk'
  split at hout
  case h_2 => exact hout.elim
  obtain ⟨g3, s3, r3, l3, f3, _⟩ := frzP_sound rs as st'.σ σ' g' s' hfr'
  obtain ⟨ws, hws, hwsF⟩ := outA_sim hol (takePs_length htk') hav
  have hws3 := SimL.ext r3.len r3.ext _ _ hws
  obtain ⟨hw', hlen', _, hsim'⟩ := takePs_sim s3 htk' hws3 f3
  have hR' : pksR rs y = [] := pksR_noOwn (scal_own hrs)
  have hsrc' : src' = [] := List.eq_nil_of_length_eq_zero (by rw [← hlen', hR']; rfl)
  subst hsrc'
  have hsl' := hsim' g3 0 0 ⟨fun j id h => by simp at h, fun j h => by simp at h⟩ (by simp) rfl
  have kn : Keep Nil H H' := ⟨fun b _ hb => s3.keep.same b (fun ho => by
    obtain ⟨i, o, hi, _⟩ := ho
    rw [hR] at hi; simp at hi) hb, fun b hb => s3.keep.live b hb⟩
  obtain ⟨sE, rE⟩ := s.keepAll kn
  refine ⟨_, st, g, sE, rE, ?_, rfl, hout hw'⟩
  exact hwsF g H' _ _ (pksA_length _ _ _) (scal_sim hrs hsl')

end Go.Sh
end

section
set_option linter.unusedSectionVars false
set_option linter.unusedSimpArgs false
set_option linter.unusedVariables false
namespace Go.Sh
variable [Laid]

theorem simL_of {g : Gh} {H : Heap} {N : Nat} : ∀ {as : List AV} {vs : List Value}, as.length = vs.length → (∀ i, i < as.length → SimV g H N (as.getD i .undef) (vs.getD i undef)) → SimL g H N as vs
  | [], [], _, _ => by simp only [SimL]
  | [], _ :: _, h, _ => by simp at h
  | _ :: _, [], h, _ => by simp at h
  | a :: as, v :: vs, h, hs => by
    simp only [SimL]
    exact ⟨by simpa using hs 0 (by simp), simL_of (by simpa using h) fun i hi => by simpa using hs (i + 1) (by simpa using hi)⟩

theorem frz_scal {σ : List AObj} : ∀ {rs : List Pk} {y : PkTs rs} {M : Nat}, rs.all scalarK = true → frzP σ rs (pksA M rs y) = some σ
  | [], _, _, _ => rfl
  | r :: rs, y, M, h => by
    simp only [List.all_cons, Bool.and_eq_true] at h
    have ih := frz_scal (σ := σ) (rs := rs) (y := y.2) (M := M) h.2
    cases r <;> simp only [scalarK] at h <;> first | (cases h.1; done) | skip
    all_goals
      simp only [pksA, frzP, isOwn, pkA, cellsA, frzL, frzO]
      exact ih
theorem take_scal {σ : List AObj} : ∀ {rs : List Pk} {y : PkTs rs} {M : Nat}, rs.all scalarK = true → takePs σ rs (pksA M rs y) = some (y, [])
  | [], _, _, _ => rfl
  | r :: rs, y, M, h => by
    simp only [List.all_cons, Bool.and_eq_true] at h
    have ih := take_scal (σ := σ) (rs := rs) (y := y.2) (M := M) h.2
    cases r <;> simp only [scalarK] at h <;> first | (cases h.1; done) | skip
    all_goals
      simp only [pksA, takePs, isOwn, pkA, takeP, decide_true, ih]
      rfl
theorem outL_outA {rs : List Pk} {as : List AV} (h : as.length = rs.length) : outL rs (outA as) = some as := by
  cases rs with
  | nil =>
    cases as with
    | nil => rfl
    | cons => simp at h
  | cons r rs =>
    cases as with
    | nil => simp at h
    | cons a as =>
      cases rs with
      | nil =>
        cases as with
        | nil => rfl
        | cons => simp at h
      | cons r2 rs =>
        cases as with
        | nil => simp at h
        | cons b as => rfl
theorem outP_scal {rs : List Pk} {st : St} {y : PkTs rs} {K : PkTs rs → Prop} {M : Nat} (h : rs.all scalarK = true) (k : K y) : outP rs st (outA (pksA M rs y)) K := by
  unfold outP
  rw [outL_outA (pksA_length _ _ _)]
  simp only [frz_scal h, take_scal h, srcIds, uniqB]
  exact k

theorem parS_simL {E : En} {ps : List Pk} {x : PkTs ps} {vs : List Value} {H : Heap} {g : Gh} (s : Sim E (parS ps x) (env0 vs) H g) (hl : vs.length = ps.length) : SimL g H (pksR ps x).length (pksA 0 ps x) vs := by
  refine simL_of (by rw [pksA_length]; omega) fun i _ => ?_
  have := s.tmp i
  simpa [parS, env0] using this

/-- A function that reads alone, from what is known of its call. -/
theorem fnQ_lib {P : Program} {f : FuncId} {ps rs : List Pk} {q : PkTs ps → (PkTs rs → Prop) → Prop} (hrs : rs.all scalarK = true) (hen : Enters P f)
    (h : ∀ x K, q x K → ∀ (W : World) (g : Gh) (vs : List Value), (∀ b, g.Z b → hp W b ≠ none) → SimL g (hp W) (pksR ps x).length (pksA 0 ps x) vs → Laid.ok (layH (hp W)) →
      Calls P f ⟨vs⟩ W fun e W' => ∃ y v, e = .returned v ∧ SimV g (hp W') (pksR ps x).length (outA (pksA 0 rs y)) v ∧ K y ∧ Keep Nil (hp W) (hp W') ∧ Rest W W') : FnQ P f ps rs q := by
  intro x K hx H g vs hl s
  refine ⟨hen, fun W hW => ?_⟩
  subst hW
  refine (h x K hx W g vs s.zlive (parS_simL s hl) (by have := s.layH.2; rw [this]; exact s.lay.ok)).mono fun e W' ⟨y, v, he, hv, hk, hkp, hr⟩ => ⟨v, he, ?_, hr⟩
  obtain ⟨s', _⟩ := s.keepAll hkp
  exact ⟨_, _, _, _, s', hv, outP_scal hrs hk⟩

/-- A function that hands out a new row. -/
theorem fnQ_row {P : Program} {f : FuncId} {ps : List Pk} {T : TypeId} {ks : List Kd} {q : PkTs ps → (PkTs [.own T ks] → Prop) → Prop} (hks : Kd.decs ks ks = isTrue rfl) (hen : Enters P f)
    (h : ∀ x K, q x K → ∀ (W : World) (g : Gh) (vs : List Value), (∀ b, g.Z b → hp W b ≠ none) → SimL g (hp W) (pksR ps x).length (pksA 0 ps x) vs → Laid.ok (layH (hp W)) →
      Calls P f ⟨vs⟩ W fun e W' => ∃ (xs : List (Tp ks)) (us : List Value) (n : Nat), e = .returned (.slice (some ⟨n, 0, none⟩) xs.length xs.length) ∧ hp W n = none ∧ hp W' = (hp W).upd n (.cells ⟨us⟩ T (0, 0)) ∧ us.length = xs.length * ks.length ∧ xs.length ≤ lenMax ∧
        (∀ i x, xs[i]? = some x → CellsOk g.Z (hp W) ks x (fun j => us[i * ks.length + j]?)) ∧ K (xs, ()) ∧ Rest W W') : FnQ P f ps [.own T ks] q := by
  intro x K hx H g vs hl s
  refine ⟨hen, fun W hW => ?_⟩
  subst hW
  refine (h x K hx W g vs s.zlive (parS_simL s hl) (by have := s.layH.2; rw [this]; exact s.lay.ok)).mono fun e W' ⟨xs, us, n, he, hn, hW', hul, hlm, hc, hk, hr⟩ => ⟨_, he, ?_, hr⟩
  rw [hW']
  obtain ⟨a, st', g', s', r', hv, _, hk'⟩ := s.newRow (K := fun a st' => outP [.own T ks] st' a K) hn (vs := us) (T := T) (xs := xs) (cap := xs.length) (Nat.le_refl _) hlm hul hc (by
    simp only [outP, outL, frzP, isOwn, takePs, takeP, St.new, parS]
    rw [List.getElem?_append_right (Nat.le_refl _), Nat.sub_self]
    simp only [List.getElem?_cons_zero, Nat.beq_refl, hks, castL, srcIds, uniqB, memB, Bool.not_false, Bool.and_true]
    exact hk)
  exact ⟨a, st', _, g', s', hv, hk'⟩

theorem laidMet.tail {P : Program} {W : World} {x : String × DataW Unit} {rest : List (String × DataW Unit)} (h : laidMet P (x :: rest) W) : laidMet P rest W := by
  obtain ⟨ps, hl, hn, hc⟩ := h
  obtain ⟨g', t', cs, fuel, p, q, hg', ht', hvar, hd, hrest, rfl⟩ := hl
  exact ⟨q, hrest, (List.nodup_append.1 hn).2.1, fun b off hb => hc b off (List.mem_append_right _ hb)⟩

theorem keep_below {w w' : World} (h : Go.RowKit.Below w.heap.size w w') : Keep Nil (hp w) (hp w') ∧ Rest w w' := by
  have hs : ∀ b, hp w b ≠ none → hp w' b = hp w b := fun b hb => h.block b (by
    rcases Nat.lt_or_ge b w.heap.size with hlt | hge
    · exact hlt
    · exact absurd (by simp [hp, hge] : hp w b = none) hb)
  exact ⟨⟨fun b _ hb => hs b hb, fun b hb => by rw [hs b hb]; exact hb⟩, ⟨h.os, h.tape, h.output, fun b ds hb => (h.block b (Array.getElem?_eq_some_iff.1 hb).1).trans hb, h.size⟩⟩

open Go.ChangeShapes Go.WideShapes Go.ChangeAt Go.RowKit in
/-- The row, from the condition on the call; package-level variables are listed. -/
theorem lifted3 {C : Checked} {os : Os} {f : FuncId} {fn : Func} {s : ChangeSpec} {conds : List PathCond} {apart fresh handsOn : Bool} {H : Type} {enc : TypeId × Value → H} {tb : TypeId} {laid : List (String × DataW Unit)}
    (own : ownKnob C.prog.godebug = none) (started : os.Started) (noInit : C.prog.inits.idxOf? f = none) (hfn : C.prog.funcs[f]? = some fn)
    (witness : ∃ (w : World) (tape : Tape) (i : Input), w.os = os ∧ (w.forCall tape i).Shaped C.prog ∧ i.vars = [] ∧ Input.okWide C.prog (w.forCall tape i) .any w.heap.size f i ∧
      ((s.pre enc C.prog fn conds apart (w.forCall tape i).memory i.args ∧ laidMetH C.prog laid (w.forCall tape i).memory) ∧ sizedMet enc C.prog fn (OpenSpec.ofChange s) apart (w.forCall tape i).memory i.args) ∧ Assume.holds {} C.prog (lone (Frame.enter C.prog f i.args .normal) [] (w.forCall tape i)))
    (hl : laidOutB C.prog = true) (hpar : fn.params.toList.all (fun t => C.prog.readableRec t && decide (t < C.prog.types.size)) = true) (hv : s.vars = []) (hrt : fn.resultTypes = #[tb]) (htb : C.prog.underlying tb = some .bool)
    (walk : ∀ (W : World) (base : Nat) (args : Array Value) (ds : List (DataW H)) (p : List MemPlace), (∀ (j : Nat) t v, fn.params[j]? = some t → args[j]? = some v → Value.okWide C.prog W .any base t v) →
      DataW.TrodAll enc C.prog W 0 (fun _ => true) true fn.params.toList args.toList ds p → (DataW.weightsEach C.prog fn.params.toList ds).all (· ≤ reachBytes) = true → laidMetH C.prog laid W → W.ShapedOpen C.prog → s.fn H ds = { results := [.lit (.bool true)], args := ds } ∧
      FnW C.prog f args (hp W) fun v H' => v = .bool true ∧ Keep Nil (hp W) H') :
    ReturnsInHanded {} C os f .any (fun w args => (s.pre enc C.prog fn conds apart w args ∧ laidMetH C.prog laid w) ∧ sizedMet enc C.prog fn (OpenSpec.ofChange s) apart w args) (s.post enc C.prog fn apart fresh handsOn false) := by
  refine returnsInHanded_of_calls own started noInit witness ?_
  intro w tape i _ hsh _ hok hpre _
  obtain ⟨_, _, _, fn', hfn', _, _, _, _, hval⟩ := hok
  have e : fn' = fn := Option.some.inj (hfn'.symm.trans hfn)
  subst e
  obtain ⟨⟨⟨ds, gs, before, hw, hc⟩, hL⟩, hz⟩ := hpre
  have hwt := hz.weights hw
  have hW := DataW.Whole.of_heap (w' := w.forCall tape i) (by rfl) hw
  have hW' := hW
  obtain ⟨p, q, hA, hV, rfl, _, _⟩ := hW'
  have hV' := hV
  rw [hv] at hV'
  obtain ⟨rfl, rfl⟩ := trodVars_none hV'
  have hvt : (OpenSpec.ofChange s).bare.plain.varTypes C.prog = [] := by
    have : (OpenSpec.ofChange s).bare.plain.vars = [] := hv
    unfold DataSpec.varTypes
    rw [this]; rfl
  rw [hvt, List.append_nil, List.append_nil] at hwt
  obtain ⟨hs, hf⟩ := walk (w.forCall tape i) w.heap.size i.args ds p hval hA hwt (laidMetH.of_heap (w := (w.forCall tape i).memory) rfl hL) hsh
  refine (hf.2 (w.forCall tape i) rfl).mono fun e W' ⟨v, he, ⟨hv', hk⟩, hr⟩ => ?_
  subst hv' he
  exact ChangeSpec.post_blind (post_true hl hpar hv hrt htb hW (by rw [List.append_nil]; exact hs) (hk.below hr))

end Go.Sh
end

section
set_option linter.unusedSectionVars false
set_option linter.unusedSimpArgs false
set_option linter.unusedVariables false
namespace Go.Sh
variable [Laid]

/-- Nothing of one's own: data alone. -/
def gZ (Z : Nat → Prop) : Gh := ⟨Z, fun _ => 0, fun _ => .nilFunc⟩
theorem simL_gZ {g : Gh} {H : Heap} {as : List AV} {vs : List Value} (h : SimL g H 0 as vs) : SimL (gZ g.Z) H 0 as vs :=
  SimL.ext (g := g) (g' := gZ g.Z) (Nat.le_refl _) ⟨fun b hb => ⟨hb, rfl⟩, fun _ h => absurd h (by omega), fun _ h => absurd h (by omega)⟩ _ _ h

/-- A call of what has a contract, from the heap alone. -/
theorem FnQ.run {P : Program} {f : FuncId} {ps rs : List Pk} {q : PkTs ps → (PkTs rs → Prop) → Prop} (hq : FnQ P f ps rs q) (hrs : rs.all scalarK = true) {x : PkTs ps} (hps : pksR ps x = []) {vs : List Value} {H : Heap} {Z : Nat → Prop}
    (hs : SimL (gZ Z) H 0 (pksA 0 ps x) vs) (hz : ∀ b, Z b → H b ≠ none) (hlay : ∀ b, Laid.blocks b = true → H b ≠ none) (hlo : Laid.ok (layH H)) {K : PkTs rs → Prop} (h : q x K) :
    FnW P f ⟨vs⟩ H fun v H' => Keep Nil H H' ∧ ∃ y, K y ∧ WfPs rs y ∧ ∀ (N : Nat) (g : Gh), SimV g H' N (outA (pksA 0 rs y)) v := by
  have hσ : (parS ps x).σ = [] := hps
  have s2 : Sim ⟨H, Owned (gZ Z) (pksR ps x), (gZ Z).Z⟩ (parS ps x) (env0 vs) H (gZ Z) := by
    refine ⟨fun t => ?_, fun i o hi => ?_, fun i o hi => ?_, fun i j oi oj _ hi => ?_, fun i o hi => ?_, Keep.refl _ _, fun b hb => hb, fun b hb => .inl hb, hz, ⟨fun b hb ho => ?_, hlay, hlo⟩, fun b hb => .inl hb⟩
    · rw [hσ]
      simpa [parS, env0] using simL_getD hs t
    · rw [hσ] at hi; simp at hi
    · rw [hσ] at hi; simp at hi
    · rw [hσ] at hi; simp at hi
    · rw [hσ] at hi; simp at hi
    · obtain ⟨i, o, hi, _⟩ := ho
      rw [hps] at hi; simp at hi
  have hvl : vs.length = ps.length := by rw [← hs.len, pksA_length]
  refine (hq x _ h H (gZ Z) vs hvl s2).mono fun v H' hk => ?_
  obtain ⟨a, st', ρ', g', s', hav, hout⟩ := hk
  unfold outP at hout
  split at hout
  case h_2 => exact hout.elim
  rename_i as hol
  split at hout
  case h_2 => exact hout.elim
  rename_i σ' hfr'
  split at hout
  case h_2 => exact hout.elim
  rename_i y src' htk'
  split at hout
  case h_2 => exact hout.elim
  obtain ⟨g3, s3, r3, l3, f3, _⟩ := frzP_sound rs as st'.σ σ' g' s' hfr'
  obtain ⟨ws, hws, hwsF⟩ := outA_sim hol (takePs_length htk') hav
  have hws3 := SimL.ext r3.len r3.ext _ _ hws
  obtain ⟨hw', hlen', _, hsim'⟩ := takePs_sim s3 htk' hws3 f3
  have hR' : pksR rs y = [] := pksR_noOwn (scal_own hrs)
  have hsrc' : src' = [] := List.eq_nil_of_length_eq_zero (by rw [← hlen', hR']; rfl)
  subst hsrc'
  have hsl' := hsim' g3 0 0 ⟨fun j id h => by simp at h, fun j h => by simp at h⟩ (by simp) rfl
  refine ⟨⟨fun b _ hb => s3.keep.same b (fun ho => by
    obtain ⟨i, o, hi, _⟩ := ho
    rw [hps] at hi; simp at hi) hb, fun b hb => s3.keep.live b hb⟩, y, hout, hw', fun N g => ?_⟩
  exact hwsF g H' _ _ (pksA_length _ _ _) (scal_sim hrs hsl')

/-- A contract of a function that hands out a list for all times, from what is shown of the heap. -/
theorem fnQ_lst {P : Program} {f : FuncId} {ps : List Pk} {ks : List Kd} {q : PkTs ps → (PkTs [.lst ks] → Prop) → Prop} (hks : Kd.decs ks ks = isTrue rfl) (hps : ∀ x, pksR ps x = [])
    (h : ∀ x K, q x K → ∀ (H : Heap) (Z : Nat → Prop) (vs : List Value), SimL (gZ Z) H 0 (pksA 0 ps x) vs → (∀ b, Z b → H b ≠ none) → (∀ b, Laid.blocks b = true → H b ≠ none) → Laid.ok (layH H) →
      FnW P f ⟨vs⟩ H fun v H' => Keep Nil H H' ∧ ∃ (xs : List (Tp ks)) (Zn : Nat → Prop), (∀ b, Zn b → H b = none ∧ ∃ c T r, H' b = some (.cells c T r)) ∧ CellOk (fun b => Z b ∨ Zn b) H' (.lst ks) xs v ∧ K (xs, ())) : FnQ P f ps [.lst ks] q := by
  intro x K hx H g vs hl s
  have hσ : (parS ps x).σ = [] := hps x
  have hsl := parS_simL s hl
  rw [hps x] at hsl
  refine (h x K hx H g.Z vs (simL_gZ hsl) s.zlive (fun b hb => by rw [s.layH.1 b hb]; exact s.lay.live b hb) (by rw [s.layH.2]; exact s.lay.ok)).mono fun v H' hk => ?_
  obtain ⟨hk, xs, Zn, hzn, hc, hK⟩ := hk
  obtain ⟨s', _⟩ := s.keepAll hk
  let g' : Gh := ⟨fun b => g.Z b ∨ Zn b, g.B, g.V⟩
  have ext' : ∀ N, Ext N g H' g' H' := fun N => ⟨fun b hb => ⟨.inl hb, rfl⟩, fun _ _ => rfl, fun _ _ => rfl⟩
  refine ⟨.lst ks xs, parS ps x, env0 vs, g', ⟨fun t => SimV.ext (Nat.le_refl _) (ext' _) _ _ (s'.tmp t), fun i o hi => ?_, fun i o hi => ?_, fun i j oi oj _ hi => ?_, fun i o hi => ?_, s'.keep, fun b hb => .inl (s'.zsub b hb), fun b hb => ?_, fun b hb => ?_, s'.lay, fun b hb => ?_⟩, ?_, ?_⟩
  · rw [hσ] at hi; simp at hi
  · rw [hσ] at hi; simp at hi
  · rw [hσ] at hi; simp at hi
  · rw [hσ] at hi; simp at hi
  · rcases hb with hb | hb
    · exact s'.znew b hb
    · exact .inr (.inl (hzn b hb).1)
  · rcases hb with hb | hb
    · exact s'.zlive b hb
    · obtain ⟨_, c, T, r, h⟩ := hzn b hb
      rw [h]; simp
  · rcases hb with hb | hb
    · exact s'.zc b hb
    · obtain ⟨_, c, T, r, h⟩ := hzn b hb
      exact .inr fun ds e => by rw [h] at e; cases e
  · simp only [SimV]; exact hc
  · simp only [outP, outL, frzP, isOwn, cellsA, frzL, frzO, takePs, takeP, rdL, hks, castL, srcIds, uniqB]
    exact hK

/-- What the rows of a row of rows hold. -/
def Holds (Z : Nat → Prop) (H : Heap) (ks : List Kd) (ins : List Inn) (xss : List (List (Tp ks))) : Prop :=
  ins.length = xss.length ∧ ∀ (j : Nat) (i : Inn) (xs : List (Tp ks)), ins[j]? = some i → xss[j]? = some xs → i.n = xs.length ∧ ∀ t x, xs[t]? = some x → CellsOk Z H ks x (fun q => i.ys[t * ks.length + q]?)
theorem Holds.keep {Z : Nat → Prop} {H H' : Heap} {ks : List Kd} {ins : List Inn} {xss : List (List (Tp ks))} (h : Holds Z H ks ins xss) (hz : ∀ b, Z b → H' b = H b) : Holds Z H' ks ins xss :=
  ⟨h.1, fun j i xs h1 h2 => ⟨(h.2 j i xs h1 h2).1, fun t x ht => CellsOk.ext (fun b hb => ⟨hb, hz b hb⟩) _ _ _ ((h.2 j i xs h1 h2).2 t x ht)⟩⟩
theorem Holds.push {Z : Nat → Prop} {H : Heap} {ks : List Kd} {ins : List Inn} {xss : List (List (Tp ks))} (h : Holds Z H ks ins xss) {i : Inn} {xs : List (Tp ks)} (h1 : i.n = xs.length) (h2 : ∀ t x, xs[t]? = some x → CellsOk Z H ks x (fun q => i.ys[t * ks.length + q]?)) : Holds Z H ks (ins ++ [i]) (xss ++ [xs]) := by
  refine ⟨by simp [h.1], fun j i' xs' hj hx => ?_⟩
  have hl := h.1
  rcases Nat.lt_trichotomy j ins.length with hlt | rfl | hgt
  · rw [List.getElem?_append_left hlt] at hj
    rw [List.getElem?_append_left (by omega)] at hx
    exact h.2 j i' xs' hj hx
  · rw [List.getElem?_append_right (Nat.le_refl _)] at hj
    rw [List.getElem?_append_right (by omega)] at hx
    simp [hl] at hj hx
    subst hj hx
    exact ⟨h1, h2⟩
  · rw [List.getElem?_eq_none (by simp; omega)] at hj; cases hj
theorem Holds.set {Z : Nat → Prop} {H : Heap} {ks : List Kd} {ins : List Inn} {xss : List (List (Tp ks))} (h : Holds Z H ks ins xss) {k : Nat} {i : Inn} {xs : List (Tp ks)} (h1 : i.n = xs.length) (h2 : ∀ t x, xs[t]? = some x → CellsOk Z H ks x (fun q => i.ys[t * ks.length + q]?)) : Holds Z H ks (ins.set k i) (xss.set k xs) := by
  refine ⟨by simp [h.1], fun j i' xs' hj hx => ?_⟩
  rw [List.getElem?_set] at hj hx
  split at hj
  · rename_i hk
    subst hk
    split at hj
    · rename_i hlt
      rw [if_pos rfl, if_pos (by rw [← h.1]; exact hlt)] at hx
      cases hj; cases hx
      exact ⟨h1, h2⟩
    · cases hj
  · rename_i hk
    rw [if_neg hk] at hx
    exact h.2 j i' xs' hj hx

/-- A row of rows, for all times. -/
theorem Deep.frz {H0 H : Heap} {To Ti : TypeId} {sz : Nat} {ins : List Inn} {a : Option Addr} {c : Nat} {Z : Nat → Prop} {ks : List Kd} {xss : List (List (Tp ks))} (d : Deep H0 H To Ti sz ins a c) (h : Holds Z H ks ins xss) (hsz : sz = ks.length) (hlx : ∀ xs, xs ∈ xss → xs.length ≤ lenMax) :
    ∃ Zn : Nat → Prop, (∀ b, Zn b → H0 b = none ∧ ∃ cc T r, H b = some (.cells cc T r)) ∧ CellOk (fun b => Z b ∨ Zn b) H (.lst [.lst ks]) xss (.slice a ins.length c) := by
  refine ⟨fun b => a = some ⟨b, 0, none⟩ ∨ ∃ (j : Nat) (i : Inn), ins[j]? = some i ∧ i.a = some ⟨b, 0, none⟩, fun b hb => ?_, ?_⟩
  · rcases hb with hb | ⟨j, i, hj, hb⟩
    · obtain ⟨rest, h1, _⟩ := d.out.blk hb
      exact ⟨d.out.free hb, _, _, _, h1⟩
    · obtain ⟨rest, h1, _⟩ := (d.inn j i hj).blk hb
      exact ⟨(d.inn j i hj).free hb, _, _, _, h1⟩
  · simp only [CellOk]
    refine ⟨a, ins.length, c, rfl, h.1.symm, d.out.le, d.capO, fun h0 => ?_⟩
    obtain ⟨m, hm⟩ := d.out.addr h0
    obtain ⟨rest, hb, _⟩ := d.out.blk hm
    refine ⟨m, 0, hm, .inr (.inl hm), _, _, _, hb, fun j (xs : List (Tp ks)) hj => ?_⟩
    have hlt : j < ins.length := by
      rw [h.1]
      rcases Nat.lt_or_ge j xss.length with h | h
      · exact h
      · have hj' : xss[j]? = some xs := hj
        rw [List.getElem?_eq_none h] at hj'; cases hj'
    have hj' : xss[j]? = some xs := hj
    obtain ⟨hn, hd⟩ := h.2 j _ xs (List.getElem?_eq_getElem hlt) hj'
    simp only [CellsOk, and_true]
    refine ⟨(ins[j]).val, ?_, ?_⟩
    · simp only [List.length_cons, List.length_nil, Nat.zero_add, Nat.mul_one, Nat.add_zero, List.getElem?_toArray]
      rw [List.getElem?_append_left (by simpa using hlt), List.getElem?_map, List.getElem?_eq_getElem hlt]; rfl
    · have own := d.inn j _ (List.getElem?_eq_getElem hlt)
      simp only [CellOk, hdT]
      refine ⟨(ins[j]).a, (ins[j]).n, (ins[j]).cap, rfl, hn.symm, own.le, d.capI j _ (List.getElem?_eq_getElem hlt), fun hn0 => ?_⟩
      obtain ⟨mi, hmi⟩ := own.addr hn0
      obtain ⟨ri, hbi, _⟩ := own.blk hmi
      refine ⟨mi, 0, hmi, .inr (.inr ⟨j, _, List.getElem?_eq_getElem hlt, hmi⟩), _, _, _, hbi, fun t x ht => ?_⟩
      refine CellsOk.ext (fun b hb => ⟨.inl hb, rfl⟩) _ _ _ (CellsOk.congr (fun q hq => ?_) (hd t x ht))
      have htl : t < xs.length := by
        rcases Nat.lt_or_ge t xs.length with h | h
        · exact h
        · have ht' : xs[t]? = some x := ht
          rw [List.getElem?_eq_none h] at ht'; cases ht'
      have hyl := own.len
      simp only [Nat.zero_add, List.getElem?_toArray]
      rw [List.getElem?_append_left]
      rw [hyl, hn, hsz]
      have : (t + 1) * ks.length ≤ xs.length * ks.length := Nat.mul_le_mul_right _ htl
      rw [Nat.succ_mul] at this
      omega

end Go.Sh
end
