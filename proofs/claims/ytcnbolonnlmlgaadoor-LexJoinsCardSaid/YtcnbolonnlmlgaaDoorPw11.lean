/-
  Functions over plain data; contracts by value.
-/
import Derived.Test.YtcnbolonnlmlgaaDoorPw10
set_option linter.unusedSectionVars false
set_option linter.unusedSimpArgs false
set_option linter.unusedVariables false
namespace Go.Sh
variable [Laid]

def PRes (P : Program) (st : St) : List ResultVar → List AV → (AV → Prop) → Prop
  | [], acc, K => K (match acc with | [v] => v | vs => .tup vs)
  | .tmp t :: rs, acc, K => PRes P st rs (acc ++ [st.α t]) K
  | .cell a t :: rs, acc, K => ldP P st t (st.α a) fun v => PRes P st rs (acc ++ [v]) K
def PRet (P : Program) (rs : List ResultVar) (K : AV → St → Prop) : PPost := fun e st => match e with
  | .normal => PRes P st rs [] fun v => K v st
  | .ret => PRes P st rs [] fun v => K v st
  | _ => False

theorem PRes_sound {P : Program} {E : En} {st : St} {ρ : Env} {H : Heap} {g : Gh} (s : Sim E st ρ H g) {R : Value → Prop} : ∀ {rs : List ResultVar} {as : List AV} {vs : List Value} {K : AV → Prop}, SimL g H st.σ.length as vs → PRes P st rs as K →
    (∀ a v, SimV g H st.σ.length a v → K a → R v) → ResW P ρ H rs vs R
  | [], as, vs, K, hs, h, hk => by
    simp only [PRes] at h
    simp only [ResW]
    refine hk _ _ ?_ h
    cases as with
    | nil => cases vs with
      | nil => simp only [SimV]; exact ⟨[], rfl, hs⟩
      | cons => simp only [SimL] at hs
    | cons a as => cases vs with
      | nil => simp only [SimL] at hs
      | cons v vs =>
        cases as with
        | nil => cases vs with
          | nil => simp only [SimL] at hs; exact hs.1
          | cons => simp only [SimL] at hs; exact hs.2.elim
        | cons b as => cases vs with
          | nil => simp only [SimL] at hs; exact hs.2.elim
          | cons u vs => simp only [SimV]; exact ⟨_, rfl, hs⟩
  | .tmp t :: rs, as, vs, K, hs, h, hk => by
    simp only [PRes] at h
    simp only [ResW]
    exact PRes_sound s (hs.append (by simp only [SimL]; exact ⟨s.tmp t, trivial⟩)) h hk
  | .cell a t :: rs, as, vs, K, hs, h, hk => by
    simp only [PRes] at h
    simp only [ResW]
    refine ldP_sound s h (s.tmp a) fun x v hv hx => ?_
    exact PRes_sound s (hs.append (by simp only [SimL]; exact ⟨hv, trivial⟩)) hx hk

/-- The marks' blocks are shut: nothing turns. -/
theorem Sim.shut {E : En} {st : St} {ρ : Env} {H0 H H' : Heap} {g : Gh} (s : Sim E st ρ H g) (h0 : ∀ b, E.Z0 b → H0 b ≠ none) (hE : ∀ b, E.H0 b ≠ none → H0 b ≠ none) (hs : Shut H0 H H') : Sim E st ρ H' g ∧ Rel st H g st H' g := by
  have sz : ∀ b, g.Z b → H' b = H b := fun b hb => by
    rcases hs b with h | ⟨h1, h2, _⟩
    · exact h
    · rcases s.zc b hb with h | h
      · exact absurd h1 (h0 b h)
      · exact absurd h2 (h _)
  have sE : ∀ b, E.H0 b ≠ none → H' b = H b := fun b hb => by
    rcases hs b with h | ⟨h1, _, _⟩
    · exact h
    · exact absurd h1 (hE b hb)
  have hext : Ext st.σ.length g H g H' := ⟨fun b hz => ⟨hz, sz b hz⟩, fun _ _ => rfl, fun _ _ => rfl⟩
  have lv : ∀ (i : Nat) (o : AObj), st.σ[i]? = some o → Has g i o → H' (g.B i) = H (g.B i) := fun i o hi hh => by
    obtain ⟨c, T, hb⟩ := s.live hi hh
    rcases hs (g.B i) with h | ⟨_, h2, _⟩
    · exact h
    · rw [hb] at h2; cases h2
  exact ⟨⟨fun t => SimV.ext (Nat.le_refl _) hext _ _ (s.tmp t), fun i o hi => SimO.ext (Nat.le_refl _) hext (get_lt hi) (lv i o hi) (s.obj i o hi), s.nz, s.dis, s.own, ⟨fun b hb h => (sE b h).trans (s.keep.same b hb h), fun b h => by rw [sE b h]; exact s.keep.live b h⟩, s.zsub, s.znew, fun b hz => by rw [sz b hz]; exact s.zlive b hz, s.lay, zc_ext s.zc sz⟩, ⟨Nat.le_refl _, hext, fun i o hi _ => ⟨hi, lv i o hi⟩⟩⟩

/-- A function, from its text over plain data. -/
theorem FnP {P : Program} {f : FuncId} {fn : Func} {plan : PPlan} {c : Code} {tab : Tab} (k : Known P f fn plan.plan c) (ht : TabsOk P tab) {args : List Value} (hlen : Nat.ble args.length fn.ntmps = true) {E : En} {st : St} {H : Heap} {g : Gh}
    (s : Sim E st (env0 args) H g) {K : AV → St → Prop} (h : PCode P tab plan c st (PRet P fn.results.toList K)) :
    FnW P f ⟨args⟩ H fun v H' => ∃ a st' ρ' g', Sim E st' ρ' H' g' ∧ Rel st H g st' H' g' ∧ SimV g' H' st'.σ.length a v ∧ K a st' := by
  refine FnW.of_code k hlen (CodeW.mono c (fun e ρ' H' hk => ?_) _ _ (pcode_of ht c s h))
  obtain ⟨st', g', s', r', hq⟩ := hk
  have fin : ∀ (a : AV) (v : Value), SimV g' H' st'.σ.length a v → K a st' → ∀ H'', Shut H H' H'' → ∃ a st' ρ' g', Sim E st' ρ' H'' g' ∧ Rel st H g st' H'' g' ∧ SimV g' H'' st'.σ.length a v ∧ K a st' := fun a v hv hka H'' hs => by
    obtain ⟨s2, r2⟩ := s'.shut (fun b hb => s.zlive b (s.zsub b hb)) (fun b hb => s.keep.live b hb) hs
    exact ⟨a, st', ρ', g', s2, r'.trans r2, SimV.ext (Nat.le_refl _) r2.ext _ _ hv, hka⟩
  cases e <;> simp only [PRet] at hq <;> simp only [RetW] <;> first | exact hq.elim | skip
  · exact PRes_sound s' (as := []) (vs := []) (by simp only [SimL]) hq fin
  · exact PRes_sound s' (as := []) (vs := []) (by simp only [SimL]) hq fin

/-! ### What is handed in and out -/
/-- Rows that must be frozen where data are handed on by value. -/
def frzP : List AObj → List Pk → List AV → Option (List AObj)
  | σ, [], [] => some σ
  | σ, p :: ps, a :: as => match isOwn p with
    | true => frzP σ ps as
    | false => match frzL σ (cellsA a) with
      | some σ' => frzP σ' ps as
      | none => none
  | _, _, _ => none
def takeP (σ : List AObj) : (p : Pk) → AV → Option (PkT p × Option (Option Nat))
  | .int k, .int k' n => match decide (k' = k) with
    | true => some (n, none)
    | false => none
  | .bool, .bool b => some (b, none)
  | .str, .str s => some (s, none)
  | .lst ks, a => match rdL σ ks a with
    | some xs => some (xs, none)
    | none => none
  | .agg ks, .agg cs => match unT ks (cs.map (unrow σ)) with
    | some x => some (x, none)
    | none => none
  | .err, .err b => some (b, none)
  | .fn f, .fn f' [] => match Nat.beq f' f with
    | true => some ((), none)
    | false => none
  | .nil, .nils => some ((), none)
  | .own _ _, .nils => some ([], some none)
  | .own T ks, .row id => match σ[id]? with
    | some (.row T' false ks' xs) => match Nat.beq T' T, Kd.decs ks' ks with
      | true, isTrue h => some (castL h xs, some (some id))
      | _, _ => none
    | _ => none
  | _, _ => none
def takePs (σ : List AObj) : (ps : List Pk) → List AV → Option (PkTs ps × List (Option Nat))
  | [], [] => some ((), [])
  | p :: ps, a :: as => match takeP σ p a, takePs σ ps as with
    | some (x, s), some (y, r) => some ((x, y), match s with | some i => i :: r | none => r)
    | _, _ => none
  | _, _ => none

/-- All rows among these are frozen ones. -/
def Froz (σ : List AObj) (as : List AV) : Prop := ∀ a ∈ as, ∀ id, a = .row id → ∃ ks xs, σ[id]? = some (.frz ks xs)
def FrozP (σ : List AObj) : List Pk → List AV → Prop
  | p :: ps, a :: as => (isOwn p = false → Froz σ (cellsA a)) ∧ FrozP σ ps as
  | _, _ => True

theorem FrozP.mono {σ σ' : List AObj} (h : ∀ (id : Nat) (ks : List Kd) (xs : List (Tp ks)), σ[id]? = some (.frz ks xs) → σ'[id]? = some (.frz ks xs)) : ∀ {ps : List Pk} {as : List AV}, FrozP σ ps as → FrozP σ' ps as
  | [], _, _ => trivial
  | _ :: _, [], _ => trivial
  | p :: ps, a :: as, hf => ⟨fun hp b hb id e => by obtain ⟨ks, xs, h1⟩ := hf.1 hp b hb id e; exact ⟨ks, xs, h _ _ _ h1⟩, FrozP.mono h hf.2⟩

theorem frzP_sound {E : En} {ρ : Env} {H : Heap} {α : Nat → AV} : ∀ (ps : List Pk) (as : List AV) (σ σ' : List AObj) (g : Gh), Sim E ⟨α, σ⟩ ρ H g → frzP σ ps as = some σ' →
    ∃ g', Sim E ⟨α, σ'⟩ ρ H g' ∧ Rel ⟨α, σ⟩ H g ⟨α, σ'⟩ H g' ∧ σ'.length = σ.length ∧ FrozP σ' ps as ∧ ∀ (id : Nat) (ks : List Kd) (xs : List (Tp ks)), σ[id]? = some (.frz ks xs) → σ'[id]? = some (.frz ks xs)
  | [], [], σ, σ', g, s, h => by simp only [frzP, Option.some.injEq] at h; subst h; exact ⟨g, s, .refl _ _ _, rfl, trivial, fun _ _ _ h => h⟩
  | [], _ :: _, _, _, _, _, h => by simp only [frzP] at h; cases h
  | _ :: _, [], _, _, _, _, h => by simp only [frzP] at h; cases h
  | p :: ps, a :: as, σ, σ', g, s, h => by
    simp only [frzP] at h
    split at h
    · rename_i hp
      obtain ⟨g1, s1, r1, l1, f1, k1⟩ := frzP_sound ps as σ σ' g s h
      exact ⟨g1, s1, r1, l1, ⟨(fun hp' => by rw [hp] at hp'; cases hp'), f1⟩, k1⟩
    · split at h
      · rename_i σ1 hf
        obtain ⟨g1, s1, r1, l1, f1, k1⟩ := frzL_sound (cellsA a) σ σ1 g s hf
        obtain ⟨g2, s2, r2, l2, f2, k2⟩ := frzP_sound ps as σ1 σ' g1 s1 h
        refine ⟨g2, s2, r1.trans r2, l2.trans l1, ⟨fun _ b hb id e => ?_, f2⟩, fun _ _ _ h => k2 _ _ _ (k1 _ _ _ h)⟩
        obtain ⟨ks, xs, h3⟩ := f1 b hb id e
        exact ⟨ks, xs, k2 _ _ _ h3⟩
      · cases h

theorem rdL_frz {E : En} {st : St} {ρ : Env} {H : Heap} {g : Gh} (s : Sim E st ρ H g) {ks : List Kd} {a : AV} {v : Value} {xs : List (Tp ks)} (h : rdL st.σ ks a = some xs) (hf : ∀ id, a = .row id → ∃ ks xs, st.σ[id]? = some (.frz ks xs)) (hs : SimV g H st.σ.length a v) : CellOk g.Z H (.lst ks) xs v := by
  unfold rdL at h
  split at h
  · split at h
    · rename_i hk _
      subst hk; cases h
      simpa only [SimV, castL] using hs
    · cases h
  · cases h
    simp only [SimV] at hs
    simp only [CellOk]
    exact ⟨none, 0, 0, hs, rfl, Nat.le_refl _, Nat.zero_le _, fun h => absurd h (by omega)⟩
  · rename_i id
    obtain ⟨ks2, xs2, ho⟩ := hf id rfl
    rw [ho] at h
    simp only at h
    split at h
    · rename_i hk _
      subst hk; cases h
      simp only [SimV] at hs
      rw [hs.2.1]
      exact s.obj id _ ho
    · cases h
  · cases h

theorem agg_of_cells {g : Gh} {H : Heap} {N : Nat} {ks : List Kd} {x : Tp ks} {vs : List Value} (h : CellsOk g.Z H ks x (fun j => vs[j]?)) (hl : vs.length = ks.length) : SimL g H N (lvT ks x) vs := by
  obtain ⟨us, h1, h2, h3⟩ := lvT_sim (N := N) h
  have : us = vs := by
    apply List.ext_getElem?
    intro i
    rcases Nat.lt_or_ge i us.length with h | h
    · exact (h3 i h).symm
    · rw [List.getElem?_eq_none h, List.getElem?_eq_none (by omega)]
  rw [← this]; exact h2

/-- Data that were taken by value stand for the values. -/
theorem takeP_sim {E : En} {st : St} {ρ : Env} {H : Heap} {g : Gh} (s : Sim E st ρ H g) {p : Pk} {a : AV} {v : Value} {x : PkT p} {r : Option (Option Nat)} (h : takeP st.σ p a = some (x, r)) (hs : SimV g H st.σ.length a v) (hf : isOwn p = false → Froz st.σ (cellsA a)) :
    WfPk p x ∧ (isOwn p = false → r = none ∧ ∀ (g' : Gh) (N : Nat), g'.Z = g.Z → SimV g' H N (pkA 0 p x) v) ∧
    (∀ T ks, p = .own T ks → ∃ i, r = some i ∧ ((∃ id, i = some id ∧ ∃ xs, st.σ[id]? = some (.row T false ks xs) ∧ HEq xs x ∧ v = g.V id) ∨ (i = none ∧ v = .slice none 0 0 ∧ HEq x ([] : List (Tp ks))))) := by
  cases p with
  | int k0 =>
    cases a <;> simp only [takeP] at h <;> first | (cases h; done) | skip
    split at h
    · rename_i hk
      have := of_decide_eq_true hk
      subst this
      cases h
      simp only [SimV] at hs
      exact ⟨hs.2, fun _ => ⟨rfl, fun g' N _ => by simp only [pkA, SimV]; exact hs⟩, fun T ks e => by cases e⟩
    · cases h
  | bool =>
    cases a <;> simp only [takeP] at h <;> first | (cases h; done) | skip
    cases h
    simp only [SimV] at hs
    exact ⟨trivial, fun _ => ⟨rfl, fun g' N _ => by simp only [pkA, SimV]; exact hs⟩, fun T ks e => by cases e⟩
  | str =>
    cases a <;> simp only [takeP] at h <;> first | (cases h; done) | skip
    cases h
    simp only [SimV] at hs
    exact ⟨hs.2, fun _ => ⟨rfl, fun g' N _ => by simp only [pkA, SimV]; exact hs⟩, fun T ks e => by cases e⟩
  | err =>
    cases a <;> simp only [takeP] at h <;> first | (cases h; done) | skip
    cases h
    simp only [SimV] at hs
    exact ⟨trivial, fun _ => ⟨rfl, fun g' N _ => by simp only [pkA, SimV]; exact hs⟩, fun T ks e => by cases e⟩
  | nil =>
    cases a <;> simp only [takeP] at h <;> first | (cases h; done) | skip
    cases h
    simp only [SimV] at hs
    exact ⟨trivial, fun _ => ⟨rfl, fun g' N _ => by simp only [pkA, SimV]; exact hs⟩, fun T ks e => by cases e⟩
  | fn f' =>
    cases a <;> simp only [takeP] at h <;> first | (cases h; done) | skip
    rename_i f2 caps
    cases caps with
    | cons => simp only [takeP] at h; cases h
    | nil =>
      simp only [takeP] at h
      split at h
      · rename_i hb
        cases h
        have := Nat.eq_of_beq_eq_true hb
        subst this
        simp only [SimV] at hs
        obtain ⟨vs, rfl, hvs⟩ := hs
        cases vs with
        | cons => simp only [SimL] at hvs
        | nil => exact ⟨trivial, fun _ => ⟨rfl, fun g' N _ => by simp only [pkA, SimV]; exact ⟨[], rfl, by simp only [SimL]⟩⟩, fun T ks e => by cases e⟩
      · cases h
  | lst ks' =>
    simp only [takeP] at h
    split at h
    · rename_i xs hrd
      cases h
      have hc := rdL_frz s hrd (fun id e => hf rfl a (by rw [e]; simp [cellsA]) id e) hs
      exact ⟨CellOk.wf (.lst ks') x v hc, fun _ => ⟨rfl, fun g' N hz => by simp only [pkA, SimV]; rw [hz]; exact hc⟩, fun T ks e => by cases e⟩
    · cases h
  | agg ks' =>
    cases a <;> simp only [takeP] at h <;> first | (cases h; done) | skip
    split at h
    · rename_i y hy
      cases h
      simp only [SimV] at hs
      obtain ⟨vs, rfl, hs⟩ := hs
      have h1 := unrow_simL s (fun b hb id e => hf rfl b (by simpa [cellsA] using hb) id e) hs
      have h2 := unT_sim hy h1
      have h3 := unT_length hy
      have h4 := h1.len
      refine ⟨CellsOk.wf _ _ _ h2, fun _ => ⟨rfl, fun g' N hz => ?_⟩, fun T ks e => by cases e⟩
      simp only [pkA, SimV]
      exact ⟨vs, rfl, agg_of_cells (by rw [hz]; exact h2) (by omega)⟩
    · cases h
  | own T ks' =>
    cases a <;> simp only [takeP] at h <;> first | (cases h; done) | skip
    · cases h
      simp only [SimV] at hs
      refine ⟨by simp only [WfPk, WfE]; exact ⟨Nat.zero_le _, fun x hx => by simp [asL] at hx⟩, (fun e => by cases e), fun T ks e => ?_⟩
      cases e
      exact ⟨none, rfl, .inr ⟨rfl, hs, HEq.rfl⟩⟩
    · rename_i id
      split at h
      · rename_i T' ks2 xs ho
        split at h
        · rename_i _ _ hke hT _
          have hT := Nat.eq_of_beq_eq_true hT
          subst hT hke
          cases h
          simp only [SimV] at hs
          refine ⟨?_, (fun e => by cases e), fun T ks e => ?_⟩
          · simp only [WfPk, WfE, castL]
            obtain ⟨a', n', c', h1, h2, h3, h4, hat⟩ := row_at (T := 0) (N := st.σ.length) (s.obj id _ ho)
            refine ⟨by simp only [asL]; omega, fun x hx => ?_⟩
            obtain ⟨i, hi⟩ := List.getElem?_of_mem hx
            obtain ⟨_, _, hw3, _⟩ := hat i x hi
            exact hw3
          · cases e
            exact ⟨some id, rfl, .inl ⟨id, rfl, xs, ho, HEq.rfl, hs.2.1⟩⟩
        · cases h
      · cases h

theorem takePs_sim {E : En} {st : St} {ρ : Env} {H : Heap} {g : Gh} (s : Sim E st ρ H g) : ∀ {ps : List Pk} {as : List AV} {vs : List Value} {x : PkTs ps} {src : List (Option Nat)}, takePs st.σ ps as = some (x, src) → SimL g H st.σ.length as vs → FrozP st.σ ps as →
    WfPs ps x ∧ (pksR ps x).length = src.length ∧
    (∀ (j : Nat) (o : AObj) (i : Option Nat), (pksR ps x)[j]? = some o → src[j]? = some i → (∃ id, i = some id ∧ st.σ[id]? = some o ∧ isRo o = false ∧ (∃ T ks xs, o = .row T false ks xs)) ∨ (i = none ∧ ∃ T ks, o = .row T false ks [])) ∧
    ∀ (g'' : Gh) (N N'' : Nat), Srcs g g'' N src → N + src.length ≤ N'' → g''.Z = g.Z → SimL g'' H N'' (pksA N ps x) vs
  | [], [], [], x, src, h, hs, _ => by
    simp only [takePs] at h
    cases h
    exact ⟨trivial, rfl, fun j o i hj => by simp [pksR] at hj, fun g'' N N'' _ _ _ => by simp only [pksA, SimL]⟩
  | [], [], _ :: _, _, _, _, hs, _ => by simp only [SimL] at hs
  | [], _ :: _, _, _, _, h, _, _ => by simp only [takePs] at h; cases h
  | _ :: _, [], _, _, _, h, _, _ => by simp only [takePs] at h; cases h
  | _ :: _, _ :: _, [], _, _, _, hs, _ => by simp only [SimL] at hs
  | p :: ps, a :: as, v :: vs, x, src, h, hs, hf => by
    simp only [SimL] at hs
    simp only [takePs] at h
    split at h
    · rename_i x' r' y r hx hy
      simp only [Option.some.injEq, Prod.mk.injEq] at h
      obtain ⟨rfl, rfl⟩ := h
      obtain ⟨w, hlen, hrow, hsim⟩ := takePs_sim s hy hs.2 hf.2
      obtain ⟨w1, hval, hown⟩ := takeP_sim s hx hs.1 hf.1
      have pl : ∀ (p' : Pk) (x' : PkT p') (N : Nat), isOwn p' = false → pkA N p' x' = pkA 0 p' x' := fun p' x' N h => by cases p' <;> first | rfl | cases h
      cases hp : isOwn p with
      | false =>
        obtain ⟨rfl, hv⟩ := hval hp
        have e : pksR (p :: ps) (x', y) = pksR ps y := by cases p <;> first | rfl | cases hp
        refine ⟨⟨w1, w⟩, by rw [e]; exact hlen, by rw [e]; exact hrow, fun g'' N N'' h1 h2 h3 => ?_⟩
        simp only [pksA, hp, SimL]
        rw [pl _ _ _ hp]
        exact ⟨hv g'' N'' h3, hsim g'' N N'' h1 h2 h3⟩
      | true =>
        obtain ⟨T, ks, rfl⟩ : ∃ T ks, p = .own T ks := by cases p <;> first | (cases hp; done) | exact ⟨_, _, rfl⟩
        obtain ⟨i, rfl, hi⟩ := hown T ks rfl
        refine ⟨⟨w1, w⟩, by simp [pksR, hlen], fun j o i' hj hi' => ?_, fun g'' N N'' h1 h2 h3 => ?_⟩
        · cases j with
          | zero =>
            simp [pksR] at hj
            simp at hi'
            subst hj hi'
            rcases hi with ⟨id, rfl, xs, ho, he, _⟩ | ⟨rfl, _, he⟩
            · cases he; exact .inl ⟨id, rfl, ho, rfl, _, _, _, rfl⟩
            · cases he; exact .inr ⟨rfl, T, ks, rfl⟩
          | succ j => exact hrow j o i' (by simpa [pksR] using hj) (by simpa using hi')
        · simp only [pksA, isOwn, SimL]
          simp only [List.length_cons] at h2
          refine ⟨?_, hsim g'' (N + 1) N'' h1.tail (by omega) h3⟩
          simp only [pkA, SimV]
          have hsl : ∃ a n c, v = .slice a n c := by
            rcases hi with ⟨id, rfl, xs, ho, he, hv⟩ | ⟨rfl, hv, _⟩
            · obtain ⟨a, n, c, h, _⟩ := s.obj id _ ho
              exact ⟨a, n, c, by rw [hv, h]⟩
            · exact ⟨none, 0, 0, hv⟩
          refine ⟨by omega, ?_, hsl⟩
          rcases hi with ⟨id, rfl, xs, ho, he, hv⟩ | ⟨rfl, hv, _⟩
          · have := (h1.hit 0 id rfl).1
            simp only [Nat.add_zero] at this
            rw [this, hv]
          · have := h1.nil 0 rfl
            simp only [Nat.add_zero] at this
            rw [this, hv]
    · cases h

/-- What a call ends in: one value, or a row of them. -/
def outL (rs : List Pk) (a : AV) : Option (List AV) := match rs with
  | [_] => some [a]
  | _ => match a with
    | .tup as => some as
    | _ => none
def outA : List AV → AV
  | [a] => a
  | as => .tup as
/-- The results, as data. -/
def outP (rs : List Pk) (st : St) (a : AV) (K : PkTs rs → Prop) : Prop := match outL rs a with
  | some as => match frzP st.σ rs as with
    | some σ' => match takePs σ' rs as with
      | some (y, src) => match uniqB (srcIds src) with
        | true => K y
        | false => False
      | none => False
    | none => False
  | none => False
/-- A call's state at first. -/
def parS (ps : List Pk) (x : PkTs ps) : St := ⟨fun i => (pksA 0 ps x).getD i .undef, pksR ps x⟩
/-- A contract of a function: what its text says over plain data. -/
def FnQ (P : Program) (f : FuncId) (ps rs : List Pk) (q : PkTs ps → (PkTs rs → Prop) → Prop) : Prop :=
  ∀ (x : PkTs ps) (K : PkTs rs → Prop), q x K → ∀ (H : Heap) (g : Gh) (vs : List Value), vs.length = ps.length → Sim ⟨H, Owned g (pksR ps x), g.Z⟩ (parS ps x) (env0 vs) H g →
    FnW P f ⟨vs⟩ H fun v H' => ∃ a st' ρ' g', Sim ⟨H, Owned g (pksR ps x), g.Z⟩ st' ρ' H' g' ∧ SimV g' H' st'.σ.length a v ∧ outP rs st' a K

theorem fnQ_of {P : Program} {f : FuncId} {fn : Func} {plan : PPlan} {c : Code} {tab : Tab} {ps rs : List Pk} (k : Known P f fn plan.plan c) (ht : TabsOk P tab) (hlen : Nat.ble ps.length fn.ntmps = true) :
    FnQ P f ps rs fun x K => PCode P tab plan c (parS ps x) (PRet P fn.results.toList fun a st => outP rs st a K) := by
  intro x K h H g vs hvs s
  refine (FnP k ht (by rw [hvs]; exact hlen) s h).mono fun v H' hk => ?_
  obtain ⟨a, st', ρ', g', h1, _, h3, h4⟩ := hk
  exact ⟨a, st', ρ', g', h1, h3, h4⟩
theorem FnQ.of_eq {P : Program} {f : FuncId} {ps rs : List Pk} {q q' : PkTs ps → (PkTs rs → Prop) → Prop} (h : FnQ P f ps rs q') (e : q = q') : FnQ P f ps rs q := e ▸ h
theorem FnQ.mono {P : Program} {f : FuncId} {ps rs : List Pk} {q q' : PkTs ps → (PkTs rs → Prop) → Prop} (h : FnQ P f ps rs q) (hq : ∀ x K, q' x K → q x K) : FnQ P f ps rs q' :=
  fun x K hx => h x K (hq x K hx)

def goneAt : List Nat → Nat → List AObj → List AObj
  | _, _, [] => []
  | l, i, o :: os => (match memB i l with | true => .gone | false => o) :: goneAt l (i + 1) os
theorem goneAt_length (l : List Nat) : ∀ (σ : List AObj) (i : Nat), (goneAt l i σ).length = σ.length
  | [], _ => rfl
  | o :: os, i => by simp [goneAt, goneAt_length l os]
theorem goneAt_get (l : List Nat) : ∀ (σ : List AObj) (i j : Nat) (o : AObj), (goneAt l i σ)[j]? = some o → (i + j ∈ l ∧ o = .gone) ∨ (i + j ∉ l ∧ σ[j]? = some o)
  | [], _, _, _, h => by simp [goneAt] at h
  | a :: σ, i, 0, o, h => by
    simp only [goneAt, List.getElem?_cons_zero, Option.some.injEq] at h
    simp only [Nat.add_zero]
    cases hm : memB i l with
    | true => rw [hm] at h; exact .inl ⟨memB_iff.1 hm, h.symm⟩
    | false =>
      rw [hm] at h
      exact .inr ⟨(fun hc => by rw [memB_iff.2 hc] at hm; cases hm), by simpa using h⟩
  | a :: σ, i, j + 1, o, h => by
    simp only [goneAt, List.getElem?_cons_succ] at h
    have := goneAt_get l σ (i + 1) j o h
    have e : i + 1 + j = i + (j + 1) := by omega
    rw [e] at this
    simpa using this
theorem goneAt_keep (l : List Nat) : ∀ (σ : List AObj) (i j : Nat) (o : AObj), i + j ∉ l → σ[j]? = some o → (goneAt l i σ)[j]? = some o
  | [], _, _, _, _, h => by simp at h
  | a :: σ, i, 0, o, hn, h => by
    simp only [Nat.add_zero] at hn
    simp only [goneAt, List.getElem?_cons_zero]
    cases hm : memB i l with
    | true => exact absurd (memB_iff.1 hm) hn
    | false => simpa using h
  | a :: σ, i, j + 1, o, hn, h => by
    simp only [goneAt, List.getElem?_cons_succ]
    exact goneAt_keep l σ (i + 1) j o (by have e : i + 1 + j = i + (j + 1) := by omega
                                          rw [e]; exact hn) (by simpa using h)

/-- What a call does, from the function's contract: data are frozen and handed on, rows of one's own are handed over; results come back. -/
def ctVal (ps rs : List Pk) (q : PkTs ps → (PkTs rs → Prop) → Prop) : Ct := fun st args K =>
  match frzP st.σ ps args with
  | some σ1 => match takePs σ1 ps args with
    | some (x, src) => match uniqB (srcIds src) with
      | true => WfPs ps x → q x fun y => WfPs rs y → K (outA (pksA st.σ.length rs y)) ⟨st.α, goneAt (srcIds src) 0 σ1 ++ pksR rs y⟩
      | false => False
    | none => False
  | none => False

theorem outA_sim {g : Gh} {H : Heap} {N : Nat} {rs : List Pk} {a : AV} {v : Value} {as : List AV} (h : outL rs a = some as) (hl : as.length = rs.length) (hs : SimV g H N a v) : ∃ ws, SimL g H N as ws ∧ ∀ (g' : Gh) (H' : Heap) (N' : Nat) (bs : List AV), bs.length = rs.length → SimL g' H' N' bs ws → SimV g' H' N' (outA bs) v := by
  unfold outL at h
  split at h
  · cases h
    refine ⟨[v], by simp only [SimL]; exact ⟨hs, trivial⟩, fun g' H' N' bs hbl hb => ?_⟩
    cases bs with
    | nil => simp only [SimL] at hb
    | cons b bs =>
      cases bs with
      | nil => simp only [SimL] at hb; exact hb.1
      | cons => simp only [SimL] at hb; exact hb.2.elim
  · rename_i hne
    split at h
    · cases h
      simp only [SimV] at hs
      obtain ⟨ws, rfl, hs⟩ := hs
      refine ⟨ws, hs, fun g' H' N' bs hbl hb => ?_⟩
      have hsim : SimV g' H' N' (.tup bs) (.tuple ⟨ws⟩) := by simp only [SimV]; exact ⟨ws, rfl, hb⟩
      cases bs with
      | nil => exact hsim
      | cons b bs =>
        cases bs with
        | nil =>
          obtain ⟨r, hr⟩ : ∃ r, rs = [r] := by
            cases rs with
            | nil => simp at hbl
            | cons r rs =>
              cases rs with
              | nil => exact ⟨r, rfl⟩
              | cons => simp at hbl
          exact absurd hr (hne r)
        | cons => exact hsim
    · cases h

theorem takePs_length {σ : List AObj} : ∀ {ps : List Pk} {as : List AV} {r : PkTs ps × List (Option Nat)}, takePs σ ps as = some r → as.length = ps.length
  | [], [], _, _ => rfl
  | [], _ :: _, _, h => by simp only [takePs] at h; cases h
  | _ :: _, [], _, h => by simp only [takePs] at h; cases h
  | p :: ps, a :: as, r, h => by
    simp only [takePs] at h
    split at h
    · rename_i hy
      simp [takePs_length hy]
    · cases h
theorem simL_getD {g : Gh} {H : Heap} {N : Nat} : ∀ {as : List AV} {vs : List Value}, SimL g H N as vs → ∀ i, SimV g H N (as.getD i .undef) (vs.getD i undef)
  | [], [], _, i => by simp [SimV]
  | [], _ :: _, h, _ => by simp only [SimL] at h
  | _ :: _, [], h, _ => by simp only [SimL] at h
  | a :: as, v :: vs, h, 0 => by simp only [SimL] at h; simpa using h.1
  | a :: as, v :: vs, h, i + 1 => by simp only [SimL] at h; simpa using simL_getD h.2 i

theorem ctVal_sound {P : Program} {f : FuncId} {ps rs : List Pk} {q : PkTs ps → (PkTs rs → Prop) → Prop} (hq : FnQ P f ps rs q) : SoundCt P f (ctVal ps rs q) := by
  intro E st ρ H g args vs K s hargs h
  unfold ctVal at h
  split at h
  case h_2 => exact h.elim
  rename_i σ1 hfr
  split at h
  case h_2 => exact h.elim
  rename_i x src htk
  split at h
  case h_2 => exact h.elim
  rename_i huq
  obtain ⟨g1, s1, r1, l1, f1, _⟩ := frzP_sound ps args st.σ σ1 g s hfr
  have hargs1 := SimL.ext r1.len r1.ext _ _ hargs
  obtain ⟨hw, hlen, hrow, hsim⟩ := takePs_sim s1 htk hargs1 f1
  -- the call's own state
  obtain ⟨g2, hZ2, _, hS2, hfin⟩ := s1.rehead (base := []) (rows := pksR ps x) (src := src) (Nat.zero_le _) hlen (fun id o ho => by simp at ho) hrow (srcIds_uniq (uniq_nodup huq))
  have hsl := hsim g2 0 (0 + (pksR ps x).length) (by simpa using hS2) (by omega) hZ2
  have s2 : Sim E (parS ps x) (env0 vs) H g2 := by
    have := hfin [] (fun i => (pksA 0 ps x).getD i .undef) (env0 vs) rfl (fun id o ho => by simp at ho) (fun t => by simpa [env0] using simL_getD hsl t)
    simpa [parS] using this
  have hvl : vs.length = ps.length := by rw [← hargs.len, takePs_length htk]
  refine (hq x _ (h hw) H g2 vs hvl s2.enter).mono fun v H' hk => ?_
  obtain ⟨a, st', ρ', g', s', hav, hout⟩ := hk
  unfold outP at hout
  split at hout
  case h_2 => exact hout.elim
  rename_i as hol
  split at hout
  case h_2 => exact hout.elim
  rename_i σ' hfr'
  split at hout
  case h_2 => exact hout.elim
  rename_i y src' htk'
  split at hout
  case h_2 => exact hout.elim
  rename_i huq'
  obtain ⟨g3, s3, r3, l3, f3, _⟩ := frzP_sound rs as st'.σ σ' g' s' hfr'
  obtain ⟨ws, hws, hwsF⟩ := outA_sim hol (takePs_length htk') hav
  have hws3 := SimL.ext r3.len r3.ext _ _ hws
  obtain ⟨hw', hlen', hrow', hsim'⟩ := takePs_sim s3 htk' hws3 f3
  -- what is owned by the call
  have ownE : ∀ b, Owned g2 (pksR ps x) b → ∃ id ∈ srcIds src, ∃ o, σ1[id]? = some o ∧ isRo o = false ∧ Has g1 id o ∧ b = g1.B id := by
    rintro b ⟨i, o, hi, hh, rfl⟩
    have hil : i < (pksR ps x).length := get_lt hi
    obtain ⟨k, hk⟩ : ∃ k, src[i]? = some k := ⟨src[i]'(by omega), by simp⟩
    rcases hrow i o k hi hk with ⟨id, rfl, h1, h2, T, ks, xs, rfl⟩ | ⟨rfl, T, ks, rfl⟩
    · have := hS2.hit i id hk
      simp only [List.length_nil, Nat.zero_add] at this
      refine ⟨id, srcIds_mem hk, _, h1, h2, ?_, this.2⟩
      obtain ⟨a, n, c, h⟩ := hh
      exact ⟨a, n, c, by rw [← this.1]; exact h⟩
    · have := hS2.nil i hk
      simp only [List.length_nil, Nat.zero_add] at this
      obtain ⟨a, n, c, h⟩ := hh
      rw [this] at h
      cases h
  have liveB : ∀ (i : Nat) (o : AObj), σ1[i]? = some o → Has g1 i o → H (g1.B i) ≠ none := fun i o hi hh => by
    obtain ⟨c, T, hb⟩ := s1.live hi hh
    rw [hb]; simp
  have notOwned : ∀ (i : Nat) (o : AObj), i ∉ srcIds src → σ1[i]? = some o → Has g1 i o → ¬ Owned g2 (pksR ps x) (g1.B i) := fun i o hn hi hh ho => by
    obtain ⟨id, hid, o', h1, _, h2, h3⟩ := ownE _ ho
    exact s1.dis i id o o' (fun e => hn (e ▸ hid)) hi h1 hh h2 h3
  have zNotOwned : ∀ b, g1.Z b → ¬ Owned g2 (pksR ps x) b := fun b hz ho => by
    obtain ⟨id, _, o', h1, _, h2, rfl⟩ := ownE _ ho
    exact s1.nz id o' h1 h2 hz
  have same : ∀ b, H b ≠ none → ¬ Owned g2 (pksR ps x) b → H' b = H b := fun b hb ho => s3.keep.same b ho hb
  -- the state behind the call
  let N := σ1.length
  let g4 : Gh := ⟨g3.Z, fun i => if i < σ1.length then g1.B i else match src'[i - σ1.length]? with | some (some id) => g3.B id | _ => 0,
    fun i => if i < σ1.length then g1.V i else match src'[i - σ1.length]? with | some (some id) => g3.V id | _ => .slice none 0 0⟩
  have hext : Ext σ1.length g1 H g4 H' := ⟨fun b hz => ⟨s3.zsub b (by show g2.Z b; rw [hZ2]; exact hz), same b (s1.zlive b hz) (zNotOwned b hz)⟩, fun i hi => if_pos hi, fun i hi => if_pos hi⟩
  have hS4 : Srcs g3 g4 σ1.length src' := by
    refine ⟨fun j id hj => ⟨?_, ?_⟩, fun j hj => ?_⟩
    · show (if σ1.length + j < σ1.length then _ else _) = _
      rw [if_neg (by omega), Nat.add_sub_cancel_left, hj]
    · show (if σ1.length + j < σ1.length then _ else _) = _
      rw [if_neg (by omega), Nat.add_sub_cancel_left, hj]
    · show (if σ1.length + j < σ1.length then _ else _) = _
      rw [if_neg (by omega), Nat.add_sub_cancel_left, hj]
  have hgl := goneAt_length (srcIds src) σ1 0
  have hN4 : (goneAt (srcIds src) 0 σ1 ++ pksR rs y).length = σ1.length + (pksR rs y).length := by simp [hgl]
  have parts : ∀ (i : Nat) (o : AObj), (goneAt (srcIds src) 0 σ1 ++ pksR rs y)[i]? = some o → (i < σ1.length ∧ ((i ∈ srcIds src ∧ o = .gone) ∨ (i ∉ srcIds src ∧ σ1[i]? = some o))) ∨ (∃ j, i = σ1.length + j ∧ (pksR rs y)[j]? = some o ∧ ∃ k, src'[j]? = some k) := by
    intro i o hi
    rcases Nat.lt_or_ge i σ1.length with h | h
    · rw [List.getElem?_append_left (by omega)] at hi
      have := goneAt_get _ _ _ _ _ hi
      simp only [Nat.zero_add] at this
      exact .inl ⟨h, this⟩
    · rw [List.getElem?_append_right (by omega), hgl] at hi
      have : i - σ1.length < (pksR rs y).length := get_lt hi
      exact .inr ⟨i - σ1.length, by omega, hi, src'[i - σ1.length]'(by omega), by simp⟩
  have newOld : ∀ (j : Nat) (o : AObj) (k : Option Nat), (pksR rs y)[j]? = some o → src'[j]? = some k → Has g4 (σ1.length + j) o → ∃ id o', k = some id ∧ σ'[id]? = some o' ∧ Has g3 id o' ∧ g4.B (σ1.length + j) = g3.B id := by
    intro j o k hj hk hh
    rcases hrow' j o k hj hk with ⟨id, rfl, h1, _, T, ks, xs, rfl⟩ | ⟨rfl, T, ks, rfl⟩
    · obtain ⟨hv, hb⟩ := hS4.hit j id hk
      obtain ⟨a, n, c, h⟩ := hh
      exact ⟨id, _, rfl, h1, ⟨a, n, c, by rw [← hv]; exact h⟩, hb⟩
    · obtain ⟨a, n, c, h⟩ := hh
      rw [hS4.nil j hk] at h
      cases h
  have newBlk : ∀ id o', σ'[id]? = some o' → Has g3 id o' → ∀ (i : Nat) (o : AObj), i ∉ srcIds src → σ1[i]? = some o → Has g1 i o → g1.B i ≠ g3.B id := by
    intro id o' h1 h2 i o hn hi hh e
    rcases s3.own id o' h1 h2 with h | h
    · exact notOwned i o hn hi hh (by rw [e]; exact h)
    · exact liveB i o hi hh (by rw [e]; exact h)
  have hsl4 := hsim' g4 σ1.length (σ1.length + (pksR rs y).length) hS4 (by omega) rfl
  have Eown : ∀ b, (Owned g2 (pksR ps x) b ∨ H b = none) → E.O0 b ∨ E.H0 b = none := fun b hb => by
    rcases hb with h | h
    · obtain ⟨id, _, o', h1, _, h2, rfl⟩ := ownE _ h
      exact s1.own id o' h1 h2
    · exact .inr (s1.keep.free h)
  have s4 : Sim E ⟨st.α, goneAt (srcIds src) 0 σ1 ++ pksR rs y⟩ ρ H' g4 := by
    refine ⟨fun t => ?_, fun i o hi => ?_, fun i o hi hh => ?_, fun i j oi oj hij hi hj hhi hhj => ?_, fun i o hi hh => ?_, ⟨fun b hb h0 => ?_, fun b h0 => ?_⟩, fun b hz => ?_, fun b hz => ?_, fun b hz => s3.zlive b hz, s.lay, fun b hz => by
      rcases s3.zc b hz with h | h
      · have h1 : g1.Z b := by have : g2.Z b := h; rwa [hZ2] at this
        rcases s1.zc b h1 with h2 | h2
        · exact .inl h2
        · exact .inr fun ds => by rw [same b (s1.zlive b h1) (zNotOwned b h1)]; exact h2 ds
      · exact .inr h⟩
    · simp only [hN4]; exact SimV.ext (Nat.le_add_right _ _) hext _ _ (s1.tmp t)
    · simp only [hN4]
      rcases parts i o hi with ⟨h1, ⟨_, rfl⟩ | ⟨h2, h3⟩⟩ | ⟨j, rfl, h2, k, hk⟩
      · trivial
      · exact SimO.ext (Nat.le_add_right _ _) hext h1 (fun hh => same _ (liveB i o h3 hh) (notOwned i o h2 h3 hh)) (s1.obj i o h3)
      · rcases hrow' j o k h2 hk with ⟨id, rfl, h3, _, T, ks, xs, rfl⟩ | ⟨rfl, T, ks, rfl⟩
        · obtain ⟨hv, hb⟩ := hS4.hit j id hk
          have := s3.obj id _ h3
          simp only [SimO] at this ⊢
          rw [hv, hb]; exact this
        · simp only [SimO]
          exact ⟨none, 0, 0, hS4.nil j hk, rfl, Nat.le_refl _, Nat.zero_le _, .inl ⟨rfl, rfl⟩⟩
    · rcases parts i o hi with ⟨h1, ⟨_, rfl⟩ | ⟨h2, h3⟩⟩ | ⟨j, rfl, h2, k, hk⟩
      · exact hh.elim
      · rw [hext.b i h1]
        have hh1 := (Has.ext hext h1).1 hh
        intro hz
        rcases s3.znew _ hz with h | h | h
        · exact s1.nz i o h3 hh1 (by have : g2.Z (g1.B i) := h; rwa [hZ2] at this)
        · exact liveB i o h3 hh1 h
        · exact notOwned i o h2 h3 hh1 h
      · obtain ⟨id, o', rfl, h3, h4, h5⟩ := newOld j o k h2 hk hh
        rw [h5]; exact s3.nz id o' h3 h4
    · rcases parts i oi hi with ⟨h1, ⟨_, rfl⟩ | ⟨h2, h3⟩⟩ | ⟨j1, rfl, h2, k, hk⟩
      · exact hhi.elim
      · rcases parts j oj hj with ⟨h4, ⟨_, rfl⟩ | ⟨h5, h6⟩⟩ | ⟨j2, rfl, h5, k2, hk2⟩
        · exact hhj.elim
        · rw [hext.b i h1, hext.b j h4]; exact s1.dis i j oi oj hij h3 h6 ((Has.ext hext h1).1 hhi) ((Has.ext hext h4).1 hhj)
        · obtain ⟨id, o', rfl, h6, h7, h8⟩ := newOld j2 oj k2 h5 hk2 hhj
          rw [hext.b i h1, h8]; exact newBlk id o' h6 h7 i oi h2 h3 ((Has.ext hext h1).1 hhi)
      · obtain ⟨id, o', rfl, h6, h7, h8⟩ := newOld j1 oi k h2 hk hhi
        rcases parts j oj hj with ⟨h4, ⟨_, rfl⟩ | ⟨h5, h9⟩⟩ | ⟨j2, rfl, h5, k2, hk2⟩
        · exact hhj.elim
        · rw [hext.b j h4, h8]; exact fun e => newBlk id o' h6 h7 j oj h5 h9 ((Has.ext hext h4).1 hhj) e.symm
        · obtain ⟨id2, o2, rfl, h9, h10, h11⟩ := newOld j2 oj k2 h5 hk2 hhj
          rw [h8, h11]
          refine s3.dis id id2 o' o2 (fun e => ?_) h6 h9 h7 h10
          subst e
          exact hij (by rw [srcIds_uniq (uniq_nodup huq') j1 j2 id hk hk2])
    · rcases parts i o hi with ⟨h1, ⟨_, rfl⟩ | ⟨h2, h3⟩⟩ | ⟨j, rfl, h2, k, hk⟩
      · exact hh.elim
      · rw [hext.b i h1]; exact s1.own i o h3 ((Has.ext hext h1).1 hh)
      · obtain ⟨id, o', rfl, h3, h4, h5⟩ := newOld j o k h2 hk hh
        rw [h5]
        exact Eown _ (s3.own id o' h3 h4)
    · have hbl := s1.keep.live b h0
      rw [same b hbl fun ho => by
        rcases Eown b (.inl ho) with h | h
        · exact hb h
        · exact h0 h]
      exact s1.keep.same b hb h0
    · exact s3.keep.live b (s1.keep.live b h0)
    · exact s3.zsub b (by show g2.Z b; rw [hZ2]; exact s1.zsub b hz)
    · rcases s3.znew b hz with h | h | h
      · exact s1.znew b (by have : g2.Z b := h; rwa [hZ2] at this)
      · exact .inr (.inl (s1.keep.free h))
      · rcases Eown b (.inl h) with h | h
        · exact .inr (.inr h)
        · exact .inr (.inl h)
  have rel : Rel ⟨st.α, σ1⟩ H g1 ⟨st.α, goneAt (srcIds src) 0 σ1 ++ pksR rs y⟩ H' g4 := by
    refine ⟨by simp only [hN4]; omega, hext, fun id o ho hr => ?_⟩
    have hn : id ∉ srcIds src := fun hm => by
      obtain ⟨j, hj⟩ := srcIds_of hm
      have hjl : j < (pksR ps x).length := by
        rw [hlen]
        rcases Nat.lt_or_ge j src.length with h | h
        · exact h
        · rw [List.getElem?_eq_none h] at hj; cases hj
      rcases hrow j _ _ (List.getElem?_eq_getElem hjl) hj with ⟨id', e, h1, h2, _⟩ | ⟨e, _⟩
      · cases e
        have ho' : σ1[id]? = some o := ho
        rw [h1] at ho'
        cases ho'
        rw [h2] at hr; cases hr
      · cases e
    refine ⟨?_, fun hh => same _ (liveB id o ho hh) (notOwned id o hn ho hh)⟩
    rw [List.getElem?_append_left (by rw [hgl]; exact get_lt ho)]
    exact goneAt_keep _ _ 0 id o (by simpa using hn) ho
  refine ⟨_, _, g4, s4, r1.trans rel, ?_, rfl, hout hw'⟩
  simp only [hN4]
  have := hwsF g4 H' _ (pksA σ1.length rs y) (pksA_length _ _ _) hsl4
  rw [← l1]
  exact this

/-- The same, where nothing that is handed out can hold what was handed in: rows stay one's own. -/
def scalarK : Pk → Bool
  | .int _ | .bool | .str | .err => true
  | _ => false
def ctBor (ps rs : List Pk) (q : PkTs ps → (PkTs rs → Prop) → Prop) : Ct := fun st args K =>
  match ps.all (fun p => !(isOwn p)) && rs.all scalarK, frzP (st.σ.map (flagO false)) ps args with
  | true, some σ1 => match takePs σ1 ps args with
    | some (x, _) => WfPs ps x → q x fun y => WfPs rs y → K (outA (pksA st.σ.length rs y)) st
    | none => False
  | _, _ => False

theorem pksR_noOwn : ∀ {ps : List Pk} {x : PkTs ps}, (ps.all fun p => !(isOwn p)) = true → pksR ps x = []
  | [], _, _ => rfl
  | p :: ps, x, h => by
    simp only [List.all_cons, Bool.and_eq_true, Bool.not_eq_true'] at h
    have := pksR_noOwn (x := x.2) h.2
    cases p <;> first | exact this | cases h.1
theorem scal_own {rs : List Pk} (h : rs.all scalarK = true) : (rs.all fun p => !(isOwn p)) = true := by
  rw [List.all_eq_true] at h ⊢
  intro p hp
  have := h p hp
  cases p <;> first | rfl | cases this
theorem scal_sim {g g' : Gh} {H H' : Heap} {N N' M M' : Nat} : ∀ {rs : List Pk} {y : PkTs rs} {ws : List Value}, rs.all scalarK = true → SimL g H N (pksA M rs y) ws → SimL g' H' N' (pksA M' rs y) ws
  | [], _, [], _, _ => by simp only [pksA, SimL]
  | [], _, _ :: _, _, h => by simp only [pksA, SimL] at h
  | _ :: _, _, [], _, h => by simp only [pksA, SimL] at h
  | p :: ps, y, w :: ws, hs, h => by
    simp only [List.all_cons, Bool.and_eq_true] at hs
    simp only [pksA, SimL] at h ⊢
    have ho : isOwn p = false := by cases p <;> first | rfl | cases hs.1
    rw [ho] at h ⊢
    refine ⟨?_, scal_sim hs.2 h.2⟩
    cases p <;> first | (cases hs.1; done) | (have := h.1; simp only [pkA, SimV] at this ⊢; exact this)

theorem Sim.keepAll {E : En} {st : St} {ρ : Env} {H H' : Heap} {g : Gh} (s : Sim E st ρ H g) (k : Keep Nil H H') : Sim E st ρ H' g ∧ Rel st H g st H' g := by
  have same : ∀ b, H b ≠ none → H' b = H b := fun b hb => k.same b (fun x => x) hb
  have hext : Ext st.σ.length g H g H' := ⟨fun b hz => ⟨hz, same b (s.zlive b hz)⟩, fun _ _ => rfl, fun _ _ => rfl⟩
  have lv : ∀ (i : Nat) (o : AObj), st.σ[i]? = some o → Has g i o → H' (g.B i) = H (g.B i) := fun i o hi hh => same _ (by
    obtain ⟨c, T, hb⟩ := s.live hi hh
    rw [hb]; simp)
  refine ⟨⟨fun t => SimV.ext (Nat.le_refl _) hext _ _ (s.tmp t), fun i o hi => SimO.ext (Nat.le_refl _) hext (get_lt hi) (lv i o hi) (s.obj i o hi), s.nz, s.dis, s.own, ?_, s.zsub, s.znew, fun b hz => k.live b (s.zlive b hz), s.lay, zc_ext s.zc fun b hz => (hext.z b hz).2⟩, ⟨Nat.le_refl _, hext, fun i o hi _ => ⟨hi, lv i o hi⟩⟩⟩
  exact s.keep.then k fun b hb => hb.elim

theorem ctBor_sound {P : Program} {f : FuncId} {ps rs : List Pk} {q : PkTs ps → (PkTs rs → Prop) → Prop} (hq : FnQ P f ps rs q) : SoundCt P f (ctBor ps rs q) := by
  intro E st ρ H g args vs K s hargs h
  unfold ctBor at h
  split at h
  case h_2 => exact h.elim
  rename_i σ1 hsc hfr
  simp only [Bool.and_eq_true] at hsc
  obtain ⟨hps, hrs⟩ := hsc
  split at h
  case h_2 => exact h.elim
  rename_i x src htk
  have sf : Sim E ⟨st.α, st.σ.map (flagO false)⟩ ρ H g := s.like (by simp) fun i o hi => by
    rw [List.getElem?_map] at hi
    cases h1 : st.σ[i]? with
    | none => rw [h1] at hi; cases hi
    | some o1 =>
      rw [h1] at hi
      simp only [Option.map_some, Option.some.injEq] at hi
      exact ⟨o1, rfl, false, hi.symm⟩
  obtain ⟨g1, s1, r1, l1, f1, _⟩ := frzP_sound ps args _ σ1 g sf hfr
  have hargs0 : SimL g H (st.σ.map (flagO false)).length args vs := by simpa using hargs
  have hargs1 := SimL.ext r1.len r1.ext _ _ hargs0
  obtain ⟨hw, hlen, hrow, hsim⟩ := takePs_sim s1 htk hargs1 f1
  have hR : pksR ps x = [] := pksR_noOwn hps
  have hsrc : src = [] := List.eq_nil_of_length_eq_zero (by rw [← hlen, hR]; rfl)
  subst hsrc
  obtain ⟨g2, hZ2, _, hS2, hfin⟩ := s1.rehead (base := []) (rows := pksR ps x) (src := []) (Nat.zero_le _) hlen (fun id o ho => by simp at ho) hrow (fun j j' id h => by simp at h)
  have hsl := hsim g2 0 (0 + (pksR ps x).length) (by simpa using hS2) (by omega) hZ2
  have s2 : Sim E (parS ps x) (env0 vs) H g2 := by
    have := hfin [] (fun i => (pksA 0 ps x).getD i .undef) (env0 vs) rfl (fun id o ho => by simp at ho) (fun t => by simpa [env0] using simL_getD hsl t)
    simpa [parS] using this
  have hvl : vs.length = ps.length := by rw [← hargs.len, takePs_length htk]
  refine (hq x _ (h hw) H g2 vs hvl s2.enter).mono fun v H' hk => ?_
  obtain ⟨a, st', ρ', g', s', hav, hout⟩ := hk
  unfold outP at hout
  split at hout
  case h_2 => exact hout.elim
  rename_i as hol
  split at hout
  case h_2 => exact hout.elim
  rename_i σ' hfr'
  split at hout
  case h_2 => exact hout.elim
  rename_i y src' htk'
  split at hout
  case h_2 => exact hout.elim
  obtain ⟨g3, s3, r3, l3, f3, _⟩ := frzP_sound rs as st'.σ σ' g' s' hfr'
  obtain ⟨ws, hws, hwsF⟩ := outA_sim hol (takePs_length htk') hav
  have hws3 := SimL.ext r3.len r3.ext _ _ hws
  obtain ⟨hw', hlen', _, hsim'⟩ := takePs_sim s3 htk' hws3 f3
  have hR' : pksR rs y = [] := pksR_noOwn (scal_own hrs)
  have hsrc' : src' = [] := List.eq_nil_of_length_eq_zero (by rw [← hlen', hR']; rfl)
  subst hsrc'
  have hsl' := hsim' g3 0 0 ⟨fun j id h => by simp at h, fun j h => by simp at h⟩ (by simp) rfl
  have kn : Keep Nil H H' := ⟨fun b _ hb => s3.keep.same b (fun ho => by
    obtain ⟨i, o, hi, _⟩ := ho
    rw [hR] at hi; simp at hi) hb, fun b hb => s3.keep.live b hb⟩
  obtain ⟨sE, rE⟩ := s.keepAll kn
  refine ⟨_, st, g, sE, rE, ?_, rfl, hout hw'⟩
  exact hwsF g H' _ _ (pksA_length _ _ _) (scal_sim hrs hsl')


/-- A contract for each function that may be handed in at place j. -/
def ctDisp (j : Nat) (l : List (Nat × Ct)) : Ct := fun st args K => match args[j]? with
  | some (.fn g []) => match ctOf g l with
    | some c => c st args K
    | none => False
  | _ => False
def AllSound (P : Program) (f : FuncId) : List (Nat × Ct) → Prop
  | [] => True
  | (_, c) :: l => SoundCt P f c ∧ AllSound P f l
theorem AllSound.get {P : Program} {f : FuncId} {g : Nat} {c : Ct} : ∀ {l : List (Nat × Ct)}, AllSound P f l → ctOf g l = some c → SoundCt P f c
  | [], _, h => by simp only [ctOf] at h; cases h
  | (k, c') :: l, hl, h => by
    simp only [ctOf] at h
    split at h
    · cases h; exact hl.1
    · exact AllSound.get hl.2 h
theorem ctDisp_sound {P : Program} {f : FuncId} {j : Nat} {l : List (Nat × Ct)} (h : AllSound P f l) : SoundCt P f (ctDisp j l) := by
  intro E st ρ H g args vs K s ha hk
  unfold ctDisp at hk
  split at hk
  · split at hk
    · rename_i c hc
      exact h.get hc E st ρ H g args vs K s ha hk
    · exact hk.elim
  · exact hk.elim

end Go.Sh
