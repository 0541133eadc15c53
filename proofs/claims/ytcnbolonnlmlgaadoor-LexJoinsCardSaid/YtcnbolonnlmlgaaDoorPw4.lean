/-
  Operations over plain data that ask memory.
-/
import Derived.Test.YtcnbolonnlmlgaaDoorPw3
set_option linter.unusedSectionVars false
set_option linter.unusedSimpArgs false
set_option linter.unusedVariables false
namespace Go.Sh
variable [Laid]

def AtN {A : Type} (xs : List A) (i : Nat) (k : A → Prop) : Prop := i < xs.length ∧ ∀ x, xs[i]? = some x → k x
theorem AtN.get {A : Type} {xs : List A} {i : Nat} {k : A → Prop} (h : AtN xs i k) : ∃ x, xs[i]? = some x ∧ k x := ⟨xs[i]'h.1, List.getElem?_eq_getElem h.1, h.2 _ (List.getElem?_eq_getElem h.1)⟩

theorem CellsOk.congr {Z : Nat → Prop} {H : Heap} : ∀ {ks : List Kd} {x : Tp ks} {f f' : Nat → Option Value}, (∀ j, j < ks.length → f' j = f j) → CellsOk Z H ks x f → CellsOk Z H ks x f'
  | [], _, _, _, _, _ => by simp only [CellsOk]
  | k :: ks, x, f, f', he, h => by
    simp only [CellsOk] at h ⊢
    refine ⟨by rw [he 0 (by simp)]; exact h.1, CellsOk.congr (fun j hj => he (j + 1) (by simpa using hj)) h.2⟩

/-- An element of a frozen row, at its place. -/
theorem lst_at {g : Gh} {H : Heap} {N : Nat} {ks : List Kd} {xs : List (Tp ks)} {v : Value} (h : CellOk g.Z H (.lst ks) xs v) : ∃ a n c, v = .slice a n c ∧ xs.length = n ∧ n ≤ c ∧ c ≤ lenMax ∧
    ∀ i x, xs[i]? = some x → ∃ b o, a = some ⟨b, o, none⟩ ∧ g.Z b ∧ WfT ks x ∧ ∃ vs, vs.length = ks.length ∧ SimL g H N (lvT ks x) vs ∧ ∀ j, j < vs.length → H.cell ⟨b, o + i * ks.length + j, none⟩ = vs[j]? := by
  simp only [CellOk] at h
  obtain ⟨a, n, c, h1, h2, h3, h4, h5⟩ := h
  refine ⟨a, n, c, h1, h2, h3, h4, fun i x hx => ?_⟩
  have hlt : i < xs.length := by
    rcases Nat.lt_or_ge i xs.length with h | h
    · exact h
    · rw [List.getElem?_eq_none h] at hx; cases hx
  obtain ⟨b, o, ha, hz, cs, T, fr, hb, hc⟩ := h5 (by simp only [asL] at h2; omega)
  have hx' := hc i x hx
  obtain ⟨vs, hl, hs, hv⟩ := lvT_sim (N := N) hx'
  refine ⟨b, o, ha, hz, CellsOk.wf _ _ _ hx', vs, hl, hs, fun j hj => ?_⟩
  rw [← hv j hj]
  simp only [Heap.cell, hb]
  rfl
/-- An element of a row of one's own. -/
theorem row_at {g : Gh} {H : Heap} {N : Nat} {T : TypeId} {ks : List Kd} {xs : List (Tp ks)} {v : Value} {b : Nat} (h : RowOk g H T ks xs v b) : ∃ a n c, v = .slice a n c ∧ xs.length = n ∧ n ≤ c ∧ c ≤ lenMax ∧
    ∀ i x, xs[i]? = some x → ∃ o, a = some ⟨b, o, none⟩ ∧ WfT ks x ∧ ∃ vs, vs.length = ks.length ∧ SimL g H N (lvT ks x) vs ∧ ∀ j, j < vs.length → H.cell ⟨b, o + i * ks.length + j, none⟩ = vs[j]? := by
  obtain ⟨a, n, c, h1, h2, h3, h4, h5⟩ := h
  refine ⟨a, n, c, h1, h2, h3, h4, fun i x hx => ?_⟩
  have hlt : i < xs.length := by
    rcases Nat.lt_or_ge i xs.length with h | h
    · exact h
    · rw [List.getElem?_eq_none h] at hx; cases hx
  rcases h5 with ⟨h, h6⟩ | ⟨o, h6, cs, T', hb, hsz, hc⟩
  · omega
  have hx' := hc i x hx
  obtain ⟨vs, hl, hs, hv⟩ := lvT_sim (N := N) hx'
  refine ⟨o, h6, CellsOk.wf _ _ _ hx', vs, hl, hs, fun j hj => ?_⟩
  rw [← hv j hj]
  simp only [Heap.cell, hb]
  rfl

/-! ### Loads -/
def ldP (P : Program) (st : St) (t : TypeId) (a : AV) (K : AV → Prop) : Prop :=
  match a with
  | .ptr id off => match st.σ[id]? with
    | some (.obj _ _ cs) => ldA P t (cs.drop off) K
    | _ => False
  | .rdp cs => ldA P t cs K
  | .elm id sz i off => match st.σ[id]? with
    | some (.row _ _ ks xs) => match Nat.beq sz ks.length with
      | true => AtN xs i fun x => WfT ks x → ldA P t ((lvT ks x).drop off) K
      | false => False
    | some (.frz ks xs) => match Nat.beq sz ks.length with
      | true => AtN xs i fun x => WfT ks x → ldA P t ((lvT ks x).drop off) K
      | false => False
    | _ => False
  | .arr id => match st.σ[id]?, isAggB P t, Nat.ble (P.cellsOf t) 24 && Nat.beq (leaves P 6 t).length (P.cellsOf t) with
    | some (.row _ _ ks xs), some true, false => xs.length * ks.length = P.cellsOf t ∧ K (.arv ks xs)
    | _, _, _ => False
  | _ => False

theorem drop_get {H : Heap} {b o off : Nat} {vs : List Value} (h : ∀ j, j < vs.length → H.cell ⟨b, o + j, none⟩ = vs[j]?) : ∀ j, j < (vs.drop off).length → H.cell ⟨b, o + off + j, none⟩ = (vs.drop off)[j]? := by
  intro j hj
  simp only [List.length_drop] at hj
  rw [List.getElem?_drop, Nat.add_assoc]
  exact h _ (by omega)

theorem ldP_sound {P : Program} {E : En} {st : St} {ρ : Env} {H : Heap} {g : Gh} (s : Sim E st ρ H g) {t : TypeId} {a : AV} {v : Value} {K' : AV → Prop} {K : Value → Heap → Prop} (h : ldP P st t a K') (ha : SimV g H st.σ.length a v)
    (hk : ∀ a v, SimV g H st.σ.length a v → K' a → K v H) : LoadW P t v H K := by
  unfold ldP at h
  split at h
  · rename_i id off
    split at h
    · rename_i T r cs ho
      simp only [SimV] at ha
      obtain ⟨_, rfl⟩ := ha
      obtain ⟨vs, hb, hs⟩ := s.obj id _ ho
      refine ldA_sound h (hs.drop off) (o := off) ?_ hk
      intro j hj
      have := drop_get (H := H) (b := g.B id) (o := 0) (off := off) (vs := vs) (fun j hj => by simp only [Heap.cell, hb]; simp) j hj
      simpa using this
    · exact h.elim
  · rename_i cs
    simp only [SimV] at ha
    obtain ⟨b, o, vs, rfl, hz, hs, hc⟩ := ha
    exact ldA_sound h hs hc hk
  · rename_i id sz i off
    simp only [SimV] at ha
    obtain ⟨_, b, oo, n, c, hV, rfl⟩ := ha
    split at h
    · rename_i T r ks xs ho
      split at h
      · rename_i hsz
        have hsz := Nat.eq_of_beq_eq_true hsz
        obtain ⟨x, hx, h⟩ := h.get
        obtain ⟨a, n', c', h1, _, _, _, h2⟩ := row_at (T := T) (N := st.σ.length) (s.obj id _ ho)
        obtain ⟨o', h3, hw, vs, hl, hs, hc⟩ := h2 i x hx
        rw [hV] at h1
        cases h1
        simp only [Option.some.injEq, Addr.mk.injEq] at h3
        obtain ⟨rfl, rfl, _⟩ := h3
        refine ldA_sound (h hw) (hs.drop off) ?_ hk
        rw [hsz]
        exact drop_get hc
      · exact h.elim
    · rename_i ks xs ho
      split at h
      · rename_i hsz
        have hsz := Nat.eq_of_beq_eq_true hsz
        obtain ⟨x, hx, h⟩ := h.get
        obtain ⟨a, n', c', h1, _, _, _, h2⟩ := lst_at (N := st.σ.length) (s.obj id _ ho)
        obtain ⟨b', o', h3, _, hw, vs, hl, hs, hc⟩ := h2 i x hx
        rw [hV] at h1
        cases h1
        simp only [Option.some.injEq, Addr.mk.injEq] at h3
        obtain ⟨rfl, rfl, _⟩ := h3
        refine ldA_sound (h hw) (hs.drop off) ?_ hk
        rw [hsz]
        exact drop_get hc
      · exact h.elim
    · exact h.elim
  · rename_i id
    simp only [SimV] at ha
    obtain ⟨_, b, m, c0, hV, rfl⟩ := ha
    split at h
    · rename_i T r ks xs ho hA hN
      obtain ⟨hsz, h⟩ := h
      obtain ⟨a, n, cap, h1, h2, h3, h4, h5⟩ := s.obj id _ ho
      rw [hV] at h1
      cases h1
      rcases h5 with ⟨h6, _⟩ | ⟨o, h6, cs, T', hb, hle, hc⟩
      · cases h6
      · simp only [Option.some.injEq, Addr.mk.injEq] at h6
        obtain ⟨rfl, rfl, _⟩ := h6
        have hmul : xs.length * ks.length ≤ c0 * ks.length := Nat.mul_le_mul_right _ (by omega)
        have hcl : cs.toList.length = cs.size := Array.length_toList
        unfold LoadW
        simp only [hA, hN]
        refine ⟨cs.toList.take (xs.length * ks.length), ?_, fun j hj => ?_, ?_⟩
        · rw [List.length_take, ← hsz]; omega
        · rw [List.length_take] at hj
          rw [add_of_spot rfl, List.getElem?_take, if_pos (by omega)]
          simp only [Heap.cell, hb, Nat.zero_add]
          simp
        · refine hk _ _ ?_ h
          simp only [SimV]
          refine ⟨_, rfl, by rw [List.length_take]; omega, fun i x hx => ?_⟩
          have hlt : i < xs.length := by
            rcases Nat.lt_or_ge i xs.length with h | h
            · exact h
            · rw [List.getElem?_eq_none h] at hx; cases hx
          refine CellsOk.congr (fun j hj => ?_) (hc i x hx)
          have hm2 : (i + 1) * ks.length ≤ xs.length * ks.length := Nat.mul_le_mul_right _ (by omega)
          rw [Nat.add_mul, Nat.one_mul] at hm2
          rw [List.getElem?_take, if_pos (by omega)]
          simp
    · exact h.elim
  · exact h.elim

/-! ### Cells written -/
def setA : List AV → Nat → List AV → List AV
  | cells, _, [] => cells
  | cells, off, v :: vs => setA (cells.set off v) (off + 1) vs
theorem setA_sim {g : Gh} {H : Heap} {N : Nat} : ∀ {as : List AV} {us : List Value} {cs : List AV} {vs : List Value} {off : Nat}, SimL g H N as us → SimL g H N cs vs → SimL g H N (setA cs off as) (setL vs off us)
  | [], [], _, _, _, _, h => h
  | [], _ :: _, _, _, _, h, _ => by simp only [SimL] at h
  | _ :: _, [], _, _, _, h, _ => by simp only [SimL] at h
  | a :: as, u :: us, cs, vs, off, h, hc => by
    simp only [SimL] at h
    simp only [setA, setL]
    exact setA_sim h.2 (hc.set h.1)
theorem setA_length : ∀ (as : List AV) (cs : List AV) (off : Nat), (setA cs off as).length = cs.length
  | [], _, _ => rfl
  | a :: as, cs, off => by rw [setA, setA_length as]; simp
theorem setL_length : ∀ (as : List Value) (cs : List Value) (off : Nat), (setL cs off as).length = cs.length
  | [], _, _ => rfl
  | a :: as, cs, off => by rw [setL, setL_length as]; simp
theorem putRow_setL : ∀ (us : List Value) (vs : List Value) (off : Nat), putRow ⟨vs⟩ off us = ⟨setL vs off us⟩
  | [], _, _ => rfl
  | u :: us, vs, off => by
    rw [putRow, setL]
    have : (⟨vs⟩ : Array Value).setIfInBounds off u = ⟨vs.set off u⟩ := by simp
    rw [this]; exact putRow_setL us _ _
theorem setL_get : ∀ (us : List Value) (vs : List Value) (off j : Nat), off + us.length ≤ vs.length → (setL vs off us)[j]? = if off ≤ j ∧ j < off + us.length then us[j - off]? else vs[j]? := by
  intro us vs off j h
  have := putRow_get us ⟨vs⟩ off j (by simpa using h)
  rw [putRow_setL] at this
  simpa using this

theorem StCells_row {b : Nat} {T : TypeId} {o : Nat} {K : Heap → Prop} : ∀ (vs : List Value) (i : Nat) (H : Heap) (c : Array Value), H b = some (.cells c T (0, 0)) → (∀ v ∈ vs, plainC v = true) → o + i + vs.length ≤ c.size →
    (vs = [] → K H) → (∀ H', H' b = some (.cells (putRow c (o + i) vs) T (0, 0)) → (∀ b', b' ≠ b → H' b' = H b') → K H') → StCells ⟨b, o, none⟩ i vs H K := by
  intro vs
  induction vs with
  | nil => intro i H c hb _ _ hn hk; exact hn rfl
  | cons v vs ih =>
    intro i H c hb hv hl _ hk
    simp only [List.length_cons] at hl
    unfold StCells
    have ha : padd (⟨b, o, none⟩ : Addr) i = ⟨b, o + i, none⟩ := by rw [padd_eq]; exact add_of_spot rfl i
    rw [ha]
    refine StCell.blk (T := T) (c := c) hb (by omega) (hv v List.mem_cons_self) ?_
    refine ih (i + 1) _ (c.setIfInBounds (o + i) v) Sh.upd_eq (fun v hv' => hv v (List.mem_cons_of_mem _ hv')) (by simp; omega) (fun hn => ?_) fun H' hb' ho => ?_
    · subst hn
      refine hk _ (by simp [putRow, Sh.upd_eq]) fun b' hne => Sh.upd_ne hne
    · refine hk H' (by simpa [putRow, Nat.add_assoc] using hb') fun b' hne => ?_
      rw [ho b' hne, Sh.upd_ne hne]

/-! ### Rows that are frozen where they are handed on -/
def unrow (σ : List AObj) : AV → AV
  | .row id => match σ[id]? with
    | some (.row _ _ ks xs) => .lst ks xs
    | some (.frz ks xs) => .lst ks xs
    | _ => .undef
  | a => a
def frzO (σ : List AObj) : AV → Option (List AObj)
  | .row id => match σ[id]? with
    | some (.row _ false ks xs) => some (σ.set id (.frz ks xs))
    | some (.frz _ _) => some σ
    | _ => none
  | _ => some σ
def frzL : List AObj → List AV → Option (List AObj)
  | σ, [] => some σ
  | σ, a :: as => match frzO σ a with
    | some σ' => frzL σ' as
    | none => none

theorem unrow_frz {E : En} {st : St} {ρ : Env} {H : Heap} {g : Gh} (s : Sim E st ρ H g) {a : AV} {v : Value} (hf : ∀ id, a = .row id → ∃ ks xs, st.σ[id]? = some (.frz ks xs)) (h : SimV g H st.σ.length a v) : SimV g H st.σ.length (unrow st.σ a) v := by
  cases a <;> first | exact h | skip
  rename_i id
  obtain ⟨ks, xs, ho⟩ := hf id rfl
  simp only [unrow, ho]
  simp only [SimV] at h ⊢
  rw [h.2.1]
  exact s.obj id _ ho

/-- After a freeze the rows among these are frozen ones. -/
theorem frzO_sound {E : En} {st : St} {ρ : Env} {H : Heap} {g : Gh} (s : Sim E st ρ H g) {a : AV} {σ' : List AObj} (h : frzO st.σ a = some σ') :
    ∃ g', Sim E ⟨st.α, σ'⟩ ρ H g' ∧ Rel st H g ⟨st.α, σ'⟩ H g' ∧ σ'.length = st.σ.length ∧ (∀ id, a = .row id → ∃ ks xs, σ'[id]? = some (.frz ks xs)) ∧ ∀ (id : Nat) (ks : List Kd) (xs : List (Tp ks)), st.σ[id]? = some (.frz ks xs) → σ'[id]? = some (.frz ks xs) := by
  have triv : (∀ id, a ≠ .row id) → σ' = st.σ → ∃ g', Sim E ⟨st.α, σ'⟩ ρ H g' ∧ Rel st H g ⟨st.α, σ'⟩ H g' ∧ σ'.length = st.σ.length ∧ (∀ id, a = .row id → ∃ ks xs, σ'[id]? = some (.frz ks xs)) ∧ ∀ (id : Nat) (ks : List Kd) (xs : List (Tp ks)), st.σ[id]? = some (.frz ks xs) → σ'[id]? = some (.frz ks xs) := by
    rintro hn rfl
    exact ⟨g, s, .refl _ _ _, rfl, fun id e => absurd e (hn id), fun _ _ _ h => h⟩
  unfold frzO at h
  split at h
  · rename_i id
    split at h
    · rename_i T ks xs ho
      cases h
      obtain ⟨g', h1, h2, _, _⟩ := s.freeze ho
      have hlt := get_lt ho
      refine ⟨g', h1, h2, by simp, fun id' e => ?_, fun id' ks' xs' h' => ?_⟩
      · cases e
        exact ⟨ks, xs, by rw [List.getElem?_set, if_pos rfl, if_pos hlt]⟩
      · rw [List.getElem?_set]
        by_cases e : id = id'
        · subst e; rw [ho] at h'; cases h'
        · rw [if_neg e]; exact h'
    · rename_i ks xs ho
      cases h
      exact ⟨g, s, .refl _ _ _, rfl, fun id' e => by cases e; exact ⟨ks, xs, ho⟩, fun _ _ _ h => h⟩
    · cases h
  · rename_i hn
    cases h
    exact triv (fun id e => hn id e) rfl

theorem frzL_sound {E : En} {ρ : Env} {H : Heap} {α : Nat → AV} : ∀ (as : List AV) (σ σ' : List AObj) (g : Gh), Sim E ⟨α, σ⟩ ρ H g → frzL σ as = some σ' →
    ∃ g', Sim E ⟨α, σ'⟩ ρ H g' ∧ Rel ⟨α, σ⟩ H g ⟨α, σ'⟩ H g' ∧ σ'.length = σ.length ∧ (∀ a ∈ as, ∀ id, a = .row id → ∃ ks xs, σ'[id]? = some (.frz ks xs)) ∧ ∀ (id : Nat) (ks : List Kd) (xs : List (Tp ks)), σ[id]? = some (.frz ks xs) → σ'[id]? = some (.frz ks xs) := by
  intro as
  induction as with
  | nil =>
    intro σ σ' g s h
    simp only [frzL, Option.some.injEq] at h
    subst h
    exact ⟨g, s, .refl _ _ _, rfl, by simp, fun _ _ _ h => h⟩
  | cons a as ih =>
    intro σ σ' g s h
    simp only [frzL] at h
    split at h
    · rename_i σ1 h1
      obtain ⟨g1, s1, r1, l1, f1, k1⟩ := frzO_sound s h1
      obtain ⟨g2, s2, r2, l2, f2, k2⟩ := ih σ1 σ' g1 s1 h
      refine ⟨g2, s2, r1.trans r2, l2.trans l1, fun b hb id e => ?_, fun id ks xs h => k2 _ _ _ (k1 _ _ _ h)⟩
      rcases List.mem_cons.1 hb with rfl | hb
      · obtain ⟨ks, xs, h3⟩ := f1 id e
        exact ⟨ks, xs, k2 _ _ _ h3⟩
      · exact f2 b hb id e
    · cases h

theorem unrow_simL {E : En} {st : St} {ρ : Env} {H : Heap} {g : Gh} (s : Sim E st ρ H g) : ∀ {as : List AV} {vs : List Value}, (∀ a ∈ as, ∀ id, a = .row id → ∃ ks xs, st.σ[id]? = some (.frz ks xs)) → SimL g H st.σ.length as vs → SimL g H st.σ.length (as.map (unrow st.σ)) vs
  | [], [], _, _ => by simp only [List.map_nil, SimL]
  | [], _ :: _, _, h => by simp only [SimL] at h
  | _ :: _, [], _, h => by simp only [SimL] at h
  | a :: as, v :: vs, hf, h => by
    simp only [SimL] at h
    simp only [List.map_cons, SimL]
    exact ⟨unrow_frz s (hf a List.mem_cons_self) h.1, unrow_simL s (fun b hb => hf b (List.mem_cons_of_mem _ hb)) h.2⟩

/-! ### Stores -/
def stP (P : Program) (st : St) (t : TypeId) (a v : AV) (K : St → Prop) : Prop :=
  match szOf P t, cellyA v with
  | some s, true => match Nat.beq (cellsA v).length s with
    | true => match a with
      | .ptr id off => match st.σ[id]? with
        | some (.obj T false cs) => match Nat.ble (off + (cellsA v).length) cs.length with
          | true => K (st.obj id (.obj T false (setA cs off (cellsA v))))
          | false => False
        | _ => False
      | .elm id sz i off => match frzL st.σ (cellsA v) with
        | some σ1 => match σ1[id]? with
          | some (.row T false ks xs) => match Nat.beq sz ks.length && Nat.ble (off + (cellsA v).length) ks.length with
            | true => AtN xs i fun x => WfT ks x → match unT ks (setA (lvT ks x) off ((cellsA v).map (unrow σ1))) with
              | some y => K ⟨st.α, σ1.set id (.row T false ks (xs.set i y))⟩
              | none => False
            | false => False
          | _ => False
        | none => False
      | _ => False
    | false => False
  | _, _ => False

theorem row_store {g : Gh} {H H' : Heap} {N : Nat} {T T0 : TypeId} {ks : List Kd} {xs : List (Tp ks)} {v : Value} {b i off oo nn cc : Nat} (hv : v = .slice (some ⟨b, oo, none⟩) nn cc) {x y : Tp ks} {c : Array Value} {as : List AV} {us : List Value} (h : RowOk g H T ks xs v b) (hx : xs[i]? = some x)
    (hb : H b = some (.cells c T0 (0, 0))) (hz : ∀ b, g.Z b → H' b = H b) (hu : SimL g H N as us) (hlen : off + us.length ≤ ks.length) (hy : unT ks (setA (lvT ks x) off as) = some y)
    (hb' : H' b = some (.cells (putRow c (oo + i * ks.length + off) us) T0 (0, 0))) : RowOk g H' T ks (xs.set i y) v b := by
  obtain ⟨a, n, cap, h1, h2, h3, h4, h5⟩ := h
  refine ⟨a, n, cap, h1, by simpa using h2, h3, h4, ?_⟩
  have hlt : i < xs.length := by
    rcases Nat.lt_or_ge i xs.length with h | h
    · exact h
    · rw [List.getElem?_eq_none h] at hx; cases hx
  rcases h5 with ⟨h, h6⟩ | ⟨o, h6, cs, T', hb2, hsz, hc⟩
  · omega
  rw [hb] at hb2
  cases hb2
  rw [h1, h6] at hv
  cases hv
  have hmul : (i + 1) * ks.length ≤ cc * ks.length := Nat.mul_le_mul_right _ (by omega)
  rw [Nat.add_mul] at hmul
  have hfit : oo + i * ks.length + off + us.length ≤ c.size := by omega
  refine .inr ⟨oo, h6, _, _, hb', by rw [putRow_size]; exact hsz, fun j z hj => ?_⟩
  rw [List.getElem?_set] at hj
  by_cases e : i = j
  · subst e
    rw [if_pos rfl, if_pos hlt] at hj
    cases hj
    have hx' := hc i x hx
    obtain ⟨vs, hl, hs, hv⟩ := lvT_sim (N := N) hx'
    have hset := setA_sim (off := off) hu hs
    have := unT_sim hy hset
    refine CellsOk.ext (Z := g.Z) (H := H) (fun b hb => ⟨hb, hz b hb⟩) _ _ _ (CellsOk.congr (fun k hk => ?_) this)
    rw [putRow_get _ _ _ _ hfit, setL_get _ _ _ _ (by omega)]
    by_cases hr : off ≤ k ∧ k < off + us.length
    · rw [if_pos (by omega), if_pos hr]
      congr 1; omega
    · rw [if_neg (by omega), if_neg hr]
      exact hv k (by omega)
  · rw [if_neg e] at hj
    refine CellsOk.ext (Z := g.Z) (H := H) (fun b hb => ⟨hb, hz b hb⟩) _ _ _ (CellsOk.congr (fun k hk => ?_) (hc j z hj))
    rw [putRow_get _ _ _ _ hfit, if_neg]
    intro hr
    rcases Nat.lt_or_gt_of_ne e with h | h
    · have : (i + 1) * ks.length ≤ j * ks.length := Nat.mul_le_mul_right _ (by omega)
      rw [Nat.add_mul] at this; omega
    · have : (j + 1) * ks.length ≤ i * ks.length := Nat.mul_le_mul_right _ (by omega)
      rw [Nat.add_mul] at this; omega

theorem stP_sound {P : Program} {E : En} {st : St} {ρ : Env} {H : Heap} {g : Gh} (s : Sim E st ρ H g) {t : TypeId} {a x : AV} {va vx : Value} {K' : St → Prop} {K : AV → St → Prop} (h : stP P st t a x K') (ha : SimV g H st.σ.length a va) (hx : SimV g H st.σ.length x vx)
    (hk : ∀ st', K' st' → K .undef st') : StoreW P t va vx H (Res E st ρ H g K) := by
  unfold stP at h
  split at h
  · rename_i sz hsz hcel
    obtain ⟨hsx, hpl⟩ := cellsA_sim hcel hx
    have hlen := hsx.len
    split at h
    · rename_i hn
      have hn := Nat.eq_of_beq_eq_true hn
      have hn2 : Nat.beq vx.cells.toList.length sz = true := by rw [← hlen, hn]; exact Nat.beq_refl _
      split at h
      · rename_i id off
        split at h
        · rename_i T cs ho
          split at h
          · rename_i hle
            have hle := Nat.le_of_ble_eq_true hle
            simp only [SimV] at ha
            obtain ⟨_, rfl⟩ := ha
            obtain ⟨vs, hb, hs⟩ := s.obj id _ ho
            have hl2 := hs.len
            unfold StoreW
            simp only [sizeK, hsz, hn2]
            have fin : ∀ H', H' (g.B id) = some (.cells (putRow ⟨vs⟩ off vx.cells.toList) T (0, 0)) → (∀ b', b' ≠ g.B id → H' b' = H b') → Res E st ρ H g K undef H' := by
              intro H' hb' hoth
              rw [putRow_setL] at hb'
              obtain ⟨s', r'⟩ := s.turn (o' := .obj T false (setA cs off (cellsA x))) ho rfl trivial hoth (by rw [hb']; simp) (fun _ => trivial) fun hext => ⟨_, hb', SimL.ext (Nat.le_refl _) hext _ _ (setA_sim hsx hs)⟩
              exact ⟨.undef, _, g, s', r', by simp only [SimV], rfl, hk _ h⟩
            refine StCells_row _ 0 H ⟨vs⟩ hb (plain_all hpl hsx) (by simp only [List.size_toArray]; omega) (fun he => ?_) (fun H' hb' hoth => fin H' (by simpa using hb') hoth)
            exact fin H (by rw [he]; exact hb) fun _ _ => rfl
          · exact h.elim
        · exact h.elim
      · rename_i id sz' i off
        split at h
        · rename_i σ1 hf
          obtain ⟨g1, s1, r1, l1, f1, _⟩ := frzL_sound (cellsA x) st.σ σ1 g s hf
          split at h
          · rename_i T ks xs ho
            split at h
            · rename_i hle
              simp only [Bool.and_eq_true] at hle
              have hsz' := Nat.eq_of_beq_eq_true hle.1
              have hle := Nat.le_of_ble_eq_true hle.2
              simp only [SimV] at ha
              obtain ⟨hid, b, oo, n, c, hV, rfl⟩ := ha
              obtain ⟨y, hy, h⟩ := h.get
              have hrow := s1.obj id _ ho
              obtain ⟨a', n', c', h1, h2', h3', h4', h5'⟩ := hrow
              have hV1 : g1.V id = g.V id := r1.ext.v id hid
              have hrow := s1.obj id _ ho
              obtain ⟨_, _, _, h1', _, _, _, hat⟩ := row_at (T := T) (N := σ1.length) hrow
              obtain ⟨o2, ha1, hw, _⟩ := hat i y hy
              rw [hV1, hV] at h1'
              cases h1'
              simp only [Option.some.injEq, Addr.mk.injEq] at ha1
              obtain ⟨rfl, rfl, _⟩ := ha1
              have h := h hw
              split at h
              · rename_i z hz
                have hHas : Has g1 id (.row T false ks xs) := ⟨_, _, _, by rw [hV1, hV]⟩
                obtain ⟨c2, T2, hb2⟩ := s1.live ho hHas
                have hb : ∃ c T', H (g1.B id) = some (.cells c T' (0, 0)) ∧ oo + c' * ks.length ≤ c.size := by
                  rcases h5' with ⟨h6, h7⟩ | ⟨o3, h6, cc, T', hcc, hs2, _⟩
                  · rw [h1] at hV1; rw [hV] at hV1; cases hV1; cases h6
                  · rw [h1, h6] at hV1; rw [hV] at hV1; cases hV1; exact ⟨cc, T', hcc, hs2⟩
                obtain ⟨c2, T', hb, hcs⟩ := hb
                have hilt : i < xs.length := by
                  rcases Nat.lt_or_ge i xs.length with h | h
                  · exact h
                  · rw [List.getElem?_eq_none h] at hy; cases hy
                have hmul : (i + 1) * ks.length ≤ c' * ks.length := Nat.mul_le_mul_right _ (by omega)
                rw [Nat.add_mul] at hmul
                have hsx1 : SimL g1 H σ1.length ((cellsA x).map (unrow σ1)) vx.cells.toList := by
                  refine unrow_simL s1 f1 ?_
                  have := SimL.ext r1.len r1.ext _ _ hsx
                  exact this
                unfold StoreW
                simp only [sizeK, hsz, hn2]
                have fin : ∀ H', H' (g1.B id) = some (.cells (putRow c2 (oo + i * sz' + off) vx.cells.toList) T' (0, 0)) → (∀ b', b' ≠ g1.B id → H' b' = H b') → Res E st ρ H g K undef H' := by
                  intro H' hb' hoth
                  obtain ⟨s', r'⟩ := s1.turn (o' := .row T false ks (xs.set i z)) ho rfl hHas hoth (by rw [hb']; simp) (fun _ => trivial) fun hext => by
                    rw [hsz'] at hb'
                    exact row_store (T := T) (N := σ1.length) (oo := oo) (by rw [hV1, hV]) hrow hy hb (fun b hbz => (hext.z b hbz).2) hsx1 (by omega) hz hb'
                  exact ⟨.undef, _, g1, s', r1.trans r', by simp only [SimV], rfl, hk _ h⟩
                refine StCells_row _ 0 H c2 hb (plain_all hpl hsx) (by rw [hsz']; omega) (fun he => ?_) (fun H' hb' hoth => fin H' (by simpa using hb') hoth)
                exact fin H (by rw [he]; exact hb) fun _ _ => rfl
              · exact h.elim
            · exact h.elim
          · exact h.elim
        · exact h.elim
      · exact h.elim
    · exact h.elim
  · exact h.elim

end Go.Sh
