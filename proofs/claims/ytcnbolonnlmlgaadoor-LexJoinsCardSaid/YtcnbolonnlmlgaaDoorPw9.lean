/-
  Code and loops over plain data.
-/
import Derived.Test.YtcnbolonnlmlgaaDoorPw8
set_option linter.unusedSectionVars false
set_option linter.unusedSimpArgs false
set_option linter.unusedVariables false
namespace Go.Sh
variable [Laid]

/-- What a loop's rounds hand on. -/
inductive PK where
  | int (k : IntKind) | bool | str | lst (ks : List Kd) | row (T : TypeId) (ks : List Kd) | arr (T : TypeId) (ks : List Kd)
def PKT : PK → Type
  | .int _ => Int
  | .bool => Bool
  | .str => List UInt8
  | .lst ks => List (Tp ks)
  | .row _ ks => List (Tp ks)
  | .arr _ ks => List (Tp ks)
def PTup : List PK → Type
  | [] => Unit
  | k :: ks => PKT k × PTup ks
def WfK : (k : PK) → PKT k → Prop
  | .int k, n => InR k n
  | .bool, _ => True
  | .str, s => s.length ≤ lenMax
  | .lst ks, xs => WfE (.lst ks) xs
  | .row _ ks, xs => WfE (.lst ks) xs
  | .arr _ ks, xs => WfE (.lst ks) xs
def WfY : (ks : List PK) → PTup ks → Prop
  | [], _ => True
  | k :: ks, y => WfK k y.1 ∧ WfY ks y.2

/-- Rows that are to be frozen first. -/
def frzY : List AObj → List PK → List AV → Option (List AObj)
  | σ, .lst _ :: ks, a :: as => match frzO σ a with
    | some σ' => frzY σ' ks as
    | none => none
  | σ, _ :: ks, _ :: as => frzY σ ks as
  | σ, [], [] => some σ
  | _, _, _ => none
def readK (σ : List AObj) : (k : PK) → AV → Option (PKT k × Option (Option Nat))
  | .int k, .int k' n => match decide (k' = k) with
    | true => some (n, none)
    | false => none
  | .bool, .bool b => some (b, none)
  | .str, .str s => some (s, none)
  | .lst ks, a => match rdL σ ks a with
    | some xs => some (xs, none)
    | none => none
  | .row _ _, .nils => some ([], some none)
  | .row T ks, .row id => match σ[id]? with
    | some (.row T' false ks' xs) => match Nat.beq T' T, Kd.decs ks' ks with
      | true, isTrue h => some (castL h xs, some (some id))
      | _, _ => none
    | _ => none
  | .arr T ks, .arr id => match σ[id]? with
    | some (.row T' false ks' xs) => match Nat.beq T' T, Kd.decs ks' ks with
      | true, isTrue h => some (castL h xs, some (some id))
      | _, _ => none
    | _ => none
  | _, _ => none
def readY (σ : List AObj) : (ks : List PK) → List AV → Option (PTup ks × List (Option Nat))
  | [], [] => some ((), [])
  | k :: ks, a :: as => match readK σ k a, readY σ ks as with
    | some (x, s), some (y, r) => some ((x, y), match s with | some i => i :: r | none => r)
    | _, _ => none
  | _, _ => none
def avK (N : Nat) : (k : PK) → PKT k → AV
  | .int k, n => .int k n
  | .bool, b => .bool b
  | .str, s => .str s
  | .lst ks, xs => .lst ks xs
  | .row _ _, _ => .row N
  | .arr _ _, _ => .arr N
def isRowK : PK → Bool
  | .row _ _ => true
  | .arr _ _ => true
  | _ => false
def avsY (N : Nat) : (ks : List PK) → PTup ks → List AV
  | [], _ => []
  | k :: ks, y => avK N k y.1 :: avsY (match isRowK k with | true => N + 1 | false => N) ks y.2
def rowsY : (ks : List PK) → PTup ks → List AObj
  | [], _ => []
  | .row T ks :: ps, y => .row T false ks y.1 :: rowsY ps y.2
  | .arr T ks :: ps, y => .row T false ks y.1 :: rowsY ps y.2
  | .int _ :: ps, y => rowsY ps y.2
  | .bool :: ps, y => rowsY ps y.2
  | .str :: ps, y => rowsY ps y.2
  | .lst _ :: ps, y => rowsY ps y.2

/-- For new rows: from where each one is. -/
structure Srcs (g g'' : Gh) (N : Nat) (src : List (Option Nat)) : Prop where
  hit : ∀ (j id : Nat), src[j]? = some (some id) → g''.V (N + j) = g.V id ∧ g''.B (N + j) = g.B id
  nil : ∀ (j : Nat), src[j]? = some none → g''.V (N + j) = .slice none 0 0

theorem Srcs.tail {g g'' : Gh} {N : Nat} {i : Option Nat} {src : List (Option Nat)} (h : Srcs g g'' N (i :: src)) : Srcs g g'' (N + 1) src :=
  ⟨fun j id hj => by have := h.hit (j + 1) id (by simpa using hj); rwa [Nat.add_assoc, Nat.add_comm 1 j], fun j hj => by have := h.nil (j + 1) (by simpa using hj); rwa [Nat.add_assoc, Nat.add_comm 1 j]⟩

theorem readY_sim {E : En} {st : St} {ρ : Env} {H : Heap} {g : Gh} (s : Sim E st ρ H g) : ∀ {ks : List PK} {as : List AV} {vs : List Value} {y : PTup ks} {src : List (Option Nat)}, readY st.σ ks as = some (y, src) → SimL g H st.σ.length as vs →
    (∀ (k : PK) (ks' : List Kd) (i id : Nat), ks[i]? = some k → k = .lst ks' → as[i]? = some (.row id) → ∃ ks xs, st.σ[id]? = some (.frz ks xs)) →
    WfY ks y ∧ (rowsY ks y).length = src.length ∧ (∀ (j : Nat) (o : AObj) (i : Option Nat), (rowsY ks y)[j]? = some o → src[j]? = some i → (∃ id, i = some id ∧ st.σ[id]? = some o ∧ isRo o = false ∧ (∃ T ks xs, o = .row T false ks xs)) ∨ (i = none ∧ ∃ T ks, o = .row T false ks [])) ∧
    ∀ (g'' : Gh) (N N'' : Nat), Srcs g g'' N src → N + src.length ≤ N'' → g''.Z = g.Z → SimL g'' H N'' (avsY N ks y) vs := by
  intro ks
  induction ks with
  | nil =>
    intro as vs y src h hs _
    cases as with
    | cons => simp only [readY] at h; cases h
    | nil =>
      simp only [readY, Option.some.injEq, Prod.mk.injEq] at h
      obtain ⟨_, rfl⟩ := h
      refine ⟨trivial, rfl, fun j o i hj => by simp [rowsY] at hj, fun g'' N N'' _ _ _ => ?_⟩
      cases vs with
      | nil => simp only [avsY, SimL]
      | cons => simp only [SimL] at hs
  | cons k ks ih =>
    intro as vs y src h hs hf
    cases as with
    | nil => simp only [readY] at h; cases h
    | cons a as =>
      cases vs with
      | nil => simp only [SimL] at hs
      | cons v vs =>
        simp only [SimL] at hs
        simp only [readY] at h
        split at h
        · rename_i x sx y' r hx hy
          simp only [Option.some.injEq, Prod.mk.injEq] at h
          obtain ⟨rfl, rfl⟩ := h
          obtain ⟨w, hlen, hrow, hsim⟩ := ih hy hs.2 (fun k' ks' i id h1 h2 h3 => hf k' ks' (i + 1) id (by simpa using h1) h2 (by simpa using h3))
          -- one datum
          have scal : sx = none → isRowK k = false → WfK k x → (∀ (g'' : Gh) (N N'' : Nat), g''.Z = g.Z → SimV g'' H N'' (avK N k x) v) → rowsY (k :: ks) (x, y') = rowsY ks y' →
              WfY (k :: ks) (x, y') ∧ (rowsY (k :: ks) (x, y')).length = (match sx with | some i => i :: r | none => r).length ∧ (∀ (j : Nat) (o : AObj) (i : Option Nat), (rowsY (k :: ks) (x, y'))[j]? = some o → (match sx with | some i => i :: r | none => r)[j]? = some i → (∃ id, i = some id ∧ st.σ[id]? = some o ∧ isRo o = false ∧ (∃ T ks xs, o = .row T false ks xs)) ∨ (i = none ∧ ∃ T ks, o = .row T false ks [])) ∧
              ∀ (g'' : Gh) (N N'' : Nat), Srcs g g'' N (match sx with | some i => i :: r | none => r) → N + (match sx with | some i => i :: r | none => r).length ≤ N'' → g''.Z = g.Z → SimL g'' H N'' (avsY N (k :: ks) (x, y')) (v :: vs) := by
            rintro rfl hk hw hv hr
            rw [hr]
            refine ⟨⟨hw, w⟩, hlen, hrow, fun g'' N N'' h1 h2 h3 => ?_⟩
            simp only [avsY, hk, SimL]
            exact ⟨hv g'' N N'' h3, hsim g'' N N'' h1 h2 h3⟩
          have rowC : ∀ i o0, sx = some i → isRowK k = true → rowsY (k :: ks) (x, y') = o0 :: rowsY ks y' → WfK k x → (∀ (g'' : Gh) (N N'' : Nat), Srcs g g'' N (i :: r) → N + (i :: r).length ≤ N'' → g''.Z = g.Z → SimV g'' H N'' (avK N k x) v) →
              (∀ o, (rowsY (k :: ks) (x, y'))[0]? = some o → (∃ id, i = some id ∧ st.σ[id]? = some o ∧ isRo o = false ∧ (∃ T ks xs, o = .row T false ks xs)) ∨ (i = none ∧ ∃ T ks, o = .row T false ks [])) →
              WfY (k :: ks) (x, y') ∧ (rowsY (k :: ks) (x, y')).length = (match sx with | some i => i :: r | none => r).length ∧ (∀ (j : Nat) (o : AObj) (i : Option Nat), (rowsY (k :: ks) (x, y'))[j]? = some o → (match sx with | some i => i :: r | none => r)[j]? = some i → (∃ id, i = some id ∧ st.σ[id]? = some o ∧ isRo o = false ∧ (∃ T ks xs, o = .row T false ks xs)) ∨ (i = none ∧ ∃ T ks, o = .row T false ks [])) ∧
              ∀ (g'' : Gh) (N N'' : Nat), Srcs g g'' N (match sx with | some i => i :: r | none => r) → N + (match sx with | some i => i :: r | none => r).length ≤ N'' → g''.Z = g.Z → SimL g'' H N'' (avsY N (k :: ks) (x, y')) (v :: vs) := by
            rintro i o0 rfl hik hrs hw hv h0
            refine ⟨⟨hw, w⟩, by simp [hrs, hlen], fun j o i' hj hi' => ?_, fun g'' N N'' h1 h2 h3 => ?_⟩
            · cases j with
              | zero => simp at hi'; subst hi'; exact h0 o hj
              | succ j => exact hrow j o i' (by simpa [hrs] using hj) (by simpa using hi')
            · simp only [avsY, hik, SimL]
              simp only [List.length_cons] at h2
              exact ⟨hv g'' N N'' h1 (by simpa using h2) h3, hsim g'' (N + 1) N'' h1.tail (by omega) h3⟩
          cases k with
          | int k0 =>
            cases a <;> simp only [readK] at hx <;> first | (cases hx; done) | skip
            split at hx
            · rename_i hk
              have := of_decide_eq_true hk
              subst this
              cases hx
              simp only [SimV] at hs
              exact scal rfl rfl hs.1.2 (fun g'' N N'' _ => by simp only [avK, SimV]; exact hs.1) rfl
            · cases hx
          | bool =>
            cases a <;> simp only [readK] at hx <;> first | (cases hx; done) | skip
            cases hx
            simp only [SimV] at hs
            exact scal rfl rfl trivial (fun g'' N N'' _ => by simp only [avK, SimV]; exact hs.1) rfl
          | str =>
            cases a <;> simp only [readK] at hx <;> first | (cases hx; done) | skip
            cases hx
            simp only [SimV] at hs
            exact scal rfl rfl hs.1.2 (fun g'' N N'' _ => by simp only [avK, SimV]; exact hs.1) rfl
          | lst ks' =>
            simp only [readK] at hx
            split at hx
            · rename_i xs hrd
              cases hx
              have hc : CellOk g.Z H (.lst ks') x v := by
                unfold rdL at hrd
                split at hrd
                · split at hrd
                  · rename_i hk _
                    subst hk; cases hrd
                    simpa only [SimV, castL] using hs.1
                  · cases hrd
                · cases hrd
                  simp only [SimV] at hs
                  simp only [CellOk]
                  exact ⟨none, 0, 0, hs.1, rfl, Nat.le_refl _, Nat.zero_le _, fun h => absurd h (by omega)⟩
                · rename_i id
                  obtain ⟨ks2, xs2, ho⟩ := hf _ ks' 0 id rfl rfl rfl
                  rw [ho] at hrd
                  simp only at hrd
                  split at hrd
                  · rename_i hk _
                    subst hk; cases hrd
                    simp only [SimV] at hs
                    rw [hs.1.2.1]
                    exact s.obj id _ ho
                  · cases hrd
                · cases hrd
              exact scal rfl rfl (CellOk.wf (.lst ks') x v hc) (fun g'' N N'' hz => by simp only [avK, SimV]; rw [hz]; exact hc) rfl
            · cases hx
          | row T ks' =>
            cases a <;> simp only [readK] at hx <;> first | (cases hx; done) | skip
            · cases hx
              simp only [SimV] at hs
              refine rowC none (.row T false ks' []) rfl rfl rfl (by simp only [WfK, WfE]; exact ⟨Nat.zero_le _, fun x hx => by simp [asL] at hx⟩) (fun g'' N N'' h1 h2 _ => ?_) (fun o ho => ?_)
              · simp only [avK, SimV]
                simp only [List.length_cons] at h2
                have hn := h1.nil 0 rfl
                simp only [Nat.add_zero] at hn
                exact ⟨by omega, by rw [hn]; exact hs.1, none, 0, 0, hs.1⟩
              · simp [rowsY] at ho
                exact .inr ⟨rfl, T, ks', ho.symm⟩
            · rename_i id
              split at hx
              · rename_i T' ks2 xs ho
                split at hx
                · rename_i _ _ hke hT _
                  have hT := Nat.eq_of_beq_eq_true hT
                  subst hT hke
                  cases hx
                  simp only [SimV] at hs
                  have hrow0 := s.obj id _ ho
                  refine rowC (some id) _ rfl rfl rfl ?_ (fun g'' N N'' h1 h2 _ => ?_) (fun o ho' => ?_)
                  · simp only [WfK, WfE, castL]
                    obtain ⟨a', n', c', h1, h2, h3, h4, hat⟩ := row_at (T := 0) (N := st.σ.length) hrow0
                    refine ⟨by simp only [asL]; omega, fun x hx => ?_⟩
                    obtain ⟨i, hi⟩ := List.getElem?_of_mem hx
                    obtain ⟨_, _, hw3, _⟩ := hat i x hi
                    exact hw3
                  · simp only [avK, SimV]
                    simp only [List.length_cons] at h2
                    have hn := (h1.hit 0 id rfl).1
                    simp only [Nat.add_zero] at hn
                    exact ⟨by omega, by rw [hn]; exact hs.1.2.1, hs.1.2.2⟩
                  · simp [rowsY, castL] at ho'
                    subst ho'
                    exact .inl ⟨id, rfl, ho, rfl, _, _, _, rfl⟩
                · cases hx
              · cases hx
          | arr T ks' =>
            cases a <;> simp only [readK] at hx <;> first | (cases hx; done) | skip
            rename_i id
            split at hx
            · rename_i T' ks2 xs ho
              split at hx
              · rename_i _ _ hke hT _
                have hT := Nat.eq_of_beq_eq_true hT
                subst hT hke
                cases hx
                simp only [SimV] at hs
                have hrow0 := s.obj id _ ho
                refine rowC (some id) _ rfl rfl rfl ?_ (fun g'' N N'' h1 h2 _ => ?_) (fun o ho' => ?_)
                · simp only [WfK, WfE, castL]
                  obtain ⟨a', n', c', h1, h2, h3, h4, hat⟩ := row_at (T := 0) (N := st.σ.length) hrow0
                  refine ⟨by simp only [asL]; omega, fun x hx => ?_⟩
                  obtain ⟨i, hi⟩ := List.getElem?_of_mem hx
                  obtain ⟨_, _, hw3, _⟩ := hat i x hi
                  exact hw3
                · simp only [avK, SimV]
                  simp only [List.length_cons] at h2
                  have hn := (h1.hit 0 id rfl).1
                  simp only [Nat.add_zero] at hn
                  obtain ⟨_, b, n, c, h3, h4⟩ := hs.1
                  exact ⟨by omega, b, n, c, by rw [hn]; exact h3, h4⟩
                · simp [rowsY, castL] at ho'
                  subst ho'
                  exact .inl ⟨id, rfl, ho, rfl, _, _, _, rfl⟩
              · cases hx
            · cases hx
        · cases h

theorem frzY_sound {E : En} {ρ : Env} {H : Heap} {α : Nat → AV} : ∀ (ks : List PK) (as : List AV) (σ σ' : List AObj) (g : Gh), Sim E ⟨α, σ⟩ ρ H g → frzY σ ks as = some σ' →
    ∃ g', Sim E ⟨α, σ'⟩ ρ H g' ∧ Rel ⟨α, σ⟩ H g ⟨α, σ'⟩ H g' ∧ σ'.length = σ.length ∧ (∀ (k : PK) (ks' : List Kd) (i id : Nat), ks[i]? = some k → k = .lst ks' → as[i]? = some (.row id) → ∃ ks xs, σ'[id]? = some (.frz ks xs)) ∧
      ∀ (id : Nat) (ks : List Kd) (xs : List (Tp ks)), σ[id]? = some (.frz ks xs) → σ'[id]? = some (.frz ks xs) := by
  intro ks
  induction ks with
  | nil =>
    intro as σ σ' g s h
    cases as with
    | nil => simp only [frzY, Option.some.injEq] at h; subst h; exact ⟨g, s, .refl _ _ _, rfl, fun k ks' i id h => by simp at h, fun _ _ _ h => h⟩
    | cons => simp only [frzY] at h; cases h
  | cons k ks ih =>
    intro as σ σ' g s h
    cases as with
    | nil => cases k <;> simp only [frzY] at h <;> cases h
    | cons a as =>
      have plain : frzY σ (k :: ks) (a :: as) = frzY σ ks as → (∀ ks', k ≠ .lst ks') → ∃ g', Sim E ⟨α, σ'⟩ ρ H g' ∧ Rel ⟨α, σ⟩ H g ⟨α, σ'⟩ H g' ∧ σ'.length = σ.length ∧ (∀ (k' : PK) (ks' : List Kd) (i id : Nat), (k :: ks)[i]? = some k' → k' = .lst ks' → (a :: as)[i]? = some (.row id) → ∃ ks xs, σ'[id]? = some (.frz ks xs)) ∧
          ∀ (id : Nat) (ks : List Kd) (xs : List (Tp ks)), σ[id]? = some (.frz ks xs) → σ'[id]? = some (.frz ks xs) := by
        intro he hk
        rw [he] at h
        obtain ⟨g', h1, h2, h3, h4, h5⟩ := ih as σ σ' g s h
        refine ⟨g', h1, h2, h3, fun k' ks' i id hi e ha => ?_, h5⟩
        cases i with
        | zero => simp at hi; subst hi; exact absurd e (hk ks')
        | succ i => exact h4 k' ks' i id (by simpa using hi) e (by simpa using ha)
      cases k with
      | lst ks' =>
        simp only [frzY] at h
        split at h
        · rename_i σ1 hf
          obtain ⟨g1, s1, r1, l1, f1, k1⟩ := frzO_sound s hf
          obtain ⟨g2, s2, r2, l2, f2, k2⟩ := ih as σ1 σ' g1 s1 h
          refine ⟨g2, s2, r1.trans r2, l2.trans l1, fun k' ks' i id hi e ha => ?_, fun _ _ _ h => k2 _ _ _ (k1 _ _ _ h)⟩
          cases i with
          | zero =>
            simp at ha
            obtain ⟨ks3, xs3, h3⟩ := f1 id ha
            exact ⟨ks3, xs3, k2 _ _ _ h3⟩
          | succ i => exact f2 k' ks' i id (by simpa using hi) e (by simpa using ha)
        · cases h
      | int => exact plain rfl (by intro _ h; cases h)
      | bool => exact plain rfl (by intro _ h; cases h)
      | str => exact plain rfl (by intro _ h; cases h)
      | row => exact plain rfl (by intro _ h; cases h)
      | arr => exact plain rfl (by intro _ h; cases h)

/-- The head of a loop: what is there at its entry, marked, with new rows behind. -/
theorem Sim.rehead {E : En} {st : St} {ρ : Env} {H : Heap} {g : Gh} (s : Sim E st ρ H g) {base rows : List AObj} {src : List (Option Nat)} (hle : base.length ≤ st.σ.length) (hlen : rows.length = src.length)
    (hb : ∀ (id : Nat) (o : AObj), base[id]? = some o → o = .gone ∨ (isRo o = true ∧ st.σ[id]? = some o ∧ SimO g H base.length id o) ∨ (∃ T cs cs1, o = .obj T false cs ∧ st.σ[id]? = some (.obj T false cs1)))
    (hr : ∀ (j : Nat) (o : AObj) (i : Option Nat), rows[j]? = some o → src[j]? = some i → (∃ id, i = some id ∧ st.σ[id]? = some o ∧ isRo o = false ∧ (∃ T ks xs, o = .row T false ks xs)) ∨ (i = none ∧ ∃ T ks, o = .row T false ks []))
    (hd : ∀ (j j' id : Nat), src[j]? = some (some id) → src[j']? = some (some id) → j = j') :
    ∃ g'', g''.Z = g.Z ∧ (∀ i, i < base.length → g''.B i = g.B i ∧ g''.V i = g.V i) ∧ Srcs g g'' base.length src ∧
      ∀ (base' : List AObj) (α'' : Nat → AV) (ρ'' : Env), base'.length = base.length → (∀ (id : Nat) (o : AObj), base'[id]? = some o → (isRo o = true ∧ base[id]? = some o) ∨ o = .gone ∨ (∃ T cs cs0, o = .obj T false cs ∧ base[id]? = some (.obj T false cs0) ∧ ∃ vs, H (g.B id) = some (.cells ⟨vs⟩ T (0, 0)) ∧ SimL g'' H (base.length + rows.length) cs vs)) →
        (∀ t, SimV g'' H (base.length + rows.length) (α'' t) (ρ'' t)) → Sim E ⟨α'', base' ++ rows⟩ ρ'' H g'' := by
  let g'' : Gh := ⟨g.Z, fun i => if i < base.length then g.B i else match src[i - base.length]? with | some (some id) => g.B id | _ => 0,
    fun i => if i < base.length then g.V i else match src[i - base.length]? with | some (some id) => g.V id | _ => .slice none 0 0⟩
  have hB : ∀ i, i < base.length → g''.B i = g.B i := fun i hi => if_pos hi
  have hV : ∀ i, i < base.length → g''.V i = g.V i := fun i hi => if_pos hi
  have hS : Srcs g g'' base.length src := by
    refine ⟨fun j id hj => ⟨?_, ?_⟩, fun j hj => ?_⟩
    · show (if base.length + j < base.length then _ else _) = _
      rw [if_neg (by omega), Nat.add_sub_cancel_left, hj]
    · show (if base.length + j < base.length then _ else _) = _
      rw [if_neg (by omega), Nat.add_sub_cancel_left, hj]
    · show (if base.length + j < base.length then _ else _) = _
      rw [if_neg (by omega), Nat.add_sub_cancel_left, hj]
  refine ⟨g'', rfl, fun i hi => ⟨hB i hi, hV i hi⟩, hS, fun base' α'' ρ'' hbl hb' hα => ?_⟩
  have hext : Ext base.length g H g'' H := ⟨fun b hz => ⟨hz, rfl⟩, hB, hV⟩
  have hN : (base' ++ rows).length = base.length + rows.length := by simp [hbl]
  -- each object: below, or a row
  have parts : ∀ (i : Nat) (o : AObj), (base' ++ rows)[i]? = some o → (i < base.length ∧ base'[i]? = some o) ∨ (∃ j, i = base.length + j ∧ rows[j]? = some o ∧ ∃ k, src[j]? = some k) := by
    intro i o hi
    rcases Nat.lt_or_ge i base.length with h | h
    · rw [List.getElem?_append_left (by omega)] at hi
      exact .inl ⟨h, hi⟩
    · rw [List.getElem?_append_right (by omega)] at hi
      refine .inr ⟨i - base.length, by omega, by rw [← hbl]; exact hi, ?_⟩
      have : i - base'.length < rows.length := get_lt hi
      exact ⟨src[i - base.length]'(by omega), by simp⟩
  -- an owner, in the old state
  have old : ∀ (i : Nat) (o : AObj), (base' ++ rows)[i]? = some o → Has g'' i o → ∃ id o1, st.σ[id]? = some o1 ∧ Has g id o1 ∧ g''.B i = g.B id ∧ ((i < base.length ∧ id = i ∧ (isRo o1 = true ∨ ∃ T cs, o1 = .obj T false cs)) ∨ (∃ j, i = base.length + j ∧ src[j]? = some (some id) ∧ isRo o1 = false ∧ ∃ T ks xs, o1 = .row T false ks xs)) := by
    intro i o hi hh
    rcases parts i o hi with ⟨h1, h2⟩ | ⟨j, rfl, h2, k, hk⟩
    · rcases hb' i o h2 with ⟨h3, h4⟩ | rfl | ⟨T, cs, cs0, rfl, h4, _⟩
      · rcases hb i o h4 with rfl | ⟨_, h5, _⟩ | ⟨T, cs, cs1, rfl, h5⟩
        · exact hh.elim
        · exact ⟨i, o, h5, (Has.ext hext h1).1 hh, hB i h1, .inl ⟨h1, rfl, .inl h3⟩⟩
        · exact absurd h3 (by simp [isRo])
      · exact hh.elim
      · rcases hb i _ h4 with e | ⟨h5, _, _⟩ | ⟨T', cs', cs1, e, h5⟩
        · cases e
        · simp [isRo] at h5
        · exact ⟨i, _, h5, trivial, hB i h1, .inl ⟨h1, rfl, .inr ⟨_, _, rfl⟩⟩⟩
    · rcases hr j o k h2 hk with ⟨id, rfl, h3, h4, T, ks, xs, rfl⟩ | ⟨rfl, T, ks, rfl⟩
      · obtain ⟨hv, hb2⟩ := hS.hit j id hk
        obtain ⟨a, n, c, h5⟩ := hh
        exact ⟨id, _, h3, ⟨a, n, c, by rw [← hv]; exact h5⟩, hb2, .inr ⟨j, rfl, hk, rfl, _, _, _, rfl⟩⟩
      · obtain ⟨a, n, c, h5⟩ := hh
        rw [hS.nil j hk] at h5
        cases h5
  refine ⟨fun t => by simp only [hN]; exact hα t, fun i o hi => ?_, fun i o hi hh => ?_, fun i j oi oj hij hi hj hhi hhj => ?_, fun i o hi hh => ?_, s.keep, s.zsub, s.znew, s.zlive, s.lay, s.zc⟩
  · simp only [hN]
    rcases parts i o hi with ⟨h1, h2⟩ | ⟨j, rfl, h2, k, hk⟩
    · rcases hb' i o h2 with ⟨h3, h4⟩ | rfl | ⟨T, cs, cs0, rfl, _, vs, h5, h6⟩
      · rcases hb i o h4 with rfl | ⟨_, h5, h6⟩ | ⟨T, cs, cs1, rfl, h5⟩
        · trivial
        · exact SimO.ext (Nat.le_add_right _ _) hext h1 (fun _ => rfl) h6
        · simp [isRo] at h3
      · trivial
      · exact ⟨vs, by rw [hB i h1]; exact h5, h6⟩
    · rcases hr j o k h2 hk with ⟨id, rfl, h3, h4, T, ks, xs, rfl⟩ | ⟨rfl, T, ks, rfl⟩
      · obtain ⟨hv, hb2⟩ := hS.hit j id hk
        have := s.obj id _ h3
        simp only [SimO] at this ⊢
        rw [hv, hb2]
        exact this
      · simp only [SimO]
        exact ⟨none, 0, 0, hS.nil j hk, rfl, Nat.le_refl _, Nat.zero_le _, .inl ⟨rfl, rfl⟩⟩
  · obtain ⟨id, o1, h1, h2, h3, _⟩ := old i o hi hh
    rw [h3]; exact s.nz id o1 h1 h2
  · obtain ⟨id, o1, h1, h2, h3, h4⟩ := old i oi hi hhi
    obtain ⟨id', o2, h5, h6, h7, h8⟩ := old j oj hj hhj
    rw [h3, h7]
    refine s.dis id id' o1 o2 (fun e => ?_) h1 h5 h2 h6
    subst e
    rw [h1] at h5
    cases h5
    rcases h4 with ⟨_, rfl, h9⟩ | ⟨k, rfl, h9, h10, T, ks, xs, rfl⟩
    · rcases h8 with ⟨_, rfl, _⟩ | ⟨k', rfl, h11, h12, T, ks, xs, rfl⟩
      · exact hij rfl
      · rcases h9 with h9 | ⟨T', cs', h9⟩
        · simp [isRo] at h9
        · cases h9
    · rcases h8 with ⟨_, rfl, h11⟩ | ⟨k', rfl, h11, _⟩
      · rcases h11 with h11 | ⟨T', cs', h11⟩
        · simp [isRo] at h11
        · cases h11
      · exact hij (by rw [hd k k' _ h9 h11])
  · obtain ⟨id, o1, h1, h2, h3, _⟩ := old i o hi hh
    rw [h3]; exact s.own id o1 h1 h2

end Go.Sh
