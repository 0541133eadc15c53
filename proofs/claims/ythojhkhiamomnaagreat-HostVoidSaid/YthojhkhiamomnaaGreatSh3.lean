/-
  Building structs, arrays and rows; equality; division and shifts; calls; one operation; a row of operations.
-/
import Derived.Test.YthojhkhiamomnaaGreatSh2
set_option linter.unusedSectionVars false
set_option linter.unusedSimpArgs false
set_option linter.unusedVariables false
namespace Go.Sh

def setL : List Value → Nat → List Value → List Value
  | cells, _, [] => cells
  | cells, off, v :: vs => setL (cells.set off v) (off + 1) vs

def fillL (place : Nat → Option (Nat × Nat)) : List Value → List (Nat × Value) → Option (List Value)
  | cells, [] => some cells
  | cells, (i, v) :: rest => match place i with
    | none => none
    | some (off, size) => match Nat.beq v.cells.toList.length size && Nat.ble (off + v.cells.toList.length) cells.length with
      | true => fillL place (setL cells off v.cells.toList) rest
      | false => none

theorem setL_eq : ∀ (vs : List Value) (k off : Nat) (cells : Array Value),
    ((vs.zipIdx k).foldl (fun (cs : Array Value) (p : Value × Nat) => cs.setIfInBounds (off + p.2) p.1) cells).toList = setL cells.toList (off + k) vs := by
  intro vs
  induction vs with
  | nil => intro k off cells; rfl
  | cons v vs ih =>
    intro k off cells
    simp only [List.zipIdx_cons, List.foldl_cons, setL]
    rw [ih (k + 1) off]
    simp [Nat.add_assoc]

theorem fillL_eq (place : Nat → Option (Nat × Nat)) : ∀ (parts : List (Nat × Value)) (cells : Array Value) (out : List Value),
    fillL place cells.toList parts = some out → Instr.fill place cells parts = some ⟨out⟩ := by
  intro parts
  induction parts with
  | nil => intro cells out h; simp only [fillL, Option.some.injEq] at h; subst h; rfl
  | cons p rest ih =>
    obtain ⟨i, v⟩ := p
    intro cells out h
    simp only [fillL] at h
    unfold Instr.fill
    cases hp : place i with
    | none => rw [hp] at h; cases h
    | some os =>
      obtain ⟨off, size⟩ := os
      rw [hp] at h
      simp only at h ⊢
      split at h
      · rename_i hc
        simp only [Bool.and_eq_true] at hc
        have h1 := Nat.eq_of_beq_eq_true hc.1
        have h2 := Nat.le_of_ble_eq_true hc.2
        have hcond : (decide (v.cells.size ≠ size) || decide (off + v.cells.size > cells.size)) = false := by
          simp at h1 h2; simp [h1]; omega
        rw [if_neg (by rw [hcond]; simp)]
        apply ih
        have := setL_eq v.cells.toList 0 off cells
        rw [← Array.foldl_toList, Array.toList_zipIdx, this]
        exact h
      · cases h

def zeroL (P : Program) (t : TypeId) : Option (List Value) := match P.info? t with
  | some i => match i.zero with
    | some v => some v.cells.toList
    | none => none
  | none => none

theorem semW_zero {P : Program} {t : TypeId} {l : List Value} {H : Heap} {K : Value → Heap → Prop} (h : zeroL P t = some l) (hk : ∀ v : Value, v.cells = ⟨l⟩ → K v H) : SemW P (zeroValue t) H K := by
  unfold zeroL at h
  unfold zeroValue typeInfo
  cases hi : P.info? t with
  | none => rw [hi] at h; cases h
  | some i =>
    rw [hi] at h
    simp only at h
    cases hz : i.zero with
    | none => rw [hz] at h; cases h
    | some v =>
      rw [hz] at h
      simp only [Option.some.injEq] at h
      refine (SemW.bind _ _ _ _).2 ?_
      refine (SemW.bind _ _ _ _).2 ?_
      change SemW P (match P.info? t with | some i => pure i | none => stuck "no such type") H _
      rw [hi]
      change SemW P (match i.zero with | some v => pure v | none => _) H K
      rw [hz]
      exact hk v (by rw [← h])

def placesL (P : Program) : List Field → Option (List (Nat × Nat))
  | [] => some []
  | f :: fs => match szOf P f.type, placesL P fs with
    | some s, some r => some ((f.offset, s) :: r)
    | _, _ => none

theorem semW_places {P : Program} {H : Heap} : ∀ (fs : List Field) (pl : List (Nat × Nat)) (K : List (Nat × Nat) → Heap → Prop), placesL P fs = some pl → K pl H →
    SemW P (fs.mapM fun f => do pure (f.offset, ← sizeOf f.type)) H K := by
  intro fs
  induction fs with
  | nil => intro pl K h hk; cases h; simpa [pure, SemW] using hk
  | cons f fs ih =>
    intro pl K h hk
    simp only [placesL] at h
    split at h
    · rename_i s r hs hr
      cases h
      rw [List.mapM_cons]
      refine (SemW.bind _ _ _ _).2 ?_
      refine (SemW.bind _ _ _ _).2 (semW_szOf hs ?_)
      change SemW P (List.mapM _ fs >>= _) H K
      exact (SemW.bind _ _ _ _).2 (ih r _ hr hk)
    · cases h

/-- What a struct or an array holds that is built of parts. -/
def buildL (P : Program) (t : TypeId) (parts : List (Nat × Value)) : Option (List Value) :=
  match P.underlying t with
  | some (.struct fs) => match zeroL P t, placesL P fs.toList with
    | some z, some pl => fillL (pl[·]?) z parts
    | _, _ => none
  | some (.array _ e) => match zeroL P t, szOf P e with
    | some z, some s => fillL (fun i => some (i * s, s)) z parts
    | _, _ => none
  | _ => none

theorem semW_build {P : Program} {t : TypeId} {parts : Array (Nat × Value)} {l : List Value} {H : Heap} {K : Value → Heap → Prop} (h : buildL P t parts.toList = some l) (hk : K (.agg ⟨l⟩) H) :
    SemW P (Instr.build t parts) H K := by
  unfold buildL at h
  unfold Instr.build
  split at h
  · rename_i fs hu
    split at h
    · rename_i z pl hz hp
      refine (SemW.bind _ _ _ _).2 ?_
      refine semW_zero hz fun v hv => ?_
      refine (SemW.bind _ _ _ _).2 (semW_underlying hu ?_)
      simp only [Array.mapM_eq_mapM_toList]
      refine (SemW.bind _ _ _ _).2 ?_
      rw [map_eq_pure_bind]
      refine (SemW.bind _ _ _ _).2 ?_
      refine semW_places _ pl _ hp ?_
      have : Instr.fill (fun x => pl.toArray[x]?) v.cells parts.toList = some ⟨l⟩ := by
        rw [hv]
        refine fillL_eq _ _ _ _ ?_
        simpa using h
      change SemW P (match Instr.fill (fun x => pl.toArray[x]?) v.cells parts.toList with | some cells => pure (Value.agg cells) | _ => _) H K
      rw [this]
      exact hk
    · cases h
  · rename_i n e hu
    split at h
    · rename_i z s hz hs
      refine (SemW.bind _ _ _ _).2 ?_
      refine semW_zero hz fun v hv => ?_
      refine (SemW.bind _ _ _ _).2 (semW_underlying hu ?_)
      refine (SemW.bind _ _ _ _).2 (semW_szOf hs ?_)
      have : Instr.fill (fun i => some (i * s, s)) v.cells parts.toList = some ⟨l⟩ := by
        rw [hv]
        exact fillL_eq _ _ _ _ h
      change SemW P (match Instr.fill (fun i => some (i * s, s)) v.cells parts.toList with | some cells => pure (Value.agg cells) | _ => _) H K
      rw [this]
      exact hk
    · cases h
  · cases h

/-- n cells, the zero's one behind the other. -/
def repL : Nat → List Value → List Value
  | 0, _ => []
  | n + 1, z => z ++ repL n z

def rowL (P : Program) (e : TypeId) (len : Nat) (parts : List (Nat × Value)) : Option (List Value) :=
  match szOf P e with
  | some s => match len with
    | 0 => fillL (fun i => some (i * s, s)) [] parts
    | len + 1 => match zeroL P e with
      | some z => match Nat.beq z.length s && Nat.ble ((len + 1) * s) 16777216 with
        | true => fillL (fun i => some (i * s, s)) (repL (len + 1) z) parts
        | false => none
      | none => none
  | none => none

theorem repL_length (n : Nat) (z : List Value) : (repL n z).length = n * z.length := by
  induction n with
  | zero => simp [repL]
  | succ n ih => simp [repL, ih, Nat.succ_mul, Nat.add_comm]

theorem repL_get (z : List Value) (hz : 0 < z.length) : ∀ (n i : Nat), i < n * z.length → (repL n z)[i]? = z[i % z.length]? := by
  intro n
  induction n with
  | zero => intro i h; simp at h
  | succ n ih =>
    intro i h
    simp only [repL, List.getElem?_append]
    by_cases hi : i < z.length
    · rw [if_pos hi, Nat.mod_eq_of_lt hi]
    · rw [if_neg hi, ih (i - z.length) (by rw [Nat.succ_mul] at h; omega)]
      rw [Nat.mod_eq_sub_mod (a := i) (by omega)]

theorem rep_eq (n : Nat) (z : Array Value) : ((Array.range (n * z.size)).map fun i => z[i % z.size]!) = ⟨repL n z.toList⟩ := by
  apply Array.ext
  · simp [repL_length]
  · intro i h1 h2
    simp at h1
    have hz : 0 < z.size := by
      rcases Nat.eq_zero_or_pos z.size with h | h
      · rw [h] at h1; simp at h1
      · exact h
    have h3 := repL_get z.toList (by simpa using hz) n i (by simpa using h1)
    have hlt : i % z.size < z.size := Nat.mod_lt _ hz
    simp only [Array.getElem_map, Array.getElem_range]
    rw [getElem!_pos z _ hlt]
    simp at h3
    have h4 : (repL n z.toList)[i]? = some (repL n z.toList)[i] := by
      rw [List.getElem?_eq_getElem]
    rw [h4, Array.getElem?_eq_getElem hlt] at h3
    exact (Option.some.inj h3).symm

theorem semW_newRow {P : Program} {e : TypeId} {cells : Array Value} {H : Heap} {K : Addr → Heap → Prop} (h : ∀ n, H n = none → K ⟨n, 0, none⟩ (H.upd n (.cells cells e))) : SemW P (newRow e cells) H K :=
  (SemW.bind _ _ _ _).2 fun n hn => h n hn

theorem semW_buildSlice {P : Program} {t e : TypeId} {len : Nat} {parts : Array (Nat × Value)} {l : List Value} {H : Heap} {K : Value → Heap → Prop}
    (hu : P.underlying t = some (.slice e)) (h : rowL P e len parts.toList = some l) (hk : ∀ n, H n = none → K (.slice (some ⟨n, 0, none⟩) len len) (H.upd n (.cells ⟨l⟩ e))) :
    SemW P (Instr.buildSlice t len parts) H K := by
  unfold rowL at h
  unfold Instr.buildSlice
  refine (SemW.bind _ _ _ _).2 (semW_underlying hu ?_)
  simp only
  split at h
  · rename_i s hs
    refine (SemW.bind _ _ _ _).2 (semW_szOf hs ?_)
    cases len with
    | zero =>
      simp only at h
      have hf : Instr.fill (fun i => some (i * s, s)) #[] parts.toList = some ⟨l⟩ := fillL_eq _ _ _ _ h
      simp only [Nat.zero_mul]
      rw [if_neg (by simp)]
      change SemW P (match Instr.fill (fun i => some (i * s, s)) ((Array.range 0).map fun i => (#[] : Array Value)[i % 0]!) parts.toList with | some cells => _ | _ => _) H K
      have h0 : ((Array.range 0).map fun i => (#[] : Array Value)[i % 0]!) = #[] := by simp
      rw [h0, hf]
      exact (SemW.bind _ _ _ _).2 (semW_newRow hk)
    | succ len =>
      simp only at h
      split at h
      · rename_i z hz
        split at h
        · rename_i hc
          simp only [Bool.and_eq_true] at hc
          have h1 := Nat.eq_of_beq_eq_true hc.1
          have h2 := Nat.le_of_ble_eq_true hc.2
          rw [if_neg (by simpa using h2)]
          have goal : ∀ zero : Array Value, zero = ⟨z⟩ ∨ ((len + 1) * s = 0 ∧ zero = #[]) → SemW P (do
              let some cells := Instr.fill (fun i => some (i * s, s)) ((Array.range ((len + 1) * s)).map (zero[· % zero.size]!)) parts.toList
                | stuck "buildSlice: a part of the wrong size"
              pure (.slice (some (← newRow e cells)) (len + 1) (len + 1))) H K := by
            intro zero hzero
            have hrep : ((Array.range ((len + 1) * s)).map fun i => zero[i % zero.size]!) = ⟨repL (len + 1) z⟩ := by
              rcases hzero with rfl | ⟨h0, rfl⟩
              · rw [← h1]; exact rep_eq (len + 1) ⟨z⟩
              · rw [h0]
                have hs0 : s = 0 := by
                  rcases Nat.mul_eq_zero.1 h0 with h | h
                  · omega
                  · exact h
                have hz0 : z = [] := by apply List.eq_nil_of_length_eq_zero; omega
                subst hz0
                have : ∀ n, repL n ([] : List Value) = [] := by intro n; induction n with | zero => rfl | succ n ih => simp [repL, ih]
                rw [this]; simp
            change SemW P (match Instr.fill (fun i => some (i * s, s)) ((Array.range ((len + 1) * s)).map fun i => zero[i % zero.size]!) parts.toList with | some cells => _ | _ => _) H K
            rw [hrep, fillL_eq (fun i => some (i * s, s)) parts.toList ⟨repL (len + 1) z⟩ l h]
            exact (SemW.bind _ _ _ _).2 (semW_newRow hk)
          by_cases h0 : (len + 1) * s = 0
          · rw [if_pos h0]
            exact goal #[] (.inr ⟨h0, rfl⟩)
          · rw [if_neg h0]
            refine (SemW.bind _ _ _ _).2 (semW_zero hz fun v hv => ?_)
            have := goal ⟨z⟩ (.inl rfl)
            rw [← hv] at this
            exact this
        · cases h
      · cases h
  · cases h

end Go.Sh
