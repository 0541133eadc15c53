/-
  Maps from numbers to numbers, over the heap.
-/
import Derived.Test.YthojhkhiamomnaaGreatSh17
set_option linter.all false
namespace Go.Sh

abbrev Kv := Int × Int × Nat
def ent (e : Kv) : MapEntry := { key := .int .i64 e.1, val := .int .i64 e.2.1, born := e.2.2 }
def MapAt (H : Heap) (b : Nat) (es : List Kv) (ck : Nat) : Prop := H b = some (.map ⟨es.map ent⟩ ck)
theorem MapAt.same {H H' : Heap} {b : Nat} {es : List Kv} {ck : Nat} (h : MapAt H b es ck) (e : H' b = H b) : MapAt H' b es ck := by unfold MapAt at h ⊢; rw [e]; exact h
theorem MapAt.some {H : Heap} {b : Nat} {es : List Kv} {ck : Nat} (h : MapAt H b es ck) : H b ≠ none := by unfold MapAt at h; rw [h]; simp
theorem MapAt.keep {S : Nat → Prop} {H H' : Heap} {b : Nat} {es : List Kv} {ck : Nat} (h : MapAt H b es ck) (k : Keep S H H') (hs : ¬ S b) : MapAt H' b es ck := h.same (k.same b hs h.some)

def getK (k : Int) : List Kv → Option Int
  | [] => none
  | e :: es => if e.1 = k then some e.2.1 else getK k es
def idxK (k : Int) : List Kv → Nat → Option (Nat × Int)
  | [], _ => none
  | e :: es, i => if e.1 = k then some (i, e.2.1) else idxK k es (i + 1)
def eraK (k : Int) : List Kv → List Kv
  | [] => []
  | e :: es => if e.1 = k then es else e :: eraK k es
theorem idx_get (k : Int) : ∀ (es : List Kv) (i : Nat), (idxK k es i).map (·.2) = getK k es
  | [], _ => rfl
  | e :: es, i => by
    unfold idxK getK
    split
    · rfl
    · exact idx_get k es (i + 1)
theorem idx_era (k : Int) : ∀ (es : List Kv) (i j : Nat) (v : Int), idxK k es i = some (j, v) → ∃ d, j = i + d ∧ (es.map ent).eraseIdx d = (eraK k es).map ent
  | [], _, _, _, h => by cases h
  | e :: es, i, j, v, h => by
    unfold idxK at h
    unfold eraK
    split at h
    · rename_i hk
      cases h
      exact ⟨0, rfl, by rw [if_pos hk]; rfl⟩
    · rename_i hk
      obtain ⟨d, e1, e2⟩ := idx_era k es (i + 1) j v h
      exact ⟨d + 1, by omega, by rw [if_neg hk]; simp only [List.map_cons, List.eraseIdx_cons_succ, e2]⟩
theorem era_none (k : Int) : ∀ (es : List Kv), getK k es = none → eraK k es = es
  | [], _ => rfl
  | e :: es, h => by
    unfold getK at h
    unfold eraK
    split at h
    · cases h
    · rename_i hk; rw [if_neg hk, era_none k es h]

structure MapTy (P : Program) (t kt el : TypeId) : Prop where
  und : P.underlying t = some (.map kt el)
  key : P.underlying kt = some (.int .i64)
  zero : ∃ it, P.info? el = some it ∧ it.zero = some (.int .i64 0)

section
variable {P : Program} {t kt el : TypeId} {H : Heap}
theorem findNowI (k : Int) : ∀ (es : List Kv) (i : Nat), Instr.findNow (.int .i64) (.int .i64 k) (es.map ent) i = some ((idxK k es i).map fun p => (p.1, .int .i64 p.2))
  | [], _ => rfl
  | e :: es, i => by
    simp only [List.map_cons, Instr.findNow, ent, Instr.sameNow, if_true]
    unfold idxK
    by_cases h : e.1 = k
    · have : (k == e.1) = true := by simp [h]
      rw [this, if_pos h]; rfl
    · have : (k == e.1) = false := by simp; omega
      rw [this, if_neg h]
      exact findNowI k es (i + 1)
theorem findKeyI (hk : P.underlying kt = some (.int .i64)) {k : Int} {es : List Kv} {K : Option (Nat × Value) → Heap → Prop} (h : K ((idxK k es 0).map fun p => (p.1, .int .i64 p.2)) H) : SemW P (Instr.findKey kt (.int .i64 k) (es.map ent)) H K := by
  unfold Instr.findKey
  refine (SemW.bind _ _ _ _).2 (semW_underlying hk ?_)
  rw [findNowI]; exact h
theorem checkKeyI (hk : P.underlying kt = some (.int .i64)) {k : Int} {emp : Bool} {K : Unit → Heap → Prop} (h : K () H) : SemW P (Instr.checkKey emp 10000 kt (.int .i64 k)) H K := by
  unfold Instr.checkKey
  exact (SemW.bind _ _ _ _).2 (semW_underlying hk h)
theorem semW_zeroI {el : TypeId} {it : TypeInfo} {z : Value} {K : Value → Heap → Prop} (h1 : P.info? el = some it) (h2 : it.zero = some z) (hk : K z H) : SemW P (zeroValue el) H K := by
  unfold zeroValue typeInfo
  show SemW P ((match P.info? el with | some d => pure d | none => stuck "no such type") >>= fun i => match i.zero with | some v => pure v | none => unsupported (.resourceLimit "a value of more than 2^22 cells")) H K
  rw [h1]
  show SemW P (match it.zero with | some v => pure v | none => unsupported (.resourceLimit "a value of more than 2^22 cells")) H K
  rw [h2]; exact hk

theorem LkI (T : MapTy P t kt el) {b : Nat} {es : List Kv} {ck : Nat} {k : Int} {ok : Bool} {K : Value → Heap → Prop} (hm : MapAt H b es ck)
    (h : K (if ok then .tuple #[.int .i64 ((getK k es).getD 0), .bool (getK k es).isSome] else .int .i64 ((getK k es).getD 0)) H) : SemW P (Instr.lookup t (.map (some b)) (.int .i64 k) ok) H K := by
  obtain ⟨it, hi, hz⟩ := T.zero
  unfold Instr.lookup
  refine (SemW.bind _ _ _ _).2 (semW_underlying T.und ?_)
  refine (SemW.bind _ _ _ _).2 ?_
  refine ⟨_, hm, rfl, ?_⟩
  refine (SemW.bind _ _ _ _).2 ?_
  show SemW P (Instr.checkKey _ 10000 kt (.int .i64 k) >>= _) H _
  refine (SemW.bind _ _ _ _).2 (checkKeyI T.key ?_)
  refine (SemW.bind _ _ _ _).2 (findKeyI T.key ?_)
  have hg := idx_get k es 0
  cases hf : idxK k es 0 with
  | some p =>
    rw [hf] at hg
    have hg : getK k es = some p.2 := hg.symm
    rw [hg] at h
    show K (if ok = true then .tuple #[.int .i64 p.2, .bool true] else .int .i64 p.2) H
    exact h
  | none =>
    rw [hf] at hg
    have hg : getK k es = none := hg.symm
    rw [hg] at h
    show SemW P (zeroValue el >>= _) H _
    refine (SemW.bind _ _ _ _).2 (semW_zeroI hi hz ?_)
    exact h

/-- A new key. -/
theorem MuI (T : MapTy P t kt el) {b : Nat} {es : List Kv} {ck : Nat} {k v : Int} {K : Unit → Heap → Prop} (hm : MapAt H b es ck) (hn : getK k es = none)
    (h : ∀ H', H' = H.upd b (.map ⟨(es ++ [(k, v, ck)]).map ent⟩ (ck + 1)) → K () H') : SemW P (Instr.mapUpdate t (.map (some b)) (.int .i64 k) (.int .i64 v)) H K := by
  unfold Instr.mapUpdate
  refine (SemW.bind _ _ _ _).2 (semW_underlying T.und ?_)
  refine (SemW.bind _ _ _ _).2 ?_
  refine ⟨_, hm, rfl, ?_⟩
  refine (SemW.bind _ _ _ _).2 (checkKeyI T.key ?_)
  refine (SemW.bind _ _ _ _).2 (findKeyI T.key ?_)
  have hg := idx_get k es 0
  rw [hn] at hg
  cases hf : idxK k es 0 with
  | some p => rw [hf] at hg; cases hg
  | none =>
    refine ⟨⟨_, hm, rfl, rfl⟩, ?_⟩
    have e : (⟨es.map ent⟩ : Array MapEntry).push { key := .int .i64 k, val := .int .i64 v, born := ck } = ⟨(es ++ [(k, v, ck)]).map ent⟩ := by
      apply Array.ext'; simp [ent]
    rw [e]
    exact h _ rfl
theorem DelI (T : MapTy P t kt el) {b : Nat} {es : List Kv} {ck : Nat} {k : Int} {K : Value → Heap → Prop} {tys : List TypeId} {ty : TypeId} (hm : MapAt H b es ck)
    (h : ∀ H', H' = H.upd b (.map ⟨(eraK k es).map ent⟩ ck) → K (.tuple #[]) H') : SemW P (Builtin.delete_ ⟨t :: tys⟩ ty ⟨[.map (some b), .int .i64 k]⟩) H K := by
  unfold Builtin.delete_
  show SemW P (underlying t >>= _) H K
  refine (SemW.bind _ _ _ _).2 (semW_underlying T.und ?_)
  show SemW P (getObj b >>= _) H K
  refine (SemW.bind _ _ _ _).2 ⟨_, hm, rfl, ?_⟩
  show SemW P (Instr.checkKey _ 10000 kt (.int .i64 k) >>= _) H K
  refine (SemW.bind _ _ _ _).2 (checkKeyI T.key ?_)
  refine (SemW.bind _ _ _ _).2 (findKeyI T.key ?_)
  have hg := idx_get k es 0
  cases hf : idxK k es 0 with
  | some p =>
    obtain ⟨d, e1, e2⟩ := idx_era k es 0 p.1 p.2 hf
    refine (SemW.bind _ _ _ _).2 ⟨⟨_, hm, rfl, rfl⟩, ?_⟩
    have e : (⟨es.map ent⟩ : Array MapEntry).eraseIdxIfInBounds p.1 = ⟨(eraK k es).map ent⟩ := by
      rw [e1, Nat.zero_add, ← e2]
      apply Array.ext'; simp
    rw [e]
    exact h _ rfl
  | none =>
    rw [hf] at hg
    have hg : getK k es = none := hg.symm
    refine (SemW.bind _ _ _ _).2 ⟨⟨_, hm, rfl, rfl⟩, ?_⟩
    rw [era_none k es hg] at h
    exact h _ rfl
theorem LenI (T : MapTy P t kt el) {b : Nat} {es : List Kv} {ck : Nat} {ty : TypeId} {K : Value → Heap → Prop} (hm : MapAt H b es ck) (h : K (.int .i64 es.length) H) : SemW P (Builtin.len_ #[t] ty ⟨[.map (some b)]⟩) H K := by
  unfold Builtin.len_
  show SemW P (underlying t >>= _) H K
  refine (SemW.bind _ _ _ _).2 (semW_underlying T.und ?_)
  show SemW P (getObj b >>= _) H K
  refine (SemW.bind _ _ _ _).2 ⟨_, hm, rfl, ?_⟩
  have e : (⟨es.map ent⟩ : Array MapEntry).size = es.length := by simp
  show K (.int .i64 ((⟨es.map ent⟩ : Array MapEntry).size : Int)) H
  rw [e]; exact h
theorem RgI (T : MapTy P t kt el) {b : Nat} {es : List Kv} {ck : Nat} {K : Value → Heap → Prop} (hm : MapAt H b es ck)
    (h : ∀ n, H n = none → K (.pointer (some ⟨n, 0, none⟩)) (H.upd n (.mapIter (some b) ck #[] ck))) : SemW P (Instr.range t (.map (some b))) H K := by
  unfold Instr.range
  refine (SemW.bind _ _ _ _).2 (semW_underlying T.und ?_)
  refine (SemW.bind _ _ _ _).2 ?_
  show SemW P (getObj b >>= _) H _
  refine (SemW.bind _ _ _ _).2 ⟨_, hm, rfl, ?_⟩
  intro n hn
  exact h n hn
theorem NxI {b it : Nat} {es : List Kv} {ck : Nat} {seen : List Nat} {ty : TypeId} {K : Value → Heap → Prop} (hi : H it = some (.mapIter (some b) ck ⟨seen⟩ ck)) (hm : MapAt H b es ck) (hb : ∀ e ∈ es, e.2.2 < ck)
    (hover : (∀ e ∈ es, e.2.2 ∈ seen) → K (.tuple #[.bool false]) H)
    (hstep : ∀ e ∈ es, e.2.2 ∉ seen → K (.tuple #[.bool true, .int .i64 e.1, .int .i64 e.2.1]) (H.upd it (.mapIter (some b) ck ⟨seen ++ [e.2.2]⟩ ck))) :
    SemW P (Instr.next (.pointer (some ⟨it, 0, none⟩)) false ty) H K := by
  unfold Instr.next
  show SemW P (getObj it >>= _) H K
  refine (SemW.bind _ _ _ _).2 ⟨_, hi, rfl, ?_⟩
  show SemW P (getObj b >>= _) H K
  refine (SemW.bind _ _ _ _).2 ⟨_, hm, rfl, ?_⟩
  have hno : (!(⟨seen⟩ : Array Nat).isEmpty && !(⟨es.map ent⟩ : Array MapEntry).isEmpty && (⟨es.map ent⟩ : Array MapEntry).all (·.born ≥ ck)) = false := by
    cases es with
    | nil => simp
    | cons e es =>
      have := hb e List.mem_cons_self
      have h2 : ¬ ck ≤ e.2.2 := by omega
      simp [ent, h2]
  show SemW P (if (!(⟨seen⟩ : Array Nat).isEmpty && !(⟨es.map ent⟩ : Array MapEntry).isEmpty && (⟨es.map ent⟩ : Array MapEntry).all (·.born ≥ ck)) = true then _ else _) H K
  rw [hno, if_neg (by simp)]
  -- what is left
  obtain ⟨L, hL⟩ : ∃ L : List Kv, L = es.filter fun e => !(seen.contains e.2.2) := ⟨_, rfl⟩
  have hleft : (⟨es.map ent⟩ : Array MapEntry).filter (fun e => !(⟨seen⟩ : Array Nat).contains e.born) = ⟨L.map ent⟩ := by
    apply Array.ext'
    rw [Array.toList_filter, hL, List.filter_map]
    congr 1
    apply List.filter_congr
    intro e _
    simp only [Function.comp_apply, ent]
    congr 1
    rw [Bool.eq_iff_iff]
    simp
  have hold : (⟨L.map ent⟩ : Array MapEntry).filter (fun e => decide (e.born < ck)) = ⟨L.map ent⟩ := by
    apply Array.ext'
    rw [Array.toList_filter, List.filter_eq_self]
    intro m hmm
    simp only [List.mem_map] at hmm
    obtain ⟨e, he, rfl⟩ := hmm
    rw [hL] at he
    exact decide_eq_true (hb e (List.mem_filter.1 he).1)
  have hnew : (⟨L.map ent⟩ : Array MapEntry).filter (fun e => decide (e.born ≥ ck)) = ⟨[]⟩ := by
    apply Array.ext'
    rw [Array.toList_filter, List.filter_eq_nil_iff]
    intro m hmm
    simp only [List.mem_map] at hmm
    obtain ⟨e, he, rfl⟩ := hmm
    rw [hL] at he
    have := hb e (List.mem_filter.1 he).1
    simp [ent]; omega
  have hC : ((if (⟨L.map ent⟩ : Array MapEntry).isEmpty = true then #[none] else #[]) ++ Array.map some ((⟨L.map ent⟩ : Array MapEntry) ++ (⟨[]⟩ : Array MapEntry)) : Array (Option MapEntry)) = ⟨if L = [] then [none] else L.map fun e => some (ent e)⟩ := by
    apply Array.ext'
    cases L with
    | nil => simp
    | cons x L => simp
  simp only [hleft, hold, hnew, hC]
  refine (SemW.bind _ _ _ _).2 ?_
  by_cases h0 : L = []
  · have over : K (.tuple #[.bool false]) H := hover fun e he => by
      rw [hL, List.filter_eq_nil_iff] at h0
      simpa using h0 e he
    rw [if_pos h0]
    refine ⟨fun _ => over, fun _ t => ?_⟩
    have h1 : (Question.mapNext 1).cut t = 0 := by show t % 1 = 0; omega
    show SemW P (match (⟨[none]⟩ : Array (Option MapEntry))[(Question.mapNext 1).cut t]? with
        | some (some e) => (do setObj it (.mapIter (some b) ck ((⟨seen⟩ : Array Nat).push e.born) ck); pure (.tuple #[.bool true, e.key, e.val]))
        | some none => pure (.tuple #[.bool false])
        | none => stuck "Next: no such candidate") H K
    rw [h1]
    exact over
  · have hpos : 0 < L.length := List.length_pos_iff.2 h0
    rw [if_neg h0]
    have key : ∀ i : Nat, i < L.length → SemW P (match (⟨L.map fun e => some (ent e)⟩ : Array (Option MapEntry))[i]? with
        | some (some e) => (do setObj it (.mapIter (some b) ck ((⟨seen⟩ : Array Nat).push e.born) ck); pure (.tuple #[.bool true, e.key, e.val]))
        | some none => pure (.tuple #[.bool false])
        | none => stuck "Next: no such candidate") H K := by
      intro i hi2
      have hm2 : L[i] ∈ es.filter (fun e => !(seen.contains e.2.2)) := by rw [← hL]; exact List.getElem_mem hi2
      have h2 := List.mem_filter.1 hm2
      have he : (⟨L.map fun e => some (ent e)⟩ : Array (Option MapEntry))[i]? = some (some (ent L[i])) := by simp [hi2]
      rw [he]
      refine (SemW.bind _ _ _ _).2 ⟨⟨_, hi, rfl, rfl⟩, ?_⟩
      have hp : (⟨seen⟩ : Array Nat).push (ent L[i]).born = ⟨seen ++ [L[i].2.2]⟩ := by apply Array.ext'; simp [ent]
      rw [hp]
      exact hstep _ h2.1 (by simpa using h2.2)
    refine ⟨fun _ => key 0 hpos, fun _ t => ?_⟩
    refine key _ ?_
    show t % (⟨L.map fun e => some (ent e)⟩ : Array (Option MapEntry)).size < L.length
    rw [show (⟨L.map fun e => some (ent e)⟩ : Array (Option MapEntry)).size = L.length by simp]
    exact Nat.mod_lt _ hpos
theorem EnI {b it : Nat} {es : List Kv} {ck : Nat} {seen : List Nat} {e : Kv} {K : Value → Heap → Prop} (hi : H it = some (.mapIter (some b) ck ⟨seen ++ [e.2.2]⟩ ck)) (hm : MapAt H b es ck) (he : e ∈ es) (hd : ∀ x ∈ es, x.2.2 = e.2.2 → x = e)
    (h : K (.tuple #[.int .i64 e.1, .int .i64 e.2.1]) H) : SemW P (Instr.entry (.pointer (some ⟨it, 0, none⟩))) H K := by
  unfold Instr.entry
  show SemW P (getObj it >>= _) H K
  refine (SemW.bind _ _ _ _).2 ⟨_, hi, rfl, ?_⟩
  have hb : (⟨seen ++ [e.2.2]⟩ : Array Nat).back? = some e.2.2 := by simp [Array.back?]
  dsimp only [SemW]
  rw [hb]
  show SemW P (getObj b >>= _) H K
  refine (SemW.bind _ _ _ _).2 ⟨_, hm, rfl, ?_⟩
  have hf : (⟨es.map ent⟩ : Array MapEntry).find? (fun x => x.born == e.2.2) = some (ent e) := by
    rw [← Array.find?_toList]
    show (es.map ent).find? (fun x => x.born == e.2.2) = some (ent e)
    clear h hm hi
    induction es with
    | nil => cases he
    | cons x es ih =>
      simp only [List.map_cons, List.find?_cons]
      by_cases hx : x.2.2 = e.2.2
      · have := hd x List.mem_cons_self hx
        subst this
        simp [ent]
      · have h1 : ((ent x).born == e.2.2) = false := by simp [ent, hx]
        rw [h1]
        refine ih ?_ fun y hy => hd y (List.mem_cons_of_mem _ hy)
        rcases List.mem_cons.1 he with rfl | he
        · exact absurd rfl hx
        · exact he
  have hne : (ck != ck) = false := by simp
  show SemW P (if (ck != ck) = true then _ else _) H K
  rw [hne, if_neg (by simp)]
  rw [hf]
  exact h
end
end Go.Sh
