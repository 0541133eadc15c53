/-
  Code over plain data, and that it stands for code over a heap.
-/
import Derived.Test.YtaeiblfdmlapoaaDoorPw9
set_option linter.unusedSectionVars false
set_option linter.unusedSimpArgs false
set_option linter.unusedVariables false
namespace Go.Sh
variable [Laid]

/-- Of a loop: what its rounds hand on, what they leave alone, an object whose cells are handed on too. -/
structure PLoop where
  slots : List (Tmp × PK)
  fixed : List Tmp
  vary : Option (Tmp × List PK)
structure PPlan where
  regs : List (Nat × List Nat × List Tmp)
  loops : List (Nat × PLoop)
  own : List Tmp := []
  nomark : List (Nat × List Tmp) := []
  unr : List (Nat × Nat) := []
  trees : List (Nat × Tree) := []
def nomarkOf (id : Nat) : List (Nat × List Tmp) → List Tmp
  | [] => []
  | (k, r) :: l => match Nat.beq id k with | true => r | false => nomarkOf id l
def PLoop.tmps (L : PLoop) : List Tmp := L.slots.map (·.1)
def PLoop.kinds (L : PLoop) : List PK := L.slots.map (·.2) ++ (match L.vary with | some v => v.2 | none => [])
def PPlan.plan (p : PPlan) : Plan := ⟨p.regs, p.loops.map fun l => (l.1, l.2.tmps, l.2.tmps.map (fun _ => Kind.any), l.2.fixed), p.unr, p.trees⟩
def ploopOf (id : Nat) : List (Nat × PLoop) → Option PLoop
  | [] => none
  | (k, r) :: l => match Nat.beq id k with | true => some r | false => ploopOf id l
theorem loopOf_plan (id : Nat) : ∀ l : List (Nat × PLoop), loopOf id (l.map fun l => (l.1, l.2.tmps, l.2.tmps.map (fun _ => Kind.any), l.2.fixed)) = (ploopOf id l).map fun L => (L.tmps, L.tmps.map (fun _ => Kind.any), L.fixed)
  | [] => rfl
  | (k, r) :: l => by
    simp only [List.map_cons, loopOf, ploopOf]
    cases Nat.beq id k with
    | true => rfl
    | false => exact loopOf_plan id l

abbrev PPost := Exit → St → Prop
def pthen (K : St → Prop) (Q : PPost) : PPost := fun e st => match e with
  | .normal => K st
  | e => Q e st
def pblock (id : Nat) (Q : PPost) : PPost := fun e st => match e with
  | .exit i => match Nat.beq i id with | true => Q .normal st | false => Q (.exit i) st
  | e => Q e st
/-- A loop over plain data: what holds at the head of each round, which goes down. -/
def LoopJ (T : Type) (x0 : T) (body : T → (T → Prop) → Prop) : Prop :=
  ∃ (I : Nat → T → Prop) (k : Nat), I k x0 ∧ ∀ k x, I k x → body x fun x' => ∃ k', k' < k ∧ I k' x'

def mkBase (idv : Option Nat) (gone : List Nat) : Nat → List AObj → List AObj
  | _, [] => []
  | i, o :: os => (match memB i gone with
    | true => .gone
    | false => match idv with
      | some k => match Nat.beq i k with
        | true => o
        | false => flagO true o
      | none => flagO true o) :: mkBase idv gone (i + 1) os
def srcIds : List (Option Nat) → List Nat
  | [] => []
  | some i :: l => i :: srcIds l
  | none :: l => srcIds l
def idV (α : Nat → AV) : Option (Tmp × List PK) → Option (Option Nat)
  | none => some none
  | some (t, _) => match α t with
    | .ptr id 0 => some (some id)
    | _ => none
def cellsV (σ : List AObj) : Option Nat → Option (List AV)
  | none => some []
  | some id => match σ[id]? with
    | some (.obj _ false cs) => some cs
    | _ => none
def lpIn (L : PLoop) (st : St) : Option (PTup L.kinds × List AObj × Option Nat) :=
  match idV st.α L.vary with
  | some idv => match cellsV st.σ idv with
    | some cs => match frzY st.σ L.kinds (L.tmps.map st.α ++ cs) with
      | some σ1 => match readY σ1 L.kinds (L.tmps.map st.α ++ cs) with
        | some (y, src) => match uniqB (srcIds src) with
          | true => some (y, mkBase idv (srcIds src) 0 σ1, idv)
          | false => none
        | none => none
      | none => none
    | none => none
  | none => none
def sameT (base σ : List AObj) : Option Nat → Bool
  | none => true
  | some id => match base[id]?, σ[id]? with
    | some (.obj T _ _), some (.obj T' _ _) => Nat.beq T T'
    | _, _ => false
def lpBack (L : PLoop) (base : List AObj) (idv : Option Nat) (st : St) : Option (PTup L.kinds) :=
  match sameT base st.σ idv, cellsV st.σ idv with
  | true, some cs => match frzY st.σ L.kinds (L.tmps.map st.α ++ cs) with
    | some σ1 => match readY σ1 L.kinds (L.tmps.map st.α ++ cs) with
      | some (y, src) => match uniqB (srcIds src) with
        | true => some y
        | false => none
      | none => none
    | none => none
  | _, _ => none
def bindA : List Tmp → List AV → (Nat → AV) → (Nat → AV)
  | t :: ts, a :: as, g => putA (bindA ts as g) (some t) a
  | _, _, g => g
def keepA : List Tmp → (Nat → AV) → (Nat → AV)
  | [], _ => fun _ => .undef
  | t :: ts, α => putA (keepA ts α) (some t) (α t)
def setV (base : List AObj) (cs : List AV) : Option Nat → List AObj
  | none => base
  | some id => match base[id]? with
    | some (.obj T _ _) => base.set id (.obj T false cs)
    | _ => base
def PLoop.head (L : PLoop) (α : Nat → AV) (base : List AObj) (idv : Option Nat) (y : PTup L.kinds) : St :=
  ⟨bindA L.tmps (avsY base.length L.kinds y) (keepA L.fixed α), setV base ((avsY base.length L.kinds y).drop L.tmps.length) idv ++ rowsY L.kinds y⟩
def PLoop.fine (L : PLoop) : Bool := uniqB L.tmps && L.fixed.all fun f => !(memB f L.tmps)

def pnextK (n : Exit → Bool) (K : St → Prop) (Q : PPost) : PPost := fun e st => match n e with
  | true => K st
  | false => Q e st
def pgotoK (F : Nat → St → PPost → Prop) (L : Nat → Bool) : Nat → PPost → PPost
  | 0, Q => fun e st => match e with
    | .goto l => (match L l with
      | true => False
      | false => Q (.goto l) st)
    | e => Q e st
  | n + 1, Q => fun e st => match e with
    | .goto l => (match L l with
      | true => F l st (pgotoK F L n Q)
      | false => Q (.goto l) st)
    | e => Q e st
def PLoopC (plan : PPlan) (key : Nat) (B : St → PPost → Prop) (nx : Exit → Bool) (st : St) (Q : PPost) : Prop := match ploopOf key plan.loops with
  | some L => match L.fine, lpIn L st with
    | true, some (y0, base, idv) => LoopJ (PTup L.kinds) y0 fun y next => WfY L.kinds y → B (L.head st.α base idv y)
        (pnextK nx (fun st' => match lpBack L base idv st' with | some y' => next y' | none => False) fun e st' => Q e ⟨st'.α, unmark st.σ st'.σ⟩)
    | _, _ => False
  | none => False

/-- A loop of at most so many rounds, each by itself. -/
def punroll (B : St → PPost → Prop) : Nat → St → PPost → Prop
  | 0, _, _ => False
  | n + 1, st, Q => B st (pnextK isNorm (fun st' => punroll B n st' Q) Q)

mutual
def PCode (P : Program) (tab : List (Nat × Ct)) (plan : PPlan) : Code → St → PPost → Prop
  | .skip, st, Q => Q .normal st
  | .label _, st, Q => Q .normal st
  | .region id ops draw, st, Q => PReg P tab plan.own (nomarkOf id plan.nomark) plan.regs plan.trees id ops draw st fun st' => Q .normal st'
  | .seq a b, st, Q => PCode P tab plan a st (pthen (fun st' => PCode P tab plan b st' Q) Q)
  | .cond c x y, st, Q => match evA st.α c with
    | .bool t => IfB t (PCode P tab plan x st Q) (PCode P tab plan y st Q)
    | _ => False
  | .block id c, st, Q => PCode P tab plan c st (pblock id Q)
  | .loop c, st, Q => match unrOf (firstRegion c) plan.unr with
    | some n => punroll (fun st Q => PCode P tab plan c st Q) n st Q
    | none => PLoopC plan (firstRegion c) (fun st Q => PCode P tab plan c st Q) isNorm st Q
  | .scope c, st, Q => match loopLbl plan.plan c with
    | none => PCode P tab plan c st (pgotoK (fun l st Q => PFr P tab plan c l st Q) (hasLbl c) (nLbl c) Q)
    | some l => PBe P tab plan c l st (pnextK isNorm (fun st => PLoopC plan (lblKey l) (fun st Q => PFr P tab plan c l st (pgotoK (fun l st Q => PFr P tab plan c l st Q) (others c l) (nLbl c) Q)) (isGoto l) st Q)
        (pgotoK (fun l st Q => PFr P tab plan c l st Q) (others c l) (nLbl c) (pnextK (isGoto l) (fun st => PLoopC plan (lblKey l) (fun st Q => PFr P tab plan c l st (pgotoK (fun l st Q => PFr P tab plan c l st Q) (others c l) (nLbl c) Q)) (isGoto l) st Q) Q)))
  | .exit id, st, Q => Q (.exit id) st
  | .goto l, st, Q => Q (.goto l) st
  | .ret, st, Q => Q .ret st
  | _, _, _ => False
def PFr (P : Program) (tab : List (Nat × Ct)) (plan : PPlan) : Code → Nat → St → PPost → Prop
  | .seq a b, l, st, Q => match hasLbl a l with
    | true => PFr P tab plan a l st (pthen (fun st' => PCode P tab plan b st' Q) Q)
    | false => PFr P tab plan b l st Q
  | .label l', l, st, Q => match Nat.beq l' l with
    | true => Q .normal st
    | false => False
  | _, _, _, _ => False
def PBe (P : Program) (tab : List (Nat × Ct)) (plan : PPlan) : Code → Nat → St → PPost → Prop
  | .seq a b, l, st, Q => match hasLbl a l with
    | true => PBe P tab plan a l st Q
    | false => PCode P tab plan a st (pthen (fun st' => PBe P tab plan b l st' Q) Q)
  | .label l', l, st, Q => match Nat.beq l' l with
    | true => Q .normal st
    | false => False
  | _, _, _, _ => False
end

theorem decAny : ∀ (ts : List Tmp) (vs : List Value), vs.length = ts.length → ∃ x, dec (ts.map fun _ => Kind.any) vs = some x ∧ enc (ts.map fun _ => Kind.any) x = vs
  | [], [], _ => ⟨(), rfl, rfl⟩
  | [], _ :: _, h => by simp at h
  | _ :: _, [], h => by simp at h
  | t :: ts, v :: vs, h => by
    obtain ⟨x, h1, h2⟩ := decAny ts vs (by simpa using h)
    refine ⟨(v, x), ?_, ?_⟩
    · have e : ∀ (ks : List Kind) (v : Value) (vs : List Value), dec (.any :: ks) (v :: vs) = match dec ks vs with | some x => some (v, x) | none => none := by
        intro ks v vs
        cases v <;> rfl
      exact (e _ v vs).trans (by rw [h1])
    · show v :: enc (ts.map fun _ => Kind.any) x = _
      rw [h2]
theorem enc_len : ∀ (ts : List Tmp) (x : Tup (ts.map fun _ => Kind.any)), (enc (ts.map fun _ => Kind.any) x).length = ts.length
  | [], _ => rfl
  | t :: ts, x => by
    show (x.1 :: enc (ts.map fun _ => Kind.any) x.2).length = _
    rw [List.length_cons, enc_len ts]; rfl
theorem uniq_nodup : ∀ {l : List Nat}, uniqB l = true → l.Nodup
  | [], _ => by simp
  | e :: l, h => by
    simp only [uniqB, Bool.and_eq_true, Bool.not_eq_true'] at h
    refine List.nodup_cons.2 ⟨fun hc => ?_, uniq_nodup h.2⟩
    rw [memB_iff.2 hc] at h
    cases h.1
theorem bindE_map : ∀ (ts : List Tmp) (vs : List Value) (g : Env), ts.Nodup → vs.length = ts.length → ts.map (bindE ts vs g) = vs
  | [], [], _, _, _ => rfl
  | [], _ :: _, _, _, h => by simp at h
  | _ :: _, [], _, _, h => by simp at h
  | t :: ts, v :: vs, g, hn, hl => by
    obtain ⟨h1, h2⟩ := List.nodup_cons.1 hn
    simp only [List.map_cons, bindE, List.cons.injEq]
    refine ⟨by simp [put], ?_⟩
    rw [← bindE_map ts vs g h2 (by simpa using hl)]
    refine List.map_congr_left fun u hu => ?_
    rw [bindE_map ts vs g h2 (by simpa using hl)]
    exact put_get fun e he heq => by cases he; subst heq; exact h1 hu

theorem bindA_sim {g : Gh} {H : Heap} {N : Nat} {γ : Nat → AV} {ρ : Env} (hγ : ∀ t, SimV g H N (γ t) (ρ t)) : ∀ (ts : List Tmp) (as : List AV) (vs : List Value), SimL g H N as vs → (∀ (i : Nat) (t : Tmp) (v : Value), ts[i]? = some t → vs[i]? = some v → ρ t = v) → ∀ t, SimV g H N (bindA ts as γ t) (ρ t)
  | [], _, _, _, _, t => by simpa only [bindA] using hγ t
  | _ :: _, [], _, _, _, t => by simpa only [bindA] using hγ t
  | _ :: _, _ :: _, [], h, _, _ => by simp only [SimL] at h
  | u :: ts, a :: as, v :: vs, h, hv, t => by
    simp only [SimL] at h
    simp only [bindA, putA]
    cases hb : Nat.beq t u with
    | true =>
      have := Nat.eq_of_beq_eq_true hb
      subst this
      simp only
      rw [hv 0 t v rfl rfl]; exact h.1
    | false => exact bindA_sim hγ ts as vs h.2 (fun i t v h1 h2 => hv (i + 1) t v (by simpa using h1) (by simpa using h2)) t
theorem keepA_sim {g : Gh} {H : Heap} {N : Nat} {α : Nat → AV} {ρ ρ' : Env} : ∀ (ts : List Tmp), (∀ t ∈ ts, SimV g H N (α t) (ρ t)) → (∀ t ∈ ts, ρ' t = ρ t) → ∀ t, SimV g H N (keepA ts α t) (ρ' t)
  | [], _, _, t => by simp only [keepA, SimV]
  | u :: ts, h, he, t => by
    simp only [keepA, putA]
    cases hb : Nat.beq t u with
    | true =>
      have := Nat.eq_of_beq_eq_true hb
      subst this
      simp only
      rw [he t (by simp)]; exact h t (by simp)
    | false => exact keepA_sim ts (fun t ht => h t (by simp [ht])) (fun t ht => he t (by simp [ht])) t

theorem mkBase_length (idv : Option Nat) (gone : List Nat) : ∀ (σ : List AObj) (i : Nat), (mkBase idv gone i σ).length = σ.length
  | [], _ => rfl
  | o :: os, i => by simp [mkBase, mkBase_length idv gone os]
theorem mkBase_get (idv : Option Nat) (gone : List Nat) : ∀ (σ : List AObj) (i j : Nat) (o : AObj), (mkBase idv gone i σ)[j]? = some o → ∃ o1, σ[j]? = some o1 ∧ ((i + j ∈ gone ∧ o = .gone) ∨ (i + j ∉ gone ∧ idv = some (i + j) ∧ o = o1) ∨ (i + j ∉ gone ∧ idv ≠ some (i + j) ∧ o = flagO true o1))
  | [], _, _, _, h => by simp [mkBase] at h
  | a :: σ, i, 0, o, h => by
    simp only [mkBase, List.getElem?_cons_zero, Option.some.injEq] at h
    refine ⟨a, rfl, ?_⟩
    simp only [Nat.add_zero]
    cases hm : memB i gone with
    | true => rw [hm] at h; exact .inl ⟨memB_iff.1 hm, h.symm⟩
    | false =>
      rw [hm] at h
      have hni : i ∉ gone := fun hc => by rw [memB_iff.2 hc] at hm; cases hm
      cases idv with
      | none => exact .inr (.inr ⟨hni, by simp, h.symm⟩)
      | some k =>
        simp only at h
        cases hb : Nat.beq i k with
        | true => rw [hb] at h; exact .inr (.inl ⟨hni, by rw [Nat.eq_of_beq_eq_true hb], h.symm⟩)
        | false => rw [hb] at h; exact .inr (.inr ⟨hni, (fun e => by cases e; rw [Nat.beq_refl] at hb; cases hb), h.symm⟩)
  | a :: σ, i, j + 1, o, h => by
    simp only [mkBase, List.getElem?_cons_succ] at h
    obtain ⟨o1, h1, h2⟩ := mkBase_get idv gone σ (i + 1) j o h
    refine ⟨o1, by simpa using h1, ?_⟩
    have e : i + 1 + j = i + (j + 1) := by omega
    rw [e] at h2; exact h2
theorem srcIds_mem : ∀ {src : List (Option Nat)} {j id : Nat}, src[j]? = some (some id) → id ∈ srcIds src
  | [], _, _, h => by simp at h
  | some i :: l, 0, id, h => by simp at h; subst h; simp [srcIds]
  | none :: l, 0, id, h => by simp at h
  | some i :: l, j + 1, id, h => by simp [srcIds]; exact .inr (srcIds_mem (j := j) (by simpa using h))
  | none :: l, j + 1, id, h => by simp [srcIds]; exact srcIds_mem (j := j) (by simpa using h)
theorem srcIds_uniq : ∀ {src : List (Option Nat)}, (srcIds src).Nodup → ∀ (j j' id : Nat), src[j]? = some (some id) → src[j']? = some (some id) → j = j'
  | [], _, j, _, _, h, _ => by simp at h
  | none :: l, hn, 0, _, _, h, _ => by simp at h
  | none :: l, hn, _, 0, _, _, h => by simp at h
  | none :: l, hn, j + 1, j' + 1, id, h, h' => by rw [srcIds_uniq (src := l) hn j j' id (by simpa using h) (by simpa using h')]
  | some i :: l, hn, 0, 0, _, _, _ => rfl
  | some i :: l, hn, 0, j' + 1, id, h, h' => by
    simp at h; subst h
    simp only [srcIds, List.nodup_cons] at hn
    exact absurd (srcIds_mem (j := j') (by simpa using h')) hn.1
  | some i :: l, hn, j + 1, 0, id, h, h' => by
    simp at h'; subst h'
    simp only [srcIds, List.nodup_cons] at hn
    exact absurd (srcIds_mem (j := j) (by simpa using h)) hn.1
  | some i :: l, hn, j + 1, j' + 1, id, h, h' => by
    simp only [srcIds, List.nodup_cons] at hn
    rw [srcIds_uniq (src := l) hn.2 j j' id (by simpa using h) (by simpa using h')]
theorem srcIds_of : ∀ {src : List (Option Nat)} {id : Nat}, id ∈ srcIds src → ∃ j : Nat, src[j]? = some (some id)
  | [], _, h => by simp [srcIds] at h
  | some i :: l, id, h => by
    simp only [srcIds, List.mem_cons] at h
    rcases h with rfl | h
    · exact ⟨0, rfl⟩
    · obtain ⟨j, hj⟩ := srcIds_of h; exact ⟨j + 1, by simpa using hj⟩
  | none :: l, id, h => by obtain ⟨j, hj⟩ := srcIds_of (src := l) h; exact ⟨j + 1, by simpa using hj⟩

theorem frzO_obj {σ σ' : List AObj} {a : AV} (h : frzO σ a = some σ') {id : Nat} {T : TypeId} {r : Bool} {cs : List AV} (ho : σ[id]? = some (.obj T r cs)) : σ'[id]? = some (.obj T r cs) := by
  unfold frzO at h
  split at h
  · rename_i k
    split at h
    · rename_i T' ks xs hk
      cases h
      rw [List.getElem?_set]
      by_cases e : k = id
      · subst e; rw [hk] at ho; cases ho
      · rw [if_neg e]; exact ho
    · cases h; exact ho
    · cases h
  · cases h; exact ho
theorem frzY_obj : ∀ (ks : List PK) (as : List AV) (σ σ' : List AObj), frzY σ ks as = some σ' → ∀ {id : Nat} {T : TypeId} {r : Bool} {cs : List AV}, σ[id]? = some (.obj T r cs) → σ'[id]? = some (.obj T r cs)
  | [], [], σ, σ', h, _, _, _, _, ho => by simp only [frzY, Option.some.injEq] at h; subst h; exact ho
  | [], _ :: _, _, _, h, _, _, _, _, _ => by simp only [frzY] at h; cases h
  | k :: ks, [], _, _, h, _, _, _, _, _ => by cases k <;> simp only [frzY] at h <;> cases h
  | .lst _ :: ks, a :: as, σ, σ', h, _, _, _, _, ho => by
    simp only [frzY] at h
    split at h
    · rename_i σ1 hf; exact frzY_obj ks as σ1 σ' h (frzO_obj hf ho)
    · cases h
  | .int _ :: ks, a :: as, σ, σ', h, _, _, _, _, ho => by simp only [frzY] at h; exact frzY_obj ks as σ σ' h ho
  | .bool :: ks, a :: as, σ, σ', h, _, _, _, _, ho => by simp only [frzY] at h; exact frzY_obj ks as σ σ' h ho
  | .str :: ks, a :: as, σ, σ', h, _, _, _, _, ho => by simp only [frzY] at h; exact frzY_obj ks as σ σ' h ho
  | .row _ _ :: ks, a :: as, σ, σ', h, _, _, _, _, ho => by simp only [frzY] at h; exact frzY_obj ks as σ σ' h ho
  | .arr _ _ :: ks, a :: as, σ, σ', h, _, _, _, _, ho => by simp only [frzY] at h; exact frzY_obj ks as σ σ' h ho

theorem isRo_flag (o : AObj) : isRo (flagO true o) = true ∨ flagO true o = .gone := by cases o <;> simp [flagO, isRo]

def keepRowF (src : List Nat) (idv : Option Nat) (i : Nat) (o : AObj) : AObj := match memB i src with
  | true => o
  | false => match idv with
    | some k => match Nat.beq i k with
      | true => o
      | false => flagO true o
    | none => flagO true o
theorem keepRow_like (src : List Nat) (idv : Option Nat) (i : Nat) (o : AObj) : LikeO o (keepRowF src idv i o) := by
  unfold keepRowF
  split
  · exact like_self o
  · split
    · split
      · exact like_self o
      · exact ⟨true, rfl⟩
    · exact ⟨true, rfl⟩
theorem keepRow_ro {src : List Nat} {idv : Option Nat} {i : Nat} {o : AObj} (h : isRo o = true) : keepRowF src idv i o = o := by
  have : flagO true o = o := by cases o <;> simp only [isRo] at h <;> simp [flagO, h]
  unfold keepRowF
  split
  · rfl
  · split
    · split
      · rfl
      · exact this
    · exact this

/-- From any state in the loop's world to the head of a round. -/
theorem head_sim {E : En} {L : PLoop} {α0 : Nat → AV} {ρ0 : Env} {base : List AObj} {idv : Option Nat} {st : St} {ρ : Env} {H : Heap} {g : Gh} {σ1 : List AObj} {cs : List AV} {y : PTup L.kinds} {src : List (Option Nat)}
    (s : Sim E ⟨st.α, σ1⟩ ρ H g) (hle : base.length ≤ σ1.length)
    (hro : ∀ (id : Nat) (o : AObj), base[id]? = some o → o = .gone ∨ (isRo o = true ∧ (σ1[id]? = some o ∨ ∃ o1, σ1[id]? = some o1 ∧ LikeO o1 o ∧ id ∉ srcIds src) ∧ SimO g H base.length id o) ∨ (idv = some id ∧ ∃ T cs0, o = .obj T false cs0 ∧ σ1[id]? = some (.obj T false cs)))
    (hfix : ∀ t ∈ L.fixed, SimV g H base.length (α0 t) (ρ0 t)) (hcs : idv = none → cs = []) (hin : ∀ id, idv = some id → ∃ T c0, base[id]? = some (.obj T false c0) ∧ σ1[id]? = some (.obj T false cs))
    (hread : readY σ1 L.kinds (L.tmps.map st.α ++ cs) = some (y, src)) (hu : uniqB (srcIds src) = true)
    (hf : ∀ (k : PK) (ks' : List Kd) (i id : Nat), L.kinds[i]? = some k → k = .lst ks' → (L.tmps.map st.α ++ cs)[i]? = some (.row id) → ∃ ks xs, σ1[id]? = some (.frz ks xs)) :
    WfY L.kinds y ∧ ∃ g'', g''.Z = g.Z ∧ (∀ i, i < base.length → g''.B i = g.B i ∧ g''.V i = g.V i) ∧
      ∀ ρ'' : Env, (∀ t ∈ L.tmps, ρ'' t = ρ t) → (∀ t ∈ L.fixed, ρ'' t = ρ0 t) → Sim E (L.head α0 base idv y) ρ'' H g'' := by
  -- the concrete values of all that is handed on
  obtain ⟨vcs, hvb, hvs⟩ : ∃ vcs : List Value, (∀ id, idv = some id → ∃ T, σ1[id]? = some (.obj T false cs) ∧ H (g.B id) = some (.cells ⟨vcs⟩ T (0, 0))) ∧ SimL g H σ1.length cs vcs := by
    cases idv with
    | none => rw [hcs rfl]; exact ⟨[], (fun id h => by cases h), by simp only [SimL]⟩
    | some id =>
      obtain ⟨T, c0, _, h2⟩ := hin id rfl
      obtain ⟨vs, hb, hs⟩ := s.obj id _ h2
      exact ⟨vs, fun id' h => by cases h; exact ⟨T, h2, hb⟩, hs⟩
  have htm : SimL g H σ1.length (L.tmps.map st.α) (L.tmps.map ρ) := by
    have : ∀ ts : List Tmp, SimL g H σ1.length (ts.map st.α) (ts.map ρ) := by
      intro ts
      induction ts with
      | nil => simp only [List.map_nil, SimL]
      | cons t ts ih => simp only [List.map_cons, SimL]; exact ⟨s.tmp t, ih⟩
    exact this _
  obtain ⟨hw, hlen, hrow, hsim⟩ := readY_sim s hread (htm.append hvs) hf
  refine ⟨hw, ?_⟩
  let keepRow := keepRowF (srcIds src) idv
  let σk : List AObj := σ1.mapIdx keepRow
  have hkl : σk.length = σ1.length := by simp [σk]
  have hkg : ∀ (i : Nat) (o : AObj), σ1[i]? = some o → σk[i]? = some (keepRow i o) := fun i o h => by simp [σk, List.getElem?_mapIdx, h]
  have hkg' : ∀ (i : Nat) (o : AObj), σk[i]? = some o → ∃ o1, σ1[i]? = some o1 ∧ o = keepRow i o1 := fun i o h => by
    simp only [σk, List.getElem?_mapIdx, Option.map_eq_some_iff] at h
    obtain ⟨o1, h1, h2⟩ := h
    exact ⟨o1, h1, h2.symm⟩
  have hlike : ∀ (i : Nat) (o : AObj), LikeO o (keepRow i o) := fun i o => keepRow_like _ _ i o
  have sk : Sim E ⟨st.α, σk⟩ ρ H g := s.like hkl fun i o h => by
    obtain ⟨o1, h1, rfl⟩ := hkg' i o h
    exact ⟨o1, h1, hlike i o1⟩
  have hsrc : ∀ {id : Nat}, id ∈ srcIds src → ∃ T ks xs, σ1[id]? = some (.row T false ks xs) := fun {id} h => by
    obtain ⟨j, hj⟩ := srcIds_of h
    have hjl : j < (rowsY L.kinds y).length := by
      rw [hlen]
      rcases Nat.lt_or_ge j src.length with h | h
      · exact h
      · rw [List.getElem?_eq_none h] at hj; cases hj
    rcases hrow j _ _ (List.getElem?_eq_getElem hjl) hj with ⟨id', e, h1, _, T, ks, xs, h2⟩ | ⟨e, _⟩
    · cases e; exact ⟨T, ks, xs, by rw [h1, h2]⟩
    · cases e
  obtain ⟨g'', hZ, hBV, hS, hfin⟩ := Sim.rehead (base := base) (rows := rowsY L.kinds y) (src := src) sk (by simp only [hkl]; exact hle) hlen (fun id o ho => by
      rcases hro id o ho with rfl | ⟨h1, h2, h3⟩ | ⟨h1, T, cs0, rfl, h2⟩
      · exact .inl rfl
      · refine .inr (.inl ⟨h1, ?_, h3⟩)
        rcases h2 with h2 | ⟨o1, h2, h4, h5⟩
        · rw [hkg id o h2]
          exact congrArg some (keepRow_ro h1)
        · rw [hkg id o1 h2]
          congr 1
          have hm : memB id (srcIds src) = false := by
            cases hb : memB id (srcIds src) with
            | false => rfl
            | true => exact absurd (memB_iff.1 hb) h5
          obtain ⟨r, rfl⟩ := h4
          have hne : idv ≠ some id := fun hk => by
            obtain ⟨T, c0, h6, h7⟩ := hin id hk
            rw [ho] at h6
            rw [h2] at h7
            cases h7
            simp only [flagO, Option.some.injEq, AObj.obj.injEq] at h6
            obtain ⟨_, rfl, _⟩ := h6
            simp [flagO, isRo] at h1
          show keepRowF (srcIds src) idv id o1 = flagO r o1
          have hfl : flagO true o1 = flagO r o1 := by cases o1 <;> simp only [flagO, isRo] at h1 ⊢ <;> simp [h1]
          unfold keepRowF
          rw [hm]
          cases idv with
          | none => exact hfl
          | some k =>
            simp only
            cases hb : Nat.beq id k with
            | true => exact absurd (by rw [Nat.eq_of_beq_eq_true hb]) hne
            | false => exact hfl
      · refine .inr (.inr ⟨T, cs0, cs, rfl, ?_⟩)
        rw [hkg id _ h2]
        refine congrArg some ?_
        show keepRowF (srcIds src) idv id _ = _
        unfold keepRowF
        rw [h1]
        simp only [Nat.beq_refl]
        split <;> rfl)
    (fun j o i ho hi => by
      rcases hrow j o i ho hi with ⟨id, rfl, h1, h2, h3⟩ | h
      · refine .inl ⟨id, rfl, ?_, h2, h3⟩
        rw [hkg id o h1]
        refine congrArg some ?_
        show keepRowF (srcIds src) idv id o = o
        unfold keepRowF
        rw [memB_iff.2 (srcIds_mem hi)]
      · exact .inr h)
    (srcIds_uniq (uniq_nodup hu))
  have hsl := hsim g'' base.length (base.length + (rowsY L.kinds y).length) hS (by omega) hZ
  refine ⟨g'', hZ, hBV, fun ρ'' h1 h2 => ?_⟩
  have hext : Ext base.length g H g'' H := ⟨fun b hb => ⟨by rw [hZ]; exact hb, rfl⟩, fun i hi => (hBV i hi).1, fun i hi => (hBV i hi).2⟩
  unfold PLoop.head
  refine hfin _ _ _ ?_ (fun id o ho => ?_) (fun t => ?_)
  · unfold setV; split
    · rfl
    · split <;> simp
  · unfold setV at ho
    split at ho
    · rcases hro id o ho with rfl | ⟨h3, h4, h5⟩ | ⟨h3, _⟩
      · exact .inr (.inl rfl)
      · exact .inl ⟨h3, ho⟩
      · cases h3
    · rename_i k
      split at ho
      · rename_i T r c0 hk
        rw [List.getElem?_set] at ho
        by_cases e : k = id
        · subst e
          rw [if_pos rfl, if_pos (get_lt hk)] at ho
          cases ho
          obtain ⟨T', h3, h4⟩ := hvb k rfl
          obtain ⟨T2, c2, h5, h6⟩ := hin k rfl
          rw [hk] at h5
          cases h5
          rw [h6] at h3
          cases h3
          refine .inr (.inr ⟨T, _, c0, rfl, hk, vcs, h4, ?_⟩)
          have := hsl.drop L.tmps.length
          have e : (L.tmps.map ρ ++ vcs).drop L.tmps.length = vcs := by
            rw [List.drop_append, List.drop_of_length_le (by rw [List.length_map]; exact Nat.le_refl _)]
            simp
          rwa [e] at this
        · rw [if_neg e] at ho
          rcases hro id o ho with rfl | ⟨h3, h4, h5⟩ | ⟨h3, _⟩
          · exact .inr (.inl rfl)
          · exact .inl ⟨h3, ho⟩
          · cases h3; exact absurd rfl e
      · rename_i hk
        obtain ⟨T2, c2, h5, h6⟩ := hin k rfl
        exact absurd h5 (hk T2 false c2)
  · refine bindA_sim (γ := keepA L.fixed α0) (fun t => ?_) _ _ (L.tmps.map ρ ++ vcs) hsl (fun i t v hi hv => ?_) t
    · refine keepA_sim (ρ := ρ0) L.fixed (fun t ht => ?_) h2 t
      exact SimV.ext (Nat.le_add_right _ _) hext _ _ (hfix t ht)
    · have hlt : i < L.tmps.length := by
        rcases Nat.lt_or_ge i L.tmps.length with h | h
        · exact h
        · rw [List.getElem?_eq_none h] at hi; cases hi
      rw [List.getElem?_append_left (by simpa using hlt), List.getElem?_map, hi] at hv
      simp only [Option.map_some, Option.some.injEq] at hv
      rw [← hv]
      exact h1 t (List.mem_of_getElem? hi)


/-- What stands behind a piece of code. -/
def Lc (E : En) (st : St) (H : Heap) (g : Gh) (Q : PPost) : Post := fun e ρ' H' => ∃ st' g', Sim E st' ρ' H' g' ∧ Rel st H g st' H' g' ∧ Q e st'

theorem Lc.trans {E : En} {st st1 : St} {H H1 : Heap} {g g1 : Gh} {Q : PPost} (r : Rel st H g st1 H1 g1) {e : Exit} {ρ : Env} {H' : Heap} (h : Lc E st1 H1 g1 Q e ρ H') : Lc E st H g Q e ρ H' := by
  obtain ⟨st', g', h1, h2, h3⟩ := h
  exact ⟨st', g', h1, r.trans h2, h3⟩

theorem ploop_of {plan : PPlan} {key : Nat} {B : St → PPost → Prop} {BW : Env → Heap → Post → Prop} {nx : Exit → Bool} (hB : ∀ {E : En} {st : St} {ρ : Env} {H : Heap} {g : Gh} {Q : PPost}, Sim E st ρ H g → B st Q → BW ρ H (Lc E st H g Q))
    (hm : ∀ {Q Q' : Post}, (∀ e ρ H, Q e ρ H → Q' e ρ H) → ∀ ρ H, BW ρ H Q → BW ρ H Q') {E : En} {st : St} {ρ : Env} {H : Heap} {g : Gh} {Q : PPost} (s : Sim E st ρ H g) (h : PLoopC plan key B nx st Q) : LoopC plan.plan key BW nx ρ H (Lc E st H g Q) := by
    unfold PLoopC at h
    split at h
    · rename_i L hL
      split at h
      · rename_i y0 base idv hfine hin
        simp only [PLoop.fine, Bool.and_eq_true] at hfine
        obtain ⟨hnd, hdisj⟩ := hfine
        have hnd := uniq_nodup hnd
        have hdisj : ∀ f ∈ L.fixed, f ∉ L.tmps := fun f hf hm => by
          have := List.all_eq_true.1 hdisj f hf
          rw [memB_iff.2 hm] at this
          cases this
        -- the entry
        unfold lpIn at hin
        split at hin
        case h_2 => cases hin
        rename_i idv' hidv
        split at hin
        case h_2 => cases hin
        rename_i cs hcs
        split at hin
        case h_2 => cases hin
        rename_i σ1 hfr
        split at hin
        case h_2 => cases hin
        rename_i y src hread
        split at hin
        case h_2 => cases hin
        rename_i huniq
        simp only [Option.some.injEq, Prod.mk.injEq] at hin
        obtain ⟨rfl, rfl, rfl⟩ := hin
        obtain ⟨g1, s1, r1, l1, f1, _⟩ := frzY_sound L.kinds _ st.σ σ1 g s hfr
        have hbl : (mkBase idv' (srcIds src) 0 σ1).length = σ1.length := mkBase_length _ _ _ _
        generalize hbase : mkBase idv' (srcIds src) 0 σ1 = base at h hbl
        have bget : ∀ (j : Nat) (o : AObj), base[j]? = some o → ∃ o1, σ1[j]? = some o1 ∧ ((j ∈ srcIds src ∧ o = .gone) ∨ (j ∉ srcIds src ∧ idv' = some j ∧ o = o1) ∨ (j ∉ srcIds src ∧ idv' ≠ some j ∧ o = flagO true o1)) := fun j o hj => by
          rw [← hbase] at hj
          have := mkBase_get idv' (srcIds src) σ1 0 j o hj
          simpa using this
        have vobj : ∀ id, idv' = some id → ∃ T, st.σ[id]? = some (.obj T false cs) ∧ σ1[id]? = some (.obj T false cs) := fun id hid => by
          subst hid
          simp only [cellsV] at hcs
          split at hcs
          · rename_i T cs' ho
            cases hcs
            exact ⟨T, ho, frzY_obj _ _ _ _ hfr ho⟩
          · cases hcs
        have vcs : idv' = none → cs = [] := fun hid => by subst hid; simp only [cellsV, Option.some.injEq] at hcs; exact hcs.symm
        have srow : ∀ {id : Nat}, id ∈ srcIds src → ∃ T ks xs, σ1[id]? = some (.row T false ks xs) := fun {id} hm => by
          obtain ⟨v2, hv2⟩ : ∃ v, SimL g1 H σ1.length cs v := by
            cases hid : idv' with
            | none => rw [vcs hid]; exact ⟨[], by simp only [SimL]⟩
            | some id =>
              obtain ⟨T, _, ho⟩ := vobj id hid
              obtain ⟨vs, hb, hs⟩ := s1.obj id _ ho
              exact ⟨vs, hs⟩
          obtain ⟨_, hlen, hrow, _⟩ := readY_sim s1 hread (y := y) (vs := L.tmps.map ρ ++ v2) (by
            refine SimL.append ?_ hv2
            have : ∀ ts : List Tmp, SimL g1 H σ1.length (ts.map st.α) (ts.map ρ) := by
              intro ts
              induction ts with
              | nil => simp only [List.map_nil, SimL]
              | cons t ts ih => simp only [List.map_cons, SimL]; exact ⟨s1.tmp t, ih⟩
            exact this _) f1
          obtain ⟨j, hj⟩ := srcIds_of hm
          have hjl : j < (rowsY L.kinds y).length := by
            rw [hlen]
            rcases Nat.lt_or_ge j src.length with h | h
            · exact h
            · rw [List.getElem?_eq_none h] at hj; cases hj
          rcases hrow j _ _ (List.getElem?_eq_getElem hjl) hj with ⟨id', e, h1, _, T, ks, xs, h2⟩ | ⟨e, _⟩
          · cases e; exact ⟨T, ks, xs, by rw [h1, h2]⟩
          · cases e
        have bin : ∀ id, idv' = some id → ∃ T c0, base[id]? = some (.obj T false c0) ∧ σ1[id]? = some (.obj T false cs) := fun id hid => by
          obtain ⟨T, _, ho⟩ := vobj id hid
          have hlt : id < base.length := by rw [hbl]; exact get_lt ho
          obtain ⟨o1, h1, h2⟩ := bget id _ (List.getElem?_eq_getElem hlt)
          rw [ho] at h1
          cases h1
          have hns : id ∉ srcIds src := fun hm => by obtain ⟨T', ks, xs, h3⟩ := srow hm; rw [ho] at h3; cases h3
          rcases h2 with ⟨h3, _⟩ | ⟨_, _, h4⟩ | ⟨_, h3, _⟩
          · exact absurd h3 hns
          · exact ⟨T, cs, by rw [List.getElem?_eq_getElem hlt, h4], ho⟩
          · exact absurd hid h3
        have hfix : ∀ t ∈ L.fixed, SimV g1 H base.length (st.α t) (ρ t) := fun t _ => by rw [hbl]; exact s1.tmp t
        have hro : ∀ (id : Nat) (o : AObj), base[id]? = some o → o = .gone ∨ (isRo o = true ∧ (σ1[id]? = some o ∨ ∃ o1, σ1[id]? = some o1 ∧ LikeO o1 o ∧ id ∉ srcIds src) ∧ SimO g1 H base.length id o) ∨ (idv' = some id ∧ ∃ T cs0, o = .obj T false cs0 ∧ σ1[id]? = some (.obj T false cs)) := fun id o ho => by
          obtain ⟨o1, h1, h2⟩ := bget id o ho
          rcases h2 with ⟨_, rfl⟩ | ⟨_, h4, rfl⟩ | ⟨h3, h4, rfl⟩
          · exact .inl rfl
          · obtain ⟨T, c0, h5, h6⟩ := bin id h4
            rw [ho] at h5
            cases h5
            exact .inr (.inr ⟨h4, T, c0, rfl, h6⟩)
          · rcases isRo_flag o1 with h5 | h5
            · refine .inr (.inl ⟨h5, .inr ⟨o1, h1, ⟨true, rfl⟩, h3⟩, ?_⟩)
              rw [hbl]
              exact (LikeO.sim ⟨true, rfl⟩).2 (s1.obj id o1 h1)
            · exact .inl h5
        obtain ⟨hw0, g2, hZ2, hBV2, hh2⟩ := head_sim (α0 := st.α) (ρ0 := ρ) (L := L) (base := base) (idv := idv') (cs := cs) s1 (by omega) hro hfix vcs bin hread huniq f1
        have ext1 : Ext base.length g1 H g2 H := ⟨fun b hb => ⟨by rw [hZ2]; exact hb, rfl⟩, fun i hi => (hBV2 i hi).1, fun i hi => (hBV2 i hi).2⟩
        -- the rounds
        obtain ⟨I, k0, hI0, hround⟩ := h
        have hplan : loopOf key plan.plan.loops = some (L.tmps, L.tmps.map (fun _ => Kind.any), L.fixed) := by
          have := loopOf_plan key plan.loops
          rw [hL] at this
          exact this
        simp only [LoopC, hplan]
        obtain ⟨x0, hx0, hxe0⟩ := decAny L.tmps (L.tmps.map ρ) (by simp)
        rw [hx0]
        refine ⟨fun k x H' => ∃ y g', I k y ∧ WfY L.kinds y ∧ (∀ ρ'' : Env, L.tmps.map ρ'' = enc (L.tmps.map fun _ => Kind.any) x → (∀ t ∈ L.fixed, ρ'' t = ρ t) → Sim E (L.head st.α base idv' y) ρ'' H' g') ∧ Ext base.length g1 H g' H' ∧
          ∀ (id : Nat) (o : AObj), base[id]? = some o → isRo o = true → Has g1 id o → H' (g1.B id) = H (g1.B id), k0, ?_, ?_⟩
        · refine ⟨y, g2, hI0, hw0, fun ρ'' h1 h2 => ?_, ext1, fun _ _ _ _ _ => rfl⟩
          refine hh2 ρ'' (fun t ht => ?_) h2
          rw [hxe0] at h1
          exact List.map_inj_left.1 h1 t ht
        · rintro k x H1 ⟨y, g', hI, hw, hsim, hext, hrok⟩ gE
          have hr := hround k y hI hw
          have hxl := enc_len L.tmps x
          have hsl : L.tmps.map (bindE L.tmps (enc (L.tmps.map fun _ => Kind.any) x) (keepE L.fixed ρ gE)) = enc (L.tmps.map fun _ => Kind.any) x := bindE_map _ _ _ hnd hxl
          have hfx : ∀ t ∈ L.fixed, bindE L.tmps (enc (L.tmps.map fun _ => Kind.any) x) (keepE L.fixed ρ gE) t = ρ t := fun t ht => by
            rw [bindE_get _ _ _ (by
              cases hb : memB t L.tmps with
              | false => rfl
              | true => exact absurd (memB_iff.1 hb) (hdisj t ht))]
            exact keepE_get _ _ _ (memB_iff.2 ht)
          have sh := hsim _ hsl hfx
          have hhl : base.length ≤ (L.head st.α base idv' y).σ.length := by
            simp only [PLoop.head, List.length_append]
            have : (setV base ((avsY base.length L.kinds y).drop L.tmps.length) idv').length = base.length := by
              unfold setV; split
              · rfl
              · split <;> simp
            omega
          have hhg : ∀ (id : Nat) (o : AObj), base[id]? = some o → isRo o = true → (L.head st.α base idv' y).σ[id]? = some o := fun id o ho hr' => by
            have hlt := get_lt ho
            simp only [PLoop.head]
            have e : (setV base ((avsY base.length L.kinds y).drop L.tmps.length) idv').length = base.length := by
              unfold setV; split
              · rfl
              · split <;> simp
            rw [List.getElem?_append_left (by omega)]
            unfold setV
            split
            · exact ho
            · rename_i kk
              split
              · rename_i T r c0 hk
                rw [List.getElem?_set]
                by_cases e : kk = id
                · subst e
                  obtain ⟨T', c1, h5, _⟩ := bin kk rfl
                  rw [ho] at h5
                  cases h5
                  simp [isRo] at hr'
                · rw [if_neg e]; exact ho
              · exact ho
          refine hm (fun e ρ' H2 hk => ?_) _ _ (hB sh hr)
          obtain ⟨st', g'', s', r', hq⟩ := hk
          -- what the round has left
          have hext2 : Ext base.length g1 H g'' H2 := by
            refine hext.trans (Nat.le_refl _) ?_
            have e2 := r'.ext
            exact ⟨e2.z, fun i hi => e2.b i (by omega), fun i hi => e2.v i (by omega)⟩
          have hrok2 : ∀ (id : Nat) (o : AObj), base[id]? = some o → isRo o = true → Has g1 id o → H2 (g1.B id) = H (g1.B id) := fun id o ho hr' hh => by
            have hlt := get_lt ho
            obtain ⟨_, h5⟩ := r'.ro id o (hhg id o ho hr') hr'
            have h6 := h5 ((Has.ext hext hlt).2 hh)
            rw [hext.b id hlt] at h6
            rw [h6]; exact hrok id o ho hr' hh
          have hsame : ∀ (id : Nat) (o : AObj), base[id]? = some o → isRo o = true → st'.σ[id]? = some o := fun id o ho hr' => (r'.ro id o (hhg id o ho hr') hr').1
          have fin : ∀ (e : Exit), Q e ⟨st'.α, unmark st.σ st'.σ⟩ → Lc E st H g Q e ρ' H2 := fun e hq => by
            refine ⟨_, g'', s'.unmark st.σ, ⟨?_, ?_, fun id o ho hr' => ?_⟩, hq⟩
            · simp only [unmark_length]
              have := r'.len
              omega
            · refine Ext.trans (N' := base.length) (by omega) r1.ext ?_
              exact ⟨hext2.z, hext2.b, hext2.v⟩
            · have h3 := (r1.ro id o ho hr').1
              have h3' : σ1[id]? = some o := h3
              have hlt : id < base.length := by rw [hbl]; exact get_lt h3'
              obtain ⟨o1, h4, h5⟩ := bget id _ (List.getElem?_eq_getElem hlt)
              rw [h3'] at h4
              cases h4
              have hbo : base[id]? = some o := by
                rw [List.getElem?_eq_getElem hlt]
                rcases h5 with ⟨h6, _⟩ | ⟨_, _, h6⟩ | ⟨_, _, h6⟩
                · obtain ⟨T, ks, xs, h7⟩ := srow h6
                  rw [h3'] at h7
                  cases h7
                  simp [isRo] at hr'
                · rw [h6]
                · rw [h6]
                  cases o <;> simp only [isRo] at hr' <;> simp [flagO, hr']
              have h6 := hsame id o hbo hr'
              refine ⟨by rw [unmark_get _ _ _ _ _ ho h6, flag_self], fun hh => ?_⟩
              have hb1 : g1.B id = g.B id := r1.ext.b id (get_lt ho)
              have hh1 : Has g1 id o := (Has.ext r1.ext (get_lt ho)).2 hh
              have := hrok2 id o hbo hr' hh1
              rw [hb1] at this
              exact this
          unfold pnextK at hq
          unfold nextK
          cases hnx : nx e with
          | true =>
            simp only [hnx] at hq ⊢
            obtain ⟨x', hx', hxe'⟩ := decAny L.tmps (L.tmps.map ρ') (by simp)
            rw [hx']
            split at hq
            · rename_i y' hback
              obtain ⟨k', hlt, hI'⟩ := hq
              unfold lpBack at hback
              split at hback
              · rename_i cs' hsT hcs'
                split at hback
                · rename_i σ2 hfr2
                  split at hback
                  · rename_i y2 src2 hread2
                    split at hback
                    · rename_i huniq2
                      simp only [Option.some.injEq] at hback
                      subst hback
                      obtain ⟨g3, s3, r3, l3, f3, _⟩ := frzY_sound L.kinds _ st'.σ σ2 g'' s' hfr2
                      have hext3 : Ext base.length g1 H g3 H2 := by
                        refine hext2.trans (Nat.le_refl _) ?_
                        have e2 := r3.ext
                        have := r'.len
                        exact ⟨e2.z, fun i hi => e2.b i (by simp only; omega), fun i hi => e2.v i (by simp only; omega)⟩
                      have vobj2 : ∀ id, idv' = some id → ∃ T c0, base[id]? = some (.obj T false c0) ∧ σ2[id]? = some (.obj T false cs') := fun id hid => by
                        subst hid
                        simp only [cellsV] at hcs'
                        split at hcs'
                        · rename_i T cs2 ho2
                          cases hcs'
                          obtain ⟨T', c0, h5, _⟩ := bin id rfl
                          simp only [sameT, h5, ho2] at hsT
                          have := Nat.eq_of_beq_eq_true hsT
                          subst this
                          exact ⟨T', c0, h5, frzY_obj _ _ _ _ hfr2 ho2⟩
                        · cases hcs'
                      obtain ⟨hw3, g4, hZ4, hBV4, hh4⟩ := head_sim (α0 := st.α) (ρ0 := ρ) (L := L) (base := base) (idv := idv') (cs := cs') (st := st') s3 (by have := r'.len; omega)
                        (fun id o ho => by
                          obtain ⟨o1, h1, h2⟩ := bget id o ho
                          rcases h2 with ⟨_, rfl⟩ | ⟨_, h4, rfl⟩ | ⟨h3, h4, rfl⟩
                          · exact .inl rfl
                          · obtain ⟨T, c0, h5, h6⟩ := vobj2 id h4
                            rw [ho] at h5
                            cases h5
                            exact .inr (.inr ⟨h4, T, c0, rfl, h6⟩)
                          · rcases isRo_flag o1 with h5 | h5
                            · refine .inr (.inl ⟨h5, .inl ?_, ?_⟩)
                              · have h6 := hsame id _ ho h5
                                have h7 := (r3.ro id _ h6 h5).1
                                exact h7
                              · have hlt2 := get_lt ho
                                refine SimO.ext (N := base.length) (g := g1) (H := H) (Nat.le_refl _) hext3 hlt2 (fun hh => hrok2 id _ ho h5 hh) ?_
                                rw [hbl]
                                exact (LikeO.sim ⟨true, rfl⟩).2 (s1.obj id o1 h1)
                            · exact .inl h5)
                        (fun t ht => SimV.ext (Nat.le_refl _) hext3 _ _ (hfix t ht))
                        (fun hid => by subst hid; simp only [cellsV, Option.some.injEq] at hcs'; exact hcs'.symm) vobj2 hread2 huniq2 f3
                      refine ⟨k', hlt, y2, g4, hI', hw3, fun ρ3 h1 h2 => ?_, ?_, hrok2⟩
                      · refine hh4 ρ3 (fun t ht => ?_) h2
                        rw [hxe'] at h1
                        exact List.map_inj_left.1 h1 t ht
                      · refine hext3.trans (Nat.le_refl _) ⟨fun b hb => ⟨by rw [hZ4]; exact hb, rfl⟩, fun i hi => (hBV4 i hi).1, fun i hi => (hBV4 i hi).2⟩
                    · cases hback
                  · cases hback
                · cases hback
              · cases hback
            · exact hq.elim
          | false =>
            simp only [hnx] at hq ⊢
            exact fin _ hq
      · exact h.elim
    · exact h.elim

theorem pgotoK_else {F : Nat → St → PPost → Prop} {L : Nat → Bool} {n : Nat} {Q : PPost} {e : Exit} {st : St} (h : ∀ l, e ≠ .goto l) : pgotoK F L n Q e st = Q e st := by
  cases n <;> cases e <;> first | rfl | exact absurd rfl (h _)
theorem pgotoK_no {F : Nat → St → PPost → Prop} {L : Nat → Bool} {n l : Nat} {Q : PPost} {st : St} (h : L l = false) : pgotoK F L n Q (.goto l) st = Q (.goto l) st := by
  cases n <;> simp [pgotoK, h]
theorem pgotoK_yes {F : Nat → St → PPost → Prop} {L : Nat → Bool} {n l : Nat} {Q : PPost} {st : St} (h : L l = true) : pgotoK F L (n + 1) Q (.goto l) st = F l st (pgotoK F L n Q) := by
  simp [pgotoK, h]
theorem pgotoK_zero {F : Nat → St → PPost → Prop} {L : Nat → Bool} {l : Nat} {Q : PPost} {st : St} (h : L l = true) : pgotoK F L 0 Q (.goto l) st = False := by
  simp [pgotoK, h]
/-- Jumps on, over plain data. -/
theorem pgoto_of {F : Nat → St → PPost → Prop} {FW : Nat → Env → Heap → Post → Prop} {L : Nat → Bool} (hF : ∀ (l : Nat) {E : En} {st : St} {ρ : Env} {H : Heap} {g : Gh} {Q : PPost}, Sim E st ρ H g → F l st Q → FW l ρ H (Lc E st H g Q))
    (hm : ∀ (l : Nat) {Q Q' : Post}, (∀ e ρ H, Q e ρ H → Q' e ρ H) → ∀ ρ H, FW l ρ H Q → FW l ρ H Q') {E : En} {st0 : St} {H0 : Heap} {g0 : Gh} {Q : PPost} {QW : Post} (hQ : ∀ (e : Exit) {st : St} {ρ : Env} {H : Heap} {g : Gh}, Sim E st ρ H g → Rel st0 H0 g0 st H g → Q e st → QW e ρ H) :
    ∀ (n : Nat) (e : Exit) {st : St} {ρ : Env} {H : Heap} {g : Gh}, Sim E st ρ H g → Rel st0 H0 g0 st H g → pgotoK F L n Q e st → gotoK FW L n QW e ρ H := by
  intro n
  induction n with
  | zero =>
    intro e st ρ H g s r h
    rcases goto_cases e with ⟨l, rfl⟩ | he
    · cases hl : L l with
      | true => rw [pgotoK_zero hl] at h; exact h.elim
      | false => rw [pgotoK_no hl] at h; rw [gotoK_no hl]; exact hQ _ s r h
    · rw [pgotoK_else he] at h; rw [gotoK_else he]; exact hQ _ s r h
  | succ n ih =>
    intro e st ρ H g s r h
    rcases goto_cases e with ⟨l, rfl⟩ | he
    · cases hl : L l with
      | true =>
        rw [pgotoK_yes hl] at h; rw [gotoK_yes hl]
        refine hm l (fun e ρ' H' hk => ?_) _ _ (hF l s h)
        obtain ⟨st', g', s', r', hq⟩ := hk
        exact ih e s' (r.trans r') hq
      | false => rw [pgotoK_no hl] at h; rw [gotoK_no hl]; exact hQ _ s r h
    · rw [pgotoK_else he] at h; rw [gotoK_else he]; exact hQ _ s r h

theorem punroll_of {B : St → PPost → Prop} {BW : Env → Heap → Post → Prop} (hB : ∀ {E : En} {st : St} {ρ : Env} {H : Heap} {g : Gh} {Q : PPost}, Sim E st ρ H g → B st Q → BW ρ H (Lc E st H g Q))
    (hm : ∀ {Q Q' : Post}, (∀ e ρ H, Q e ρ H → Q' e ρ H) → ∀ ρ H, BW ρ H Q → BW ρ H Q') : ∀ (n : Nat) {E : En} {st : St} {ρ : Env} {H : Heap} {g : Gh} {Q : PPost} {st0 : St} {H0 : Heap} {g0 : Gh}, Sim E st ρ H g → Rel st0 H0 g0 st H g → punroll B n st Q → unrollC BW n ρ H (Lc E st0 H0 g0 Q)
  | 0, _, _, _, _, _, _, _, _, _, _, _, h => h.elim
  | n + 1, E, st, ρ, H, g, Q, st0, H0, g0, s, r, h => hm (fun e ρ' H' hk => by
      obtain ⟨st', g', s', r', hq⟩ := hk
      unfold pnextK at hq
      cases hn : isNorm e with
      | true => rw [nextK_yes hn]; simp only [hn] at hq; exact punroll_of hB hm n s' (r.trans r') hq
      | false => rw [nextK_no hn]; simp only [hn] at hq; exact ⟨st', g', s', r.trans r', hq⟩) _ _ (hB s h)

mutual
theorem pcode_of {P : Program} {tab : List (Nat × Ct)} (ht : TabOk P tab) {plan : PPlan} : ∀ (c : Code) {E : En} {st : St} {ρ : Env} {H : Heap} {g : Gh} {Q : PPost}, Sim E st ρ H g → PCode P tab plan c st Q → CodeW P plan.plan c ρ H (Lc E st H g Q)
  | .skip, E, st, ρ, H, g, Q, s, h => by simp only [PCode] at h; simp only [CodeW]; exact ⟨st, g, s, .refl _ _ _, h⟩
  | .label _, E, st, ρ, H, g, Q, s, h => by simp only [PCode] at h; simp only [CodeW]; exact ⟨st, g, s, .refl _ _ _, h⟩
  | .region id ops draw, E, st, ρ, H, g, Q, s, h => by
    simp only [PCode] at h
    refine CodeW.mono _ (fun e ρ' H' hk => ?_) _ _ (PReg_sound ht (loops := plan.plan.loops) (unr := plan.unr) s h)
    obtain ⟨rfl, hk⟩ := hk
    exact hk
  | .seq a b, E, st, ρ, H, g, Q, s, h => by
    simp only [PCode] at h
    simp only [CodeW]
    refine CodeW.mono a (fun e ρ' H' hk => ?_) _ _ (pcode_of ht a s h)
    obtain ⟨st', g', s', r', hq⟩ := hk
    cases e with
    | normal => exact CodeW.mono b (fun e ρ'' H'' hk => hk.trans r') _ _ (pcode_of ht b s' hq)
    | _ => exact ⟨st', g', s', r', hq⟩
  | .cond c x y, E, st, ρ, H, g, Q, s, h => by
    simp only [PCode] at h
    simp only [CodeW]
    have he := evA_sim s c
    split at h
    · rename_i t hc
      rw [hc] at he
      simp only [SimV] at he
      rw [he]
      exact IfB.mono h (fun h => pcode_of ht x s h) (fun h => pcode_of ht y s h)
    · exact h.elim
  | .block id c, E, st, ρ, H, g, Q, s, h => by
    simp only [PCode] at h
    simp only [CodeW]
    refine CodeW.mono c (fun e ρ' H' hk => ?_) _ _ (pcode_of ht c s h)
    obtain ⟨st', g', s', r', hq⟩ := hk
    cases e with
    | exit i =>
      simp only [pblock] at hq
      simp only [blockK]
      split at hq
      · rename_i hb; rw [hb]; exact ⟨st', g', s', r', hq⟩
      · rename_i hb; rw [hb]; exact ⟨st', g', s', r', hq⟩
    | _ => exact ⟨st', g', s', r', hq⟩
  | .exit id, E, st, ρ, H, g, Q, s, h => by simp only [PCode] at h; simp only [CodeW]; exact ⟨st, g, s, .refl _ _ _, h⟩
  | .goto l, E, st, ρ, H, g, Q, s, h => by simp only [PCode] at h; simp only [CodeW]; exact ⟨st, g, s, .refl _ _ _, h⟩
  | .ret, E, st, ρ, H, g, Q, s, h => by simp only [PCode] at h; simp only [CodeW]; exact ⟨st, g, s, .refl _ _ _, h⟩
  | .rangeFunc _ _ _ _, _, _, _, _, _, _, _, h => by simp only [PCode] at h
  | .refuse _, _, _, _, _, _, _, _, h => by simp only [PCode] at h
  | .loop c, E, st, ρ, H, g, Q, s, h => by
    simp only [PCode] at h
    simp only [CodeW]
    cases hu : unrOf (firstRegion c) plan.unr with
    | some n =>
      have hu' : unrOf (firstRegion c) plan.plan.unr = some n := hu
      simp only [hu] at h
      simp only [hu']
      exact punroll_of (fun s h => pcode_of ht c s h) (fun hq => CodeW.mono c hq) n s (.refl _ _ _) h
    | none =>
      have hu' : unrOf (firstRegion c) plan.plan.unr = none := hu
      simp only [hu] at h
      simp only [hu']
      exact ploop_of (fun s h => pcode_of ht c s h) (fun hq => CodeW.mono c hq) s h
  | .scope c, E, st, ρ, H, g, Q, s, h => by
    simp only [PCode] at h
    simp only [CodeW]
    have hF : ∀ (l : Nat) {E : En} {st : St} {ρ : Env} {H : Heap} {g : Gh} {Q : PPost}, Sim E st ρ H g → PFr P tab plan c l st Q → CodeFr P plan.plan c l ρ H (Lc E st H g Q) := fun l {E st ρ H g Q} s h => pfr_of ht c l s h
    have hM := fun (l : Nat) {Q Q' : Post} (hq : ∀ e ρ H, Q e ρ H → Q' e ρ H) => CodeFr.mono (P := P) (plan := plan.plan) c l hq
    cases hll : loopLbl plan.plan c with
    | none =>
      simp only [hll] at h ⊢
      refine CodeW.mono c (fun e ρ' H' hk => ?_) _ _ (pcode_of ht c s h)
      obtain ⟨st', g', s', r', hq⟩ := hk
      exact pgoto_of hF hM (fun e {st2 ρ2 H2 g2} s2 r2 hq => ⟨st2, g2, s2, r2, hq⟩) _ e s' r' hq
    | some l =>
      simp only [hll] at h ⊢
      have hJ : ∀ {st' : St} {ρ' : Env} {H' : Heap} {g' : Gh}, Sim E st' ρ' H' g' → Rel st H g st' H' g' → PLoopC plan (lblKey l) (fun st Q => PFr P tab plan c l st (pgotoK (fun l st Q => PFr P tab plan c l st Q) (others c l) (nLbl c) Q)) (isGoto l) st' Q →
          LoopC plan.plan (lblKey l) (fun ρ H Q => CodeFr P plan.plan c l ρ H (gotoK (fun l ρ H Q => CodeFr P plan.plan c l ρ H Q) (others c l) (nLbl c) Q)) (isGoto l) ρ' H' (Lc E st H g Q) := fun {st' ρ' H' g'} s' r' h => by
        refine LoopC.mono (fun hq => CodeFr.mono c l (gotoK.mono hM _ hq)) (fun e ρ2 H2 hk => hk.trans r') ρ' H' (ploop_of (fun {E st ρ H g Q} s h => ?_) (fun hq => CodeFr.mono c l (gotoK.mono hM _ hq)) s' h)
        refine CodeFr.mono c l (fun e ρ' H' hk => ?_) _ _ (hF l s h)
        obtain ⟨st', g', s', r', hq⟩ := hk
        exact pgoto_of hF hM (fun e {st2 ρ2 H2 g2} s2 r2 hq => ⟨st2, g2, s2, r2, hq⟩) _ e s' r' hq
      refine CodeBe.mono c l (fun e ρ' H' hk => ?_) _ _ (pbe_of ht c l s h)
      obtain ⟨st', g', s', r', hq⟩ := hk
      unfold pnextK at hq
      unfold nextK
      cases hn : isNorm e with
      | true => simp only [hn] at hq ⊢; exact hJ s' r' hq
      | false =>
        simp only [hn] at hq ⊢
        refine pgoto_of hF hM (fun e {st2 ρ2 H2 g2} s2 r2 hq => ?_) _ e s' r' hq
        cases hg : isGoto l e with
        | true => simp only [hg] at hq ⊢; exact hJ s2 r2 hq
        | false => simp only [hg] at hq ⊢; exact ⟨st2, g2, s2, r2, hq⟩
theorem pfr_of {P : Program} {tab : List (Nat × Ct)} (ht : TabOk P tab) {plan : PPlan} : ∀ (c : Code) (l : Nat) {E : En} {st : St} {ρ : Env} {H : Heap} {g : Gh} {Q : PPost}, Sim E st ρ H g → PFr P tab plan c l st Q → CodeFr P plan.plan c l ρ H (Lc E st H g Q)
  | .seq a b, l, E, st, ρ, H, g, Q, s, h => by
    simp only [PFr] at h
    simp only [CodeFr]
    cases hl : hasLbl a l with
    | true =>
      simp only [hl] at h ⊢
      refine CodeFr.mono a l (fun e ρ' H' hk => ?_) _ _ (pfr_of ht a l s h)
      obtain ⟨st', g', s', r', hq⟩ := hk
      cases e with
      | normal => exact CodeW.mono b (fun e ρ'' H'' hk => hk.trans r') _ _ (pcode_of ht b s' hq)
      | _ => exact ⟨st', g', s', r', hq⟩
    | false =>
      simp only [hl] at h ⊢
      exact pfr_of ht b l s h
  | .label l', l, E, st, ρ, H, g, Q, s, h => by
    simp only [PFr] at h
    simp only [CodeFr]
    cases hl : Nat.beq l' l with
    | true => simp only [hl] at h ⊢; exact ⟨st, g, s, .refl _ _ _, h⟩
    | false => simp only [hl] at h
  | .skip, _, _, _, _, _, _, _, _, h => by simp only [PFr] at h
  | .region .., _, _, _, _, _, _, _, _, h => by simp only [PFr] at h
  | .cond .., _, _, _, _, _, _, _, _, h => by simp only [PFr] at h
  | .block .., _, _, _, _, _, _, _, _, h => by simp only [PFr] at h
  | .loop .., _, _, _, _, _, _, _, _, h => by simp only [PFr] at h
  | .rangeFunc .., _, _, _, _, _, _, _, _, h => by simp only [PFr] at h
  | .exit .., _, _, _, _, _, _, _, _, h => by simp only [PFr] at h
  | .scope .., _, _, _, _, _, _, _, _, h => by simp only [PFr] at h
  | .goto .., _, _, _, _, _, _, _, _, h => by simp only [PFr] at h
  | .ret, _, _, _, _, _, _, _, _, h => by simp only [PFr] at h
  | .refuse .., _, _, _, _, _, _, _, _, h => by simp only [PFr] at h
theorem pbe_of {P : Program} {tab : List (Nat × Ct)} (ht : TabOk P tab) {plan : PPlan} : ∀ (c : Code) (l : Nat) {E : En} {st : St} {ρ : Env} {H : Heap} {g : Gh} {Q : PPost}, Sim E st ρ H g → PBe P tab plan c l st Q → CodeBe P plan.plan c l ρ H (Lc E st H g Q)
  | .seq a b, l, E, st, ρ, H, g, Q, s, h => by
    simp only [PBe] at h
    simp only [CodeBe]
    cases hl : hasLbl a l with
    | true => simp only [hl] at h ⊢; exact pbe_of ht a l s h
    | false =>
      simp only [hl] at h ⊢
      refine CodeW.mono a (fun e ρ' H' hk => ?_) _ _ (pcode_of ht a s h)
      obtain ⟨st', g', s', r', hq⟩ := hk
      cases e with
      | normal => exact CodeBe.mono b l (fun e ρ'' H'' hk => hk.trans r') _ _ (pbe_of ht b l s' hq)
      | _ => exact ⟨st', g', s', r', hq⟩
  | .label l', l, E, st, ρ, H, g, Q, s, h => by
    simp only [PBe] at h
    simp only [CodeBe]
    cases hl : Nat.beq l' l with
    | true => simp only [hl] at h ⊢; exact ⟨st, g, s, .refl _ _ _, h⟩
    | false => simp only [hl] at h
  | .skip, _, _, _, _, _, _, _, _, h => by simp only [PBe] at h
  | .region .., _, _, _, _, _, _, _, _, h => by simp only [PBe] at h
  | .cond .., _, _, _, _, _, _, _, _, h => by simp only [PBe] at h
  | .block .., _, _, _, _, _, _, _, _, h => by simp only [PBe] at h
  | .loop .., _, _, _, _, _, _, _, _, h => by simp only [PBe] at h
  | .rangeFunc .., _, _, _, _, _, _, _, _, h => by simp only [PBe] at h
  | .exit .., _, _, _, _, _, _, _, _, h => by simp only [PBe] at h
  | .scope .., _, _, _, _, _, _, _, _, h => by simp only [PBe] at h
  | .goto .., _, _, _, _, _, _, _, _, h => by simp only [PBe] at h
  | .ret, _, _, _, _, _, _, _, _, h => by simp only [PBe] at h
  | .refuse .., _, _, _, _, _, _, _, _, h => by simp only [PBe] at h
end

end Go.Sh
