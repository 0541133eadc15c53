/-
  Code over plain data, and that it stands for code over a heap.
-/
import Derived.Test.YtcnbolonnlmlgaaDoorPw9b
set_option linter.unusedSectionVars false
set_option linter.unusedSimpArgs false
set_option linter.unusedVariables false
namespace Go.Sh
variable [Laid]

/-- Of a loop: what its rounds hand on, what they leave alone, an object whose cells are handed on too. -/
structure PLoop where
  slots : List (Tmp × PK)
  fixed : List Tmp
  vary : List (Tmp × List PK)
structure PPlan where
  regs : List (Nat × List Nat × List Tmp)
  loops : List (Nat × PLoop)
  own : List Tmp := []
  nomark : List (Nat × List Tmp) := []
  unr : List (Nat × Nat) := []
  trees : List (Nat × Tree) := []
def nomarkOf (id : Nat) : List (Nat × List Tmp) → List Tmp
  | [] => []
  | (k, r) :: l => match Nat.beq id k with | true => r | false => nomarkOf id l
def varK : List (Tmp × List PK) → List PK
  | [] => []
  | v :: l => v.2 ++ varK l
def PLoop.tmps (L : PLoop) : List Tmp := L.slots.map (·.1)
def PLoop.kinds (L : PLoop) : List PK := L.slots.map (·.2) ++ varK L.vary
def PPlan.plan (p : PPlan) : Plan := ⟨p.regs, p.loops.map fun l => (l.1, l.2.tmps, l.2.tmps.map (fun _ => Kind.any), l.2.fixed), p.unr, p.trees⟩
def ploopOf (id : Nat) : List (Nat × PLoop) → Option PLoop
  | [] => none
  | (k, r) :: l => match Nat.beq id k with | true => some r | false => ploopOf id l
theorem loopOf_plan (id : Nat) : ∀ l : List (Nat × PLoop), loopOf id (l.map fun l => (l.1, l.2.tmps, l.2.tmps.map (fun _ => Kind.any), l.2.fixed)) = (ploopOf id l).map fun L => (L.tmps, L.tmps.map (fun _ => Kind.any), L.fixed)
  | [] => rfl
  | (k, r) :: l => by
    simp only [List.map_cons, loopOf, ploopOf]
    cases Nat.beq id k with
    | true => rfl
    | false => exact loopOf_plan id l

abbrev PPost := Exit → St → Prop
def pthen (K : St → Prop) (Q : PPost) : PPost := fun e st => match e with
  | .normal => K st
  | e => Q e st
def pblock (id : Nat) (Q : PPost) : PPost := fun e st => match e with
  | .exit i => match Nat.beq i id with | true => Q .normal st | false => Q (.exit i) st
  | e => Q e st
/-- A loop over plain data: what holds at the head of each round, which goes down. -/
def LoopJ (T : Type) (x0 : T) (body : T → (T → Prop) → Prop) : Prop :=
  ∃ (I : Nat → T → Prop) (k : Nat), I k x0 ∧ ∀ k x, I k x → body x fun x' => ∃ k', k' < k ∧ I k' x'

def mkBase (idv : List Nat) (gone : List Nat) : Nat → List AObj → List AObj
  | _, [] => []
  | i, o :: os => (match memB i gone with
    | true => .gone
    | false => match memB i idv with
      | true => o
      | false => flagO true o) :: mkBase idv gone (i + 1) os
def srcIds : List (Option Nat) → List Nat
  | [] => []
  | some i :: l => i :: srcIds l
  | none :: l => srcIds l
/-- The object that is pointed to, or that a box points to. -/
def idV1 (σ : List AObj) : AV → Option Nat
  | .ptr id 0 => match σ[id]? with
    | some (.obj _ _ [.ptr id' 0]) => some id'
    | _ => some id
  | _ => none
def idV (σ : List AObj) (α : Nat → AV) : List (Tmp × List PK) → Option (List Nat)
  | [] => some []
  | (t, _) :: l => match idV1 σ (α t), idV σ α l with
    | some id, some r => some (id :: r)
    | _, _ => none
def cellsV (σ : List AObj) : List (Tmp × List PK) → List Nat → Option (List AV)
  | [], [] => some []
  | (_, ks) :: l, id :: ids => match σ[id]? with
    | some (.obj _ false cs) => match Nat.beq cs.length ks.length, cellsV σ l ids with
      | true, some r => some (cs ++ r)
      | _, _ => none
    | _ => none
  | _, _ => none
def lpIn (L : PLoop) (st : St) : Option (PTup L.kinds × List AObj × List Nat) :=
  match idV st.σ st.α L.vary with
  | some idv => match uniqB idv, cellsV st.σ L.vary idv with
    | true, some cs => match frzY st.σ L.kinds (L.tmps.map st.α ++ cs) with
      | some σ1 => match readY σ1 L.kinds (L.tmps.map st.α ++ cs) with
        | some (y, src) => match uniqB (srcIds src) with
          | true => some (y, mkBase idv (srcIds src) 0 σ1, idv)
          | false => none
        | none => none
      | none => none
    | _, _ => none
  | none => none
def sameT (base σ : List AObj) : List Nat → Bool
  | [] => true
  | id :: ids => match base[id]?, σ[id]? with
    | some (.obj T _ _), some (.obj T' _ _) => Nat.beq T T' && sameT base σ ids
    | _, _ => false
def lpBack (L : PLoop) (base : List AObj) (idv : List Nat) (st : St) : Option (PTup L.kinds) :=
  match sameT base st.σ idv, cellsV st.σ L.vary idv with
  | true, some cs => match frzY st.σ L.kinds (L.tmps.map st.α ++ cs) with
    | some σ1 => match readY σ1 L.kinds (L.tmps.map st.α ++ cs) with
      | some (y, src) => match uniqB (srcIds src) with
        | true => some y
        | false => none
      | none => none
    | none => none
  | _, _ => none
def bindA : List Tmp → List AV → (Nat → AV) → (Nat → AV)
  | t :: ts, a :: as, g => putA (bindA ts as g) (some t) a
  | _, _, g => g
def keepA : List Tmp → (Nat → AV) → (Nat → AV)
  | [], _ => fun _ => .undef
  | t :: ts, α => putA (keepA ts α) (some t) (α t)
def setV : List (Tmp × List PK) → List Nat → List AV → List AObj → List AObj
  | (_, ks) :: l, id :: ids, cs, base => match base[id]? with
    | some (.obj T _ _) => setV l ids (cs.drop ks.length) (base.set id (.obj T false (cs.take ks.length)))
    | _ => base
  | _, _, _, base => base
def PLoop.head (L : PLoop) (α : Nat → AV) (base : List AObj) (idv : List Nat) (y : PTup L.kinds) : St :=
  ⟨bindA L.tmps (avsY base.length L.kinds y) (keepA L.fixed α), setV L.vary idv ((avsY base.length L.kinds y).drop L.tmps.length) base ++ rowsY L.kinds y⟩
def PLoop.fine (L : PLoop) : Bool := uniqB L.tmps && L.fixed.all fun f => !(memB f L.tmps)

def pnextK (n : Exit → Bool) (K : St → Prop) (Q : PPost) : PPost := fun e st => match n e with
  | true => K st
  | false => Q e st
def pgotoK (F : Nat → St → PPost → Prop) (L : Nat → Bool) : Nat → PPost → PPost
  | 0, Q => fun e st => match e with
    | .goto l => (match L l with
      | true => False
      | false => Q (.goto l) st)
    | e => Q e st
  | n + 1, Q => fun e st => match e with
    | .goto l => (match L l with
      | true => F l st (pgotoK F L n Q)
      | false => Q (.goto l) st)
    | e => Q e st
def PLoopC (plan : PPlan) (key : Nat) (B : St → PPost → Prop) (nx : Exit → Bool) (st : St) (Q : PPost) : Prop := match ploopOf key plan.loops with
  | some L => match L.fine, lpIn L st with
    | true, some (y0, base, idv) => LoopJ (PTup L.kinds) y0 fun y next => WfY L.kinds y → B (L.head st.α base idv y)
        (pnextK nx (fun st' => match lpBack L base idv st' with | some y' => next y' | none => False) fun e st' => Q e ⟨st'.α, unmark st.σ st'.σ⟩)
    | _, _ => False
  | none => False

/-- A loop of at most so many rounds, each by itself. -/
def punroll (B : St → PPost → Prop) : Nat → St → PPost → Prop
  | 0, _, _ => False
  | n + 1, st, Q => B st (pnextK isNorm (fun st' => punroll B n st' Q) Q)

/-! ### Loops over functions -/
/-- One round for each datum that comes. -/
def EachJ {T X : Type} (fin : T → Prop) (body : T → X → (T → Prop) → Prop) : List X → T → Prop
  | [], y => fin y
  | x :: r, y => body y x fun y' => EachJ fin body r y'
def bindP : List Tmp → List AV → (Nat → AV) → (Nat → AV)
  | t :: ts, a :: as, α => bindP ts as (putA α (some t) a)
  | _, _, α => α
theorem bindP_sim {E : En} {H : Heap} {g : Gh} {σ : List AObj} : ∀ (ts : List Tmp) (as : List AV) (vs : List Value) {α : Nat → AV} {ρ : Env}, Sim E ⟨α, σ⟩ ρ H g → SimL g H σ.length as vs → Sim E ⟨bindP ts as α, σ⟩ (bindR ts vs ρ) H g
  | [], _, _, α, ρ, s, _ => by simpa only [bindP, bindR] using s
  | _ :: _, [], [], α, ρ, s, _ => by simpa only [bindP, bindR] using s
  | _ :: _, [], _ :: _, _, _, _, h => by simp only [SimL] at h
  | _ :: _, _ :: _, [], _, _, _, h => by simp only [SimL] at h
  | t :: ts, a :: as, v :: vs, α, ρ, s, h => by
    simp only [SimL] at h
    simp only [bindP, bindR]
    exact bindP_sim ts as vs (s.put (some t) h.1) h.2
def pjump (Q : PPost) (mk : St → St) : PPost := fun e st => match e with
  | .ret => Q .ret (mk st)
  | .exit i => Q (.exit i) (mk st)
  | .goto t => Q (.goto t) (mk st)
  | _ => False
def rangeKey (assign : Code) : Nat := 4000000 + firstRegion assign
def noSlots (L : PLoop) : Bool := match L.slots with
  | [] => true
  | _ => false
def argK : Pk → Bool
  | .int _ => true
  | .bool => true
  | .str => true
  | .lst _ => true
  | .agg _ => true
  | _ => false
def PRangeC (plan : PPlan) (key : Nat) (A B : St → PPost → Prop) (ps : List Tmp) (I : It) (xs : List (PkTs I.ps)) (st : St) (Q : PPost) : Prop := match ploopOf key plan.loops with
  | some L => match noSlots L && I.ps.all argK && Nat.beq ps.length I.ps.length, lpIn L st with
    | true, some (y0, base, idv) => EachJ (fun y => WfY L.kinds y → Q .normal ⟨(L.head st.α base idv y).α, unmark st.σ (L.head st.α base idv y).σ⟩)
        (fun y x next => WfY L.kinds y → WfPs I.ps x → A ⟨bindP ps (pksA 0 I.ps x) (L.head st.α base idv y).α, (L.head st.α base idv y).σ⟩ (pthen (fun st1 => B st1
            (pthen (fun st2 => match lpBack L base idv st2 with | some y' => next y' | none => False) (pjump Q fun st2 => ⟨(L.head st.α base idv y).α, unmark st.σ st2.σ⟩)))
          fun _ _ => False)) xs y0
    | _, _ => False
  | none => False

mutual
def PCode (P : Program) (tab : Tab) (plan : PPlan) : Code → St → PPost → Prop
  | .skip, st, Q => Q .normal st
  | .label _, st, Q => Q .normal st
  | .region id ops draw, st, Q => PReg P tab.cts plan.own (nomarkOf id plan.nomark) plan.regs plan.trees id ops draw st fun st' => Q .normal st'
  | .seq a b, st, Q => PCode P tab plan a st (pthen (fun st' => PCode P tab plan b st' Q) Q)
  | .cond c x y, st, Q => match evA st.α c with
    | .bool t => IfB t (PCode P tab plan x st Q) (PCode P tab plan y st Q)
    | _ => False
  | .block id c, st, Q => PCode P tab plan c st (pblock id Q)
  | .loop c, st, Q => match unrOf (firstRegion c) plan.unr with
    | some n => punroll (fun st Q => PCode P tab plan c st Q) n st Q
    | none => PLoopC plan (firstRegion c) (fun st Q => PCode P tab plan c st Q) isNorm st Q
  | .scope c, st, Q => match loopLbl plan.plan c with
    | none => PCode P tab plan c st (pgotoK (fun l st Q => PFr P tab plan c l st Q) (hasLbl c) (scopeN plan.plan c) Q)
    | some l => PBe P tab plan c l st (pnextK isNorm (fun st => PLoopC plan (lblKey l) (fun st Q => PFr P tab plan c l st (pgotoK (fun l st Q => PFr P tab plan c l st Q) (others c l) (nLbl c) Q)) (isGoto l) st Q)
        (pgotoK (fun l st Q => PFr P tab plan c l st Q) (others c l) (nLbl c) (pnextK (isGoto l) (fun st => PLoopC plan (lblKey l) (fun st Q => PFr P tab plan c l st (pgotoK (fun l st Q => PFr P tab plan c l st Q) (others c l) (nLbl c) Q)) (isGoto l) st Q) Q)))
  | .exit id, st, Q => Q (.exit id) st
  | .goto l, st, Q => Q (.goto l) st
  | .ret, st, Q => Q .ret st
  | .rangeFunc gf ps assign body, st, Q => match evA st.α gf with
    | .fn f caps => match itOf f tab.its with
      | some I => match itIn I.kc st caps with
        | some (c, σ1) => I.pre c ∧ PRangeC plan (rangeKey assign) (fun st Q => PCode P tab plan assign st Q) (fun st Q => PCode P tab plan body st Q) ps.toList I (I.xs c) ⟨st.α, σ1⟩ Q
        | none => False
      | none => False
    | _ => False
  | _, _, _ => False
def PFr (P : Program) (tab : Tab) (plan : PPlan) : Code → Nat → St → PPost → Prop
  | .seq a b, l, st, Q => match hasLbl a l with
    | true => PFr P tab plan a l st (pthen (fun st' => PCode P tab plan b st' Q) Q)
    | false => PFr P tab plan b l st Q
  | .label l', l, st, Q => match Nat.beq l' l with
    | true => Q .normal st
    | false => False
  | _, _, _, _ => False
def PBe (P : Program) (tab : Tab) (plan : PPlan) : Code → Nat → St → PPost → Prop
  | .seq a b, l, st, Q => match hasLbl a l with
    | true => PBe P tab plan a l st Q
    | false => PCode P tab plan a st (pthen (fun st' => PBe P tab plan b l st' Q) Q)
  | .label l', l, st, Q => match Nat.beq l' l with
    | true => Q .normal st
    | false => False
  | _, _, _, _ => False
end

theorem decAny : ∀ (ts : List Tmp) (vs : List Value), vs.length = ts.length → ∃ x, dec (ts.map fun _ => Kind.any) vs = some x ∧ enc (ts.map fun _ => Kind.any) x = vs
  | [], [], _ => ⟨(), rfl, rfl⟩
  | [], _ :: _, h => by simp at h
  | _ :: _, [], h => by simp at h
  | t :: ts, v :: vs, h => by
    obtain ⟨x, h1, h2⟩ := decAny ts vs (by simpa using h)
    refine ⟨(v, x), ?_, ?_⟩
    · have e : ∀ (ks : List Kind) (v : Value) (vs : List Value), dec (.any :: ks) (v :: vs) = match dec ks vs with | some x => some (v, x) | none => none := by
        intro ks v vs
        cases v <;> rfl
      exact (e _ v vs).trans (by rw [h1])
    · show v :: enc (ts.map fun _ => Kind.any) x = _
      rw [h2]
theorem enc_len : ∀ (ts : List Tmp) (x : Tup (ts.map fun _ => Kind.any)), (enc (ts.map fun _ => Kind.any) x).length = ts.length
  | [], _ => rfl
  | t :: ts, x => by
    show (x.1 :: enc (ts.map fun _ => Kind.any) x.2).length = _
    rw [List.length_cons, enc_len ts]; rfl
theorem uniq_nodup : ∀ {l : List Nat}, uniqB l = true → l.Nodup
  | [], _ => by simp
  | e :: l, h => by
    simp only [uniqB, Bool.and_eq_true, Bool.not_eq_true'] at h
    refine List.nodup_cons.2 ⟨fun hc => ?_, uniq_nodup h.2⟩
    rw [memB_iff.2 hc] at h
    cases h.1
theorem bindE_map : ∀ (ts : List Tmp) (vs : List Value) (g : Env), ts.Nodup → vs.length = ts.length → ts.map (bindE ts vs g) = vs
  | [], [], _, _, _ => rfl
  | [], _ :: _, _, _, h => by simp at h
  | _ :: _, [], _, _, h => by simp at h
  | t :: ts, v :: vs, g, hn, hl => by
    obtain ⟨h1, h2⟩ := List.nodup_cons.1 hn
    simp only [List.map_cons, bindE, List.cons.injEq]
    refine ⟨by simp [put], ?_⟩
    rw [← bindE_map ts vs g h2 (by simpa using hl)]
    refine List.map_congr_left fun u hu => ?_
    rw [bindE_map ts vs g h2 (by simpa using hl)]
    exact put_get fun e he heq => by cases he; subst heq; exact h1 hu

theorem bindA_sim {g : Gh} {H : Heap} {N : Nat} {γ : Nat → AV} {ρ : Env} (hγ : ∀ t, SimV g H N (γ t) (ρ t)) : ∀ (ts : List Tmp) (as : List AV) (vs : List Value), SimL g H N as vs → (∀ (i : Nat) (t : Tmp) (v : Value), ts[i]? = some t → vs[i]? = some v → ρ t = v) → ∀ t, SimV g H N (bindA ts as γ t) (ρ t)
  | [], _, _, _, _, t => by simpa only [bindA] using hγ t
  | _ :: _, [], _, _, _, t => by simpa only [bindA] using hγ t
  | _ :: _, _ :: _, [], h, _, _ => by simp only [SimL] at h
  | u :: ts, a :: as, v :: vs, h, hv, t => by
    simp only [SimL] at h
    simp only [bindA, putA]
    cases hb : Nat.beq t u with
    | true =>
      have := Nat.eq_of_beq_eq_true hb
      subst this
      simp only
      rw [hv 0 t v rfl rfl]; exact h.1
    | false => exact bindA_sim hγ ts as vs h.2 (fun i t v h1 h2 => hv (i + 1) t v (by simpa using h1) (by simpa using h2)) t
theorem keepA_sim {g : Gh} {H : Heap} {N : Nat} {α : Nat → AV} {ρ ρ' : Env} : ∀ (ts : List Tmp), (∀ t ∈ ts, SimV g H N (α t) (ρ t)) → (∀ t ∈ ts, ρ' t = ρ t) → ∀ t, SimV g H N (keepA ts α t) (ρ' t)
  | [], _, _, t => by simp only [keepA, SimV]
  | u :: ts, h, he, t => by
    simp only [keepA, putA]
    cases hb : Nat.beq t u with
    | true =>
      have := Nat.eq_of_beq_eq_true hb
      subst this
      simp only
      rw [he t (by simp)]; exact h t (by simp)
    | false => exact keepA_sim ts (fun t ht => h t (by simp [ht])) (fun t ht => he t (by simp [ht])) t

theorem mkBase_length (idv : List Nat) (gone : List Nat) : ∀ (σ : List AObj) (i : Nat), (mkBase idv gone i σ).length = σ.length
  | [], _ => rfl
  | o :: os, i => by simp [mkBase, mkBase_length idv gone os]
theorem mkBase_get (idv : List Nat) (gone : List Nat) : ∀ (σ : List AObj) (i j : Nat) (o : AObj), (mkBase idv gone i σ)[j]? = some o → ∃ o1, σ[j]? = some o1 ∧ ((i + j ∈ gone ∧ o = .gone) ∨ (i + j ∉ gone ∧ i + j ∈ idv ∧ o = o1) ∨ (i + j ∉ gone ∧ i + j ∉ idv ∧ o = flagO true o1))
  | [], _, _, _, h => by simp [mkBase] at h
  | a :: σ, i, 0, o, h => by
    simp only [mkBase, List.getElem?_cons_zero, Option.some.injEq] at h
    refine ⟨a, rfl, ?_⟩
    simp only [Nat.add_zero]
    cases hm : memB i gone with
    | true => rw [hm] at h; exact .inl ⟨memB_iff.1 hm, h.symm⟩
    | false =>
      rw [hm] at h
      have hni : i ∉ gone := fun hc => by rw [memB_iff.2 hc] at hm; cases hm
      simp only at h
      cases hb : memB i idv with
      | true => rw [hb] at h; exact .inr (.inl ⟨hni, memB_iff.1 hb, h.symm⟩)
      | false => rw [hb] at h; exact .inr (.inr ⟨hni, (fun hc => by rw [memB_iff.2 hc] at hb; cases hb), h.symm⟩)
  | a :: σ, i, j + 1, o, h => by
    simp only [mkBase, List.getElem?_cons_succ] at h
    obtain ⟨o1, h1, h2⟩ := mkBase_get idv gone σ (i + 1) j o h
    refine ⟨o1, by simpa using h1, ?_⟩
    have e : i + 1 + j = i + (j + 1) := by omega
    rw [e] at h2; exact h2
theorem srcIds_mem : ∀ {src : List (Option Nat)} {j id : Nat}, src[j]? = some (some id) → id ∈ srcIds src
  | [], _, _, h => by simp at h
  | some i :: l, 0, id, h => by simp at h; subst h; simp [srcIds]
  | none :: l, 0, id, h => by simp at h
  | some i :: l, j + 1, id, h => by simp [srcIds]; exact .inr (srcIds_mem (j := j) (by simpa using h))
  | none :: l, j + 1, id, h => by simp [srcIds]; exact srcIds_mem (j := j) (by simpa using h)
theorem srcIds_uniq : ∀ {src : List (Option Nat)}, (srcIds src).Nodup → ∀ (j j' id : Nat), src[j]? = some (some id) → src[j']? = some (some id) → j = j'
  | [], _, j, _, _, h, _ => by simp at h
  | none :: l, hn, 0, _, _, h, _ => by simp at h
  | none :: l, hn, _, 0, _, _, h => by simp at h
  | none :: l, hn, j + 1, j' + 1, id, h, h' => by rw [srcIds_uniq (src := l) hn j j' id (by simpa using h) (by simpa using h')]
  | some i :: l, hn, 0, 0, _, _, _ => rfl
  | some i :: l, hn, 0, j' + 1, id, h, h' => by
    simp at h; subst h
    simp only [srcIds, List.nodup_cons] at hn
    exact absurd (srcIds_mem (j := j') (by simpa using h')) hn.1
  | some i :: l, hn, j + 1, 0, id, h, h' => by
    simp at h'; subst h'
    simp only [srcIds, List.nodup_cons] at hn
    exact absurd (srcIds_mem (j := j) (by simpa using h)) hn.1
  | some i :: l, hn, j + 1, j' + 1, id, h, h' => by
    simp only [srcIds, List.nodup_cons] at hn
    rw [srcIds_uniq (src := l) hn.2 j j' id (by simpa using h) (by simpa using h')]
theorem srcIds_of : ∀ {src : List (Option Nat)} {id : Nat}, id ∈ srcIds src → ∃ j : Nat, src[j]? = some (some id)
  | [], _, h => by simp [srcIds] at h
  | some i :: l, id, h => by
    simp only [srcIds, List.mem_cons] at h
    rcases h with rfl | h
    · exact ⟨0, rfl⟩
    · obtain ⟨j, hj⟩ := srcIds_of h; exact ⟨j + 1, by simpa using hj⟩
  | none :: l, id, h => by obtain ⟨j, hj⟩ := srcIds_of (src := l) h; exact ⟨j + 1, by simpa using hj⟩

theorem frzO_obj {σ σ' : List AObj} {a : AV} (h : frzO σ a = some σ') {id : Nat} {T : TypeId} {r : Bool} {cs : List AV} (ho : σ[id]? = some (.obj T r cs)) : σ'[id]? = some (.obj T r cs) := by
  unfold frzO at h
  split at h
  · rename_i k
    split at h
    · rename_i T' ks xs hk
      cases h
      rw [List.getElem?_set]
      by_cases e : k = id
      · subst e; rw [hk] at ho; cases ho
      · rw [if_neg e]; exact ho
    · cases h; exact ho
    · cases h
  · cases h; exact ho
theorem frzY_obj : ∀ (ks : List PK) (as : List AV) (σ σ' : List AObj), frzY σ ks as = some σ' → ∀ {id : Nat} {T : TypeId} {r : Bool} {cs : List AV}, σ[id]? = some (.obj T r cs) → σ'[id]? = some (.obj T r cs)
  | [], [], σ, σ', h, _, _, _, _, ho => by simp only [frzY, Option.some.injEq] at h; subst h; exact ho
  | [], _ :: _, _, _, h, _, _, _, _, _ => by simp only [frzY] at h; cases h
  | k :: ks, [], _, _, h, _, _, _, _, _ => by cases k <;> simp only [frzY] at h <;> cases h
  | .lst _ :: ks, a :: as, σ, σ', h, _, _, _, _, ho => by
    simp only [frzY] at h
    split at h
    · rename_i σ1 hf; exact frzY_obj ks as σ1 σ' h (frzO_obj hf ho)
    · cases h
  | .int _ :: ks, a :: as, σ, σ', h, _, _, _, _, ho => by simp only [frzY] at h; exact frzY_obj ks as σ σ' h ho
  | .bool :: ks, a :: as, σ, σ', h, _, _, _, _, ho => by simp only [frzY] at h; exact frzY_obj ks as σ σ' h ho
  | .str :: ks, a :: as, σ, σ', h, _, _, _, _, ho => by simp only [frzY] at h; exact frzY_obj ks as σ σ' h ho
  | .row _ _ :: ks, a :: as, σ, σ', h, _, _, _, _, ho => by simp only [frzY] at h; exact frzY_obj ks as σ σ' h ho
  | .arr _ _ :: ks, a :: as, σ, σ', h, _, _, _, _, ho => by simp only [frzY] at h; exact frzY_obj ks as σ σ' h ho

theorem isRo_flag (o : AObj) : isRo (flagO true o) = true ∨ flagO true o = .gone := by cases o <;> simp [flagO, isRo]

def keepRowF (src : List Nat) (idv : List Nat) (i : Nat) (o : AObj) : AObj := match memB i src with
  | true => o
  | false => match memB i idv with
    | true => o
    | false => flagO true o
theorem keepRow_like (src : List Nat) (idv : List Nat) (i : Nat) (o : AObj) : LikeO o (keepRowF src idv i o) := by
  unfold keepRowF
  split
  · exact like_self o
  · split
    · exact like_self o
    · exact ⟨true, rfl⟩
theorem keepRow_ro {src : List Nat} {idv : List Nat} {i : Nat} {o : AObj} (h : isRo o = true) : keepRowF src idv i o = o := by
  have : flagO true o = o := by cases o <;> simp only [isRo] at h <;> simp [flagO, h]
  unfold keepRowF
  split
  · rfl
  · split
    · rfl
    · exact this
theorem memB_no {i : Nat} {l : List Nat} (h : i ∉ l) : memB i l = false := by
  cases hb : memB i l with
  | false => rfl
  | true => exact absurd (memB_iff.1 hb) h

/-- The concrete cells of the objects that vary. -/
def ValsV (g : Gh) (H : Heap) (σ : List AObj) : List (Tmp × List PK) → List Nat → List Value → Prop
  | [], [], vs => vs = []
  | v :: V, id :: ids, ws => ∃ vs r T c, ws = vs ++ r ∧ vs.length = v.2.length ∧ σ[id]? = some (.obj T false c) ∧ H (g.B id) = some (.cells ⟨vs⟩ T (0, 0)) ∧ ValsV g H σ V ids r
  | _, _, _ => False
theorem cellsV_vals {g : Gh} {H : Heap} {N : Nat} {σ : List AObj} (ho : ∀ id o, σ[id]? = some o → SimO g H N id o) : ∀ {V : List (Tmp × List PK)} {ids : List Nat} {cs : List AV}, cellsV σ V ids = some cs → ∃ ws, ValsV g H σ V ids ws ∧ SimL g H N cs ws
  | [], [], cs, h => by simp only [cellsV, Option.some.injEq] at h; subst h; exact ⟨[], rfl, by simp only [SimL]⟩
  | [], _ :: _, _, h => by simp only [cellsV] at h; cases h
  | _ :: _, [], _, h => by simp only [cellsV] at h; cases h
  | (t, ks) :: V, id :: ids, cs, h => by
    simp only [cellsV] at h
    split at h
    · rename_i T c hi
      split at h
      · rename_i r hl hr
        cases h
        obtain ⟨ws, h1, h2⟩ := cellsV_vals ho hr
        obtain ⟨vs, h3, h4⟩ := ho id _ hi
        exact ⟨vs ++ ws, ⟨vs, ws, T, c, rfl, by rw [← h4.len]; exact Nat.eq_of_beq_eq_true hl, hi, h3, h1⟩, h4.append h2⟩
      · cases h
    · cases h
theorem cellsV_obj {σ : List AObj} : ∀ {V : List (Tmp × List PK)} {ids : List Nat} {cs : List AV}, cellsV σ V ids = some cs → ∀ id ∈ ids, ∃ T c, σ[id]? = some (.obj T false c)
  | [], [], _, _, id, hi => by simp at hi
  | [], _ :: _, _, h, _, _ => by simp only [cellsV] at h; cases h
  | _ :: _, [], _, h, _, _ => by simp only [cellsV] at h; cases h
  | (t, ks) :: V, i :: ids, cs, h, id, hi => by
    simp only [cellsV] at h
    split at h
    · rename_i T c h1
      split at h
      · rename_i r hl hr
        rcases List.mem_cons.1 hi with rfl | hi
        · exact ⟨T, c, h1⟩
        · exact cellsV_obj hr id hi
      · cases h
    · cases h
/-- The same objects, later on. -/
theorem cellsV_same {σ σ' : List AObj} (h : ∀ (id : Nat) (T : TypeId) (cs : List AV), σ[id]? = some (.obj T false cs) → σ'[id]? = some (.obj T false cs)) : ∀ {V : List (Tmp × List PK)} {ids : List Nat} {cs : List AV}, cellsV σ V ids = some cs → cellsV σ' V ids = some cs
  | [], [], cs, h => by simpa only [cellsV] using h
  | [], _ :: _, _, h => by simp only [cellsV] at h; cases h
  | _ :: _, [], _, h => by simp only [cellsV] at h; cases h
  | (t, ks) :: V, i :: ids, cs, h' => by
    simp only [cellsV] at h' ⊢
    split at h'
    · rename_i T c h1
      split at h'
      · rename_i r hl hr
        rw [h _ _ _ h1]
        simp only [hl, cellsV_same h hr]
        exact h'
      · cases h'
    · cases h'
theorem setV_length : ∀ (V : List (Tmp × List PK)) (ids : List Nat) (cs : List AV) (base : List AObj), (setV V ids cs base).length = base.length
  | [], _, _, _ => by simp only [setV]
  | _ :: _, [], _, _ => by simp only [setV]
  | (t, ks) :: V, id :: ids, cs, base => by
    simp only [setV]
    split
    · rw [setV_length V ids]; simp
    · rfl
theorem setV_other : ∀ (V : List (Tmp × List PK)) (ids : List Nat) (cs : List AV) (base : List AObj) (id : Nat), id ∉ ids → (setV V ids cs base)[id]? = base[id]?
  | [], _, _, _, _, _ => by simp only [setV]
  | _ :: _, [], _, _, _, _ => by simp only [setV]
  | (t, ks) :: V, i :: ids, cs, base, id, h => by
    simp only [setV]
    split
    · rw [setV_other V ids _ _ id (fun hc => h (List.mem_cons_of_mem _ hc)), List.getElem?_set, if_neg (fun e => h (by rw [e]; exact List.mem_cons_self))]
    · rfl
theorem setV_sim {g g'' : Gh} {H : Heap} {N : Nat} {σ : List AObj} : ∀ (V : List (Tmp × List PK)) (ids : List Nat) (cs : List AV) (base : List AObj) (ws : List Value), ids.Nodup → ValsV g H σ V ids ws → SimL g'' H N cs ws →
    (∀ id ∈ ids, ∃ T c0 c1, base[id]? = some (.obj T false c0) ∧ σ[id]? = some (.obj T false c1)) →
    ∀ id ∈ ids, ∃ T cs1 vs, (setV V ids cs base)[id]? = some (.obj T false cs1) ∧ (∃ c0, base[id]? = some (.obj T false c0)) ∧ H (g.B id) = some (.cells ⟨vs⟩ T (0, 0)) ∧ SimL g'' H N cs1 vs
  | [], [], _, _, _, _, _, _, _, id, hi => by simp at hi
  | [], _ :: _, _, _, _, _, h, _, _, _, _ => by simp only [ValsV] at h
  | _ :: _, [], _, _, _, _, h, _, _, _, _ => by simp only [ValsV] at h
  | (t, ks) :: V, i :: ids, cs, base, ws, hn, hv, hs, hb, id, hi => by
    simp only [ValsV] at hv
    obtain ⟨vs, r, T, c, rfl, hl, h1, h2, h3⟩ := hv
    obtain ⟨T', c0, c1, h4, h5⟩ := hb i List.mem_cons_self
    rw [h1] at h5; cases h5
    obtain ⟨hni, hn⟩ := List.nodup_cons.1 hn
    simp only [setV, h4]
    have hd : SimL g'' H N (cs.drop ks.length) r := by
      have := SimL.drop ks.length hs
      rw [← hl, List.drop_left] at this
      rwa [hl] at this
    have ht : SimL g'' H N (cs.take ks.length) vs := by
      have := SimL.take ks.length hs
      rw [← hl, List.take_left] at this
      rwa [hl] at this
    rcases List.mem_cons.1 hi with rfl | hi
    · rw [setV_other _ _ _ _ _ hni, List.getElem?_set, if_pos rfl, if_pos (get_lt h4)]
      exact ⟨T, _, vs, rfl, ⟨_, h4⟩, h2, ht⟩
    · obtain ⟨T2, cs1, vs2, k1, ⟨c2, k2⟩, k3, k4⟩ := setV_sim V ids (cs.drop ks.length) (base.set i (.obj T false (cs.take ks.length))) r hn h3 hd (fun id' hi' => by
        obtain ⟨T3, c3, c4, q1, q2⟩ := hb id' (List.mem_cons_of_mem _ hi')
        refine ⟨T3, c3, c4, ?_, q2⟩
        rw [List.getElem?_set, if_neg (fun e => hni (by rw [e]; exact hi'))]; exact q1) id hi
      refine ⟨T2, cs1, vs2, k1, ?_, k3, k4⟩
      rw [List.getElem?_set, if_neg (fun e => hni (by rw [e]; exact hi))] at k2
      exact ⟨c2, k2⟩

/-- From any state in the loop's world to the head of a round. -/
theorem head_sim {E : En} {L : PLoop} {α0 : Nat → AV} {ρ0 : Env} {base : List AObj} {idv : List Nat} {st : St} {ρ : Env} {H : Heap} {g : Gh} {σ1 : List AObj} {cs : List AV} {y : PTup L.kinds} {src : List (Option Nat)}
    (s : Sim E ⟨st.α, σ1⟩ ρ H g) (hle : base.length ≤ σ1.length)
    (hro : ∀ (id : Nat) (o : AObj), base[id]? = some o → o = .gone ∨ (isRo o = true ∧ (σ1[id]? = some o ∨ ∃ o1, σ1[id]? = some o1 ∧ LikeO o1 o ∧ id ∉ srcIds src) ∧ SimO g H base.length id o) ∨ (id ∈ idv ∧ ∃ T cs0 c1, o = .obj T false cs0 ∧ σ1[id]? = some (.obj T false c1)))
    (hfix : ∀ t ∈ L.fixed, SimV g H base.length (α0 t) (ρ0 t)) (hcs : cellsV σ1 L.vary idv = some cs) (hun : idv.Nodup) (hin : ∀ id ∈ idv, ∃ T c0 c1, base[id]? = some (.obj T false c0) ∧ σ1[id]? = some (.obj T false c1))
    (hread : readY σ1 L.kinds (L.tmps.map st.α ++ cs) = some (y, src)) (hu : uniqB (srcIds src) = true)
    (hf : ∀ (k : PK) (ks' : List Kd) (i id : Nat), L.kinds[i]? = some k → k = .lst ks' → (L.tmps.map st.α ++ cs)[i]? = some (.row id) → ∃ ks xs, σ1[id]? = some (.frz ks xs)) :
    WfY L.kinds y ∧ ∃ g'', g''.Z = g.Z ∧ (∀ i, i < base.length → g''.B i = g.B i ∧ g''.V i = g.V i) ∧
      ∀ ρ'' : Env, (∀ t ∈ L.tmps, ρ'' t = ρ t) → (∀ t ∈ L.fixed, ρ'' t = ρ0 t) → Sim E (L.head α0 base idv y) ρ'' H g'' := by
  -- the concrete values of all that is handed on
  obtain ⟨vcs, hvb, hvs⟩ := cellsV_vals (g := g) (H := H) (N := σ1.length) (fun id o ho => s.obj id o ho) hcs
  have htm : SimL g H σ1.length (L.tmps.map st.α) (L.tmps.map ρ) := by
    have : ∀ ts : List Tmp, SimL g H σ1.length (ts.map st.α) (ts.map ρ) := by
      intro ts
      induction ts with
      | nil => simp only [List.map_nil, SimL]
      | cons t ts ih => simp only [List.map_cons, SimL]; exact ⟨s.tmp t, ih⟩
    exact this _
  obtain ⟨hw, hlen, hrow, hsim⟩ := readY_sim s hread (htm.append hvs) hf
  refine ⟨hw, ?_⟩
  let keepRow := keepRowF (srcIds src) idv
  let σk : List AObj := σ1.mapIdx keepRow
  have hkl : σk.length = σ1.length := by simp [σk]
  have hkg : ∀ (i : Nat) (o : AObj), σ1[i]? = some o → σk[i]? = some (keepRow i o) := fun i o h => by simp [σk, List.getElem?_mapIdx, h]
  have hkg' : ∀ (i : Nat) (o : AObj), σk[i]? = some o → ∃ o1, σ1[i]? = some o1 ∧ o = keepRow i o1 := fun i o h => by
    simp only [σk, List.getElem?_mapIdx, Option.map_eq_some_iff] at h
    obtain ⟨o1, h1, h2⟩ := h
    exact ⟨o1, h1, h2.symm⟩
  have hlike : ∀ (i : Nat) (o : AObj), LikeO o (keepRow i o) := fun i o => keepRow_like _ _ i o
  have sk : Sim E ⟨st.α, σk⟩ ρ H g := s.like hkl fun i o h => by
    obtain ⟨o1, h1, rfl⟩ := hkg' i o h
    exact ⟨o1, h1, hlike i o1⟩
  have hsrc : ∀ {id : Nat}, id ∈ srcIds src → ∃ T ks xs, σ1[id]? = some (.row T false ks xs) := fun {id} h => by
    obtain ⟨j, hj⟩ := srcIds_of h
    have hjl : j < (rowsY L.kinds y).length := by
      rw [hlen]
      rcases Nat.lt_or_ge j src.length with h | h
      · exact h
      · rw [List.getElem?_eq_none h] at hj; cases hj
    rcases hrow j _ _ (List.getElem?_eq_getElem hjl) hj with ⟨id', e, h1, _, T, ks, xs, h2⟩ | ⟨e, _⟩
    · cases e; exact ⟨T, ks, xs, by rw [h1, h2]⟩
    · cases e
  obtain ⟨g'', hZ, hBV, hS, hfin⟩ := Sim.rehead (base := base) (rows := rowsY L.kinds y) (src := src) sk (by simp only [hkl]; exact hle) hlen (fun id o ho => by
      rcases hro id o ho with rfl | ⟨h1, h2, h3⟩ | ⟨h1, T, cs0, c1, rfl, h2⟩
      · exact .inl rfl
      · refine .inr (.inl ⟨h1, ?_, h3⟩)
        rcases h2 with h2 | ⟨o1, h2, h4, h5⟩
        · rw [hkg id o h2]
          exact congrArg some (keepRow_ro h1)
        · rw [hkg id o1 h2]
          congr 1
          have hm : memB id (srcIds src) = false := memB_no h5
          obtain ⟨r, rfl⟩ := h4
          have hne : id ∉ idv := fun hk => by
            obtain ⟨T, c0, c1, h6, h7⟩ := hin id hk
            rw [ho] at h6
            rw [h2] at h7
            cases h7
            simp only [flagO, Option.some.injEq, AObj.obj.injEq] at h6
            obtain ⟨_, rfl, _⟩ := h6
            simp [flagO, isRo] at h1
          show keepRowF (srcIds src) idv id o1 = flagO r o1
          have hfl : flagO true o1 = flagO r o1 := by cases o1 <;> simp only [flagO, isRo] at h1 ⊢ <;> simp [h1]
          unfold keepRowF
          rw [hm, memB_no hne]
          exact hfl
      · refine .inr (.inr ⟨T, cs0, c1, rfl, ?_⟩)
        rw [hkg id _ h2]
        refine congrArg some ?_
        show keepRowF (srcIds src) idv id _ = _
        unfold keepRowF
        rw [memB_iff.2 h1]
        simp only
        split <;> rfl)
    (fun j o i ho hi => by
      rcases hrow j o i ho hi with ⟨id, rfl, h1, h2, h3⟩ | h
      · refine .inl ⟨id, rfl, ?_, h2, h3⟩
        rw [hkg id o h1]
        refine congrArg some ?_
        show keepRowF (srcIds src) idv id o = o
        unfold keepRowF
        rw [memB_iff.2 (srcIds_mem hi)]
      · exact .inr h)
    (srcIds_uniq (uniq_nodup hu))
  have hsl := hsim g'' base.length (base.length + (rowsY L.kinds y).length) hS (by omega) hZ
  refine ⟨g'', hZ, hBV, fun ρ'' h1 h2 => ?_⟩
  have hext : Ext base.length g H g'' H := ⟨fun b hb => ⟨by rw [hZ]; exact hb, rfl⟩, fun i hi => (hBV i hi).1, fun i hi => (hBV i hi).2⟩
  unfold PLoop.head
  refine hfin _ _ _ (setV_length _ _ _ _) (fun id o ho => ?_) (fun t => ?_)
  · by_cases hid : id ∈ idv
    · have hd := hsl.drop L.tmps.length
      have e : (L.tmps.map ρ ++ vcs).drop L.tmps.length = vcs := by
        rw [List.drop_append, List.drop_of_length_le (by rw [List.length_map]; exact Nat.le_refl _)]
        simp
      rw [e] at hd
      obtain ⟨T, cs1, vs, k1, ⟨c0, k2⟩, k3, k4⟩ := setV_sim L.vary idv _ base vcs hun hvb hd hin id hid
      rw [k1] at ho
      cases ho
      exact .inr (.inr ⟨T, _, c0, rfl, k2, vs, k3, k4⟩)
    · rw [setV_other _ _ _ _ _ hid] at ho
      rcases hro id o ho with rfl | ⟨h3, h4, h5⟩ | ⟨h3, _⟩
      · exact .inr (.inl rfl)
      · exact .inl ⟨h3, ho⟩
      · exact absurd h3 hid
  · refine bindA_sim (γ := keepA L.fixed α0) (fun t => ?_) _ _ (L.tmps.map ρ ++ vcs) hsl (fun i t v hi hv => ?_) t
    · refine keepA_sim (ρ := ρ0) L.fixed (fun t ht => ?_) h2 t
      exact SimV.ext (Nat.le_add_right _ _) hext _ _ (hfix t ht)
    · have hlt : i < L.tmps.length := by
        rcases Nat.lt_or_ge i L.tmps.length with h | h
        · exact h
        · rw [List.getElem?_eq_none h] at hi; cases hi
      rw [List.getElem?_append_left (by simpa using hlt), List.getElem?_map, hi] at hv
      simp only [Option.map_some, Option.some.injEq] at hv
      rw [← hv]
      exact h1 t (List.mem_of_getElem? hi)

/-- What stands behind a piece of code. -/
def Lc (E : En) (st : St) (H : Heap) (g : Gh) (Q : PPost) : Post := fun e ρ' H' => ∃ st' g', Sim E st' ρ' H' g' ∧ Rel st H g st' H' g' ∧ Q e st'

theorem Lc.trans {E : En} {st st1 : St} {H H1 : Heap} {g g1 : Gh} {Q : PPost} (r : Rel st H g st1 H1 g1) {e : Exit} {ρ : Env} {H' : Heap} (h : Lc E st1 H1 g1 Q e ρ H') : Lc E st H g Q e ρ H' := by
  obtain ⟨st', g', h1, h2, h3⟩ := h
  exact ⟨st', g', h1, r.trans h2, h3⟩

/-! ### A loop's entry, its rounds, its end -/
structure LEnt (E : En) (L : PLoop) (st : St) (ρ : Env) (H : Heap) (g g1 : Gh) (σ1 base : List AObj) (idv S : List Nat) : Prop where
  sim : Sim E ⟨st.α, σ1⟩ ρ H g1
  rel : Rel st H g ⟨st.α, σ1⟩ H g1
  len1 : σ1.length = st.σ.length
  len : base.length = σ1.length
  get : ∀ (j : Nat) (o : AObj), base[j]? = some o → ∃ o1, σ1[j]? = some o1 ∧ ((j ∈ S ∧ o = .gone) ∨ (j ∉ S ∧ j ∈ idv ∧ o = o1) ∨ (j ∉ S ∧ j ∉ idv ∧ o = flagO true o1))
  srow : ∀ {id : Nat}, id ∈ S → ∃ T ks xs, σ1[id]? = some (.row T false ks xs)
  bin : ∀ id ∈ idv, ∃ T c0, base[id]? = some (.obj T false c0) ∧ σ1[id]? = some (.obj T false c0)
  un : idv.Nodup
structure LInv (E : En) (L : PLoop) (st : St) (ρ : Env) (H : Heap) (g1 : Gh) (base : List AObj) (idv : List Nat) (y : PTup L.kinds) (ts : List Value) (H' : Heap) (g' : Gh) : Prop where
  wf : WfY L.kinds y
  sim : ∀ ρ'' : Env, L.tmps.map ρ'' = ts → (∀ t ∈ L.fixed, ρ'' t = ρ t) → Sim E (L.head st.α base idv y) ρ'' H' g'
  ext : Ext base.length g1 H g' H'
  rok : ∀ (id : Nat) (o : AObj), base[id]? = some o → isRo o = true → Has g1 id o → H' (g1.B id) = H (g1.B id)

theorem loop_in {E : En} {L : PLoop} {st : St} {ρ : Env} {H : Heap} {g : Gh} (s : Sim E st ρ H g) {y : PTup L.kinds} {base : List AObj} {idv : List Nat} (hin : lpIn L st = some (y, base, idv)) :
    ∃ g1 σ1 S g2, LEnt E L st ρ H g g1 σ1 base idv S ∧ LInv E L st ρ H g1 base idv y (L.tmps.map ρ) H g2 := by
  unfold lpIn at hin
  split at hin
  case h_2 => cases hin
  rename_i idv' hidv
  split at hin
  case h_2 => cases hin
  rename_i cs hun hcs
  split at hin
  case h_2 => cases hin
  rename_i σ1 hfr
  split at hin
  case h_2 => cases hin
  rename_i y src hread
  split at hin
  case h_2 => cases hin
  rename_i huniq
  simp only [Option.some.injEq, Prod.mk.injEq] at hin
  obtain ⟨rfl, rfl, rfl⟩ := hin
  obtain ⟨g1, s1, r1, l1, f1, _⟩ := frzY_sound L.kinds _ st.σ σ1 g s hfr
  have hbl : (mkBase idv' (srcIds src) 0 σ1).length = σ1.length := mkBase_length _ _ _ _
  generalize hbase : mkBase idv' (srcIds src) 0 σ1 = base at hbl
  have bget : ∀ (j : Nat) (o : AObj), base[j]? = some o → ∃ o1, σ1[j]? = some o1 ∧ ((j ∈ srcIds src ∧ o = .gone) ∨ (j ∉ srcIds src ∧ j ∈ idv' ∧ o = o1) ∨ (j ∉ srcIds src ∧ j ∉ idv' ∧ o = flagO true o1)) := fun j o hj => by
    rw [← hbase] at hj
    have := mkBase_get idv' (srcIds src) σ1 0 j o hj
    simpa using this
  have hcs1 : cellsV σ1 L.vary idv' = some cs := cellsV_same (fun id T cs ho => frzY_obj _ _ _ _ hfr ho) hcs
  have vobj := cellsV_obj hcs1
  obtain ⟨v2, _, hv2⟩ := cellsV_vals (g := g1) (H := H) (N := σ1.length) (fun id o ho => s1.obj id o ho) hcs1
  have srow : ∀ {id : Nat}, id ∈ srcIds src → ∃ T ks xs, σ1[id]? = some (.row T false ks xs) := fun {id} hm => by
    obtain ⟨_, hlen, hrow, _⟩ := readY_sim s1 hread (y := y) (vs := L.tmps.map ρ ++ v2) (by
      refine SimL.append ?_ hv2
      have : ∀ ts : List Tmp, SimL g1 H σ1.length (ts.map st.α) (ts.map ρ) := by
        intro ts
        induction ts with
        | nil => simp only [List.map_nil, SimL]
        | cons t ts ih => simp only [List.map_cons, SimL]; exact ⟨s1.tmp t, ih⟩
      exact this _) f1
    obtain ⟨j, hj⟩ := srcIds_of hm
    have hjl : j < (rowsY L.kinds y).length := by
      rw [hlen]
      rcases Nat.lt_or_ge j src.length with h | h
      · exact h
      · rw [List.getElem?_eq_none h] at hj; cases hj
    rcases hrow j _ _ (List.getElem?_eq_getElem hjl) hj with ⟨id', e, h1, _, T, ks, xs, h2⟩ | ⟨e, _⟩
    · cases e; exact ⟨T, ks, xs, by rw [h1, h2]⟩
    · cases e
  have bin : ∀ id ∈ idv', ∃ T c0, base[id]? = some (.obj T false c0) ∧ σ1[id]? = some (.obj T false c0) := fun id hid => by
    obtain ⟨T, c1, ho⟩ := vobj id hid
    have hlt : id < base.length := by rw [hbl]; exact get_lt ho
    obtain ⟨o1, h1, h2⟩ := bget id _ (List.getElem?_eq_getElem hlt)
    rw [ho] at h1
    cases h1
    have hns : id ∉ srcIds src := fun hm => by obtain ⟨T', ks, xs, h3⟩ := srow hm; rw [ho] at h3; cases h3
    rcases h2 with ⟨h3, _⟩ | ⟨_, _, h4⟩ | ⟨_, h3, _⟩
    · exact absurd h3 hns
    · exact ⟨T, c1, by rw [List.getElem?_eq_getElem hlt, h4], ho⟩
    · exact absurd hid h3
  have hfix : ∀ t ∈ L.fixed, SimV g1 H base.length (st.α t) (ρ t) := fun t _ => by rw [hbl]; exact s1.tmp t
  have hro : ∀ (id : Nat) (o : AObj), base[id]? = some o → o = .gone ∨ (isRo o = true ∧ (σ1[id]? = some o ∨ ∃ o1, σ1[id]? = some o1 ∧ LikeO o1 o ∧ id ∉ srcIds src) ∧ SimO g1 H base.length id o) ∨ (id ∈ idv' ∧ ∃ T cs0 c1, o = .obj T false cs0 ∧ σ1[id]? = some (.obj T false c1)) := fun id o ho => by
    obtain ⟨o1, h1, h2⟩ := bget id o ho
    rcases h2 with ⟨_, rfl⟩ | ⟨_, h4, rfl⟩ | ⟨h3, h4, rfl⟩
    · exact .inl rfl
    · obtain ⟨T, c0, h5, h6⟩ := bin id h4
      rw [ho] at h5
      cases h5
      exact .inr (.inr ⟨h4, T, c0, c0, rfl, h6⟩)
    · rcases isRo_flag o1 with h5 | h5
      · refine .inr (.inl ⟨h5, .inr ⟨o1, h1, ⟨true, rfl⟩, h3⟩, ?_⟩)
        rw [hbl]
        exact (LikeO.sim ⟨true, rfl⟩).2 (s1.obj id o1 h1)
      · exact .inl h5
  obtain ⟨hw0, g2, hZ2, hBV2, hh2⟩ := head_sim (α0 := st.α) (ρ0 := ρ) (L := L) (base := base) (idv := idv') (cs := cs) s1 (by omega) hro hfix hcs1 (uniq_nodup hun) (fun id hid => by obtain ⟨T, c0, h1, h2⟩ := bin id hid; exact ⟨T, c0, c0, h1, h2⟩) hread huniq f1
  have ext1 : Ext base.length g1 H g2 H := ⟨fun b hb => ⟨by rw [hZ2]; exact hb, rfl⟩, fun i hi => (hBV2 i hi).1, fun i hi => (hBV2 i hi).2⟩
  refine ⟨g1, σ1, srcIds src, g2, ⟨s1, r1, l1, hbl, bget, srow, bin, uniq_nodup hun⟩, ⟨hw0, fun ρ'' h1 h2 => ?_, ext1, fun _ _ _ _ _ => rfl⟩⟩
  exact hh2 ρ'' (fun t ht => List.map_inj_left.1 h1 t ht) h2

/-- The marked objects stand at the head as they stood. -/
theorem LEnt.head {E : En} {L : PLoop} {st : St} {ρ : Env} {H : Heap} {g g1 : Gh} {σ1 base : List AObj} {idv S : List Nat} (e : LEnt E L st ρ H g g1 σ1 base idv S) (y : PTup L.kinds) :
    base.length ≤ (L.head st.α base idv y).σ.length ∧ ∀ (id : Nat) (o : AObj), base[id]? = some o → isRo o = true → (L.head st.α base idv y).σ[id]? = some o := by
  have hl : (setV L.vary idv ((avsY base.length L.kinds y).drop L.tmps.length) base).length = base.length := setV_length _ _ _ _
  refine ⟨by simp only [PLoop.head, List.length_append]; omega, fun id o ho hr' => ?_⟩
  have hlt := get_lt ho
  simp only [PLoop.head]
  rw [List.getElem?_append_left (by omega), setV_other _ _ _ _ _ (fun hid => ?_)]
  · exact ho
  · obtain ⟨T', c1, h5, _⟩ := e.bin id hid
    rw [ho] at h5
    cases h5
    simp [isRo] at hr'

/-- What a round has left. -/
theorem LEnt.left {E E0 : En} {L : PLoop} {st : St} {ρ : Env} {H : Heap} {g g1 : Gh} {σ1 base : List AObj} {idv S : List Nat} (e : LEnt E0 L st ρ H g g1 σ1 base idv S) {y : PTup L.kinds} {ts : List Value} {H1 H2 : Heap} {g' g'' : Gh} {st' : St}
    (v : LInv E L st ρ H g1 base idv y ts H1 g') {α' : Nat → AV} (r' : Rel ⟨α', (L.head st.α base idv y).σ⟩ H1 g' st' H2 g'') :
    Ext base.length g1 H g'' H2 ∧ (∀ (id : Nat) (o : AObj), base[id]? = some o → isRo o = true → Has g1 id o → H2 (g1.B id) = H (g1.B id)) ∧ (∀ (id : Nat) (o : AObj), base[id]? = some o → isRo o = true → st'.σ[id]? = some o) ∧
      Rel st H g ⟨st'.α, unmark st.σ st'.σ⟩ H2 g'' := by
  obtain ⟨hhl, hhg⟩ := e.head y
  have hext := v.ext
  have hext2 : Ext base.length g1 H g'' H2 := by
    refine hext.trans (Nat.le_refl _) ?_
    have e2 := r'.ext
    exact ⟨e2.z, fun i hi => e2.b i (by simp only; omega), fun i hi => e2.v i (by simp only; omega)⟩
  have hrok2 : ∀ (id : Nat) (o : AObj), base[id]? = some o → isRo o = true → Has g1 id o → H2 (g1.B id) = H (g1.B id) := fun id o ho hr' hh => by
    have hlt := get_lt ho
    obtain ⟨_, h5⟩ := r'.ro id o (hhg id o ho hr') hr'
    have h6 := h5 ((Has.ext hext hlt).2 hh)
    rw [hext.b id hlt] at h6
    rw [h6]; exact v.rok id o ho hr' hh
  have hsame : ∀ (id : Nat) (o : AObj), base[id]? = some o → isRo o = true → st'.σ[id]? = some o := fun id o ho hr' => (r'.ro id o (hhg id o ho hr') hr').1
  refine ⟨hext2, hrok2, hsame, ?_, ?_, fun id o ho hr' => ?_⟩
  · simp only [unmark_length]
    have h1 := r'.len
    have h2 := e.len
    have h3 := e.len1
    simp only at h1
    omega
  · have h2 := e.len
    have h3 := e.len1
    refine Ext.trans (N' := base.length) (by omega) e.rel.ext ?_
    exact ⟨hext2.z, hext2.b, hext2.v⟩
  · have h3 := (e.rel.ro id o ho hr').1
    have h3' : σ1[id]? = some o := h3
    have hlt : id < base.length := by rw [e.len]; exact get_lt h3'
    obtain ⟨o1, h4, h5⟩ := e.get id _ (List.getElem?_eq_getElem hlt)
    rw [h3'] at h4
    cases h4
    have hbo : base[id]? = some o := by
      rw [List.getElem?_eq_getElem hlt]
      rcases h5 with ⟨h6, _⟩ | ⟨_, _, h6⟩ | ⟨_, _, h6⟩
      · obtain ⟨T, ks, xs, h7⟩ := e.srow h6
        rw [h3'] at h7
        cases h7
        simp [isRo] at hr'
      · rw [h6]
      · rw [h6]
        cases o <;> simp only [isRo] at hr' <;> simp [flagO, hr']
    have h6 := hsame id o hbo hr'
    refine ⟨by rw [unmark_get _ _ _ _ _ ho h6, flag_self], fun hh => ?_⟩
    have hb1 : g1.B id = g.B id := e.rel.ext.b id (get_lt ho)
    have hh1 : Has g1 id o := (Has.ext e.rel.ext (get_lt ho)).2 hh
    have := hrok2 id o hbo hr' hh1
    rw [hb1] at this
    exact this

/-- The end of a round, at the head of the next one. -/
theorem LEnt.back {E E' E0 : En} {L : PLoop} {st : St} {ρ : Env} {H : Heap} {g g1 : Gh} {σ1 base : List AObj} {idv S : List Nat} (e : LEnt E0 L st ρ H g g1 σ1 base idv S) {y : PTup L.kinds} {ts : List Value} {H1 H2 : Heap} {g' g'' : Gh} {st' : St} {ρ' : Env}
    (v : LInv E L st ρ H g1 base idv y ts H1 g') {α' : Nat → AV} (r' : Rel ⟨α', (L.head st.α base idv y).σ⟩ H1 g' st' H2 g'') (s' : Sim E' st' ρ' H2 g'') {y' : PTup L.kinds} (hback : lpBack L base idv st' = some y') :
    ∃ g4, LInv E' L st ρ H g1 base idv y' (L.tmps.map ρ') H2 g4 := by
  obtain ⟨hhl, _⟩ := e.head y
  obtain ⟨hext2, hrok2, hsame, _⟩ := e.left v r'
  unfold lpBack at hback
  split at hback
  case h_2 => cases hback
  rename_i cs' hsT hcs'
  split at hback
  case h_2 => cases hback
  rename_i σ2 hfr2
  split at hback
  case h_2 => cases hback
  rename_i y2 src2 hread2
  split at hback
  case h_2 => cases hback
  rename_i huniq2
  simp only [Option.some.injEq] at hback
  subst hback
  obtain ⟨g3, s3, r3, l3, f3, _⟩ := frzY_sound L.kinds _ st'.σ σ2 g'' s' hfr2
  have hl' := r'.len
  simp only at hl'
  have hext3 : Ext base.length g1 H g3 H2 := by
    refine hext2.trans (Nat.le_refl _) ?_
    have e2 := r3.ext
    exact ⟨e2.z, fun i hi => e2.b i (by simp only; omega), fun i hi => e2.v i (by simp only; omega)⟩
  have hcs2 : cellsV σ2 L.vary idv = some cs' := cellsV_same (fun id T cs ho => frzY_obj _ _ _ _ hfr2 ho) hcs'
  have vT : ∀ (ids : List Nat), sameT base st'.σ ids = true → ∀ id ∈ ids, ∃ T c0 c1 r r', base[id]? = some (.obj T r c0) ∧ st'.σ[id]? = some (.obj T r' c1) := by
    intro ids
    induction ids with
    | nil => intro _ id h; simp at h
    | cons i ids ih =>
      intro h id hid
      simp only [sameT] at h
      split at h
      · rename_i T r c T' r' c' h1 h2
        simp only [Bool.and_eq_true] at h
        rcases List.mem_cons.1 hid with rfl | hid
        · have := Nat.eq_of_beq_eq_true h.1
          subst this
          exact ⟨_, _, _, _, _, h1, h2⟩
        · exact ih h.2 id hid
      · cases h
  have vobj2 : ∀ id ∈ idv, ∃ T c0 c1, base[id]? = some (.obj T false c0) ∧ σ2[id]? = some (.obj T false c1) := fun id hid => by
    obtain ⟨T, c0, c1, q, q', h1, h2⟩ := vT idv hsT id hid
    obtain ⟨T', c2, h3, _⟩ := e.bin id hid
    obtain ⟨T2, c3, h4⟩ := cellsV_obj hcs' id hid
    rw [h1] at h3
    cases h3
    rw [h2] at h4
    cases h4
    exact ⟨_, _, _, h1, frzY_obj _ _ _ _ hfr2 h2⟩
  obtain ⟨hw3, g4, hZ4, hBV4, hh4⟩ := head_sim (α0 := st.α) (ρ0 := ρ) (L := L) (base := base) (idv := idv) (cs := cs') (st := st') s3 (by omega)
    (fun id o ho => by
      obtain ⟨o1, h1, h2⟩ := e.get id o ho
      rcases h2 with ⟨_, rfl⟩ | ⟨_, h4, rfl⟩ | ⟨h3, h4, rfl⟩
      · exact .inl rfl
      · obtain ⟨T, c0, c1, h5, h6⟩ := vobj2 id h4
        rw [ho] at h5
        cases h5
        exact .inr (.inr ⟨h4, T, c0, c1, rfl, h6⟩)
      · rcases isRo_flag o1 with h5 | h5
        · refine .inr (.inl ⟨h5, .inl ?_, ?_⟩)
          · have h6 := hsame id _ ho h5
            exact (r3.ro id _ h6 h5).1
          · have hlt2 := get_lt ho
            refine SimO.ext (N := base.length) (g := g1) (H := H) (Nat.le_refl _) hext3 hlt2 (fun hh => hrok2 id _ ho h5 hh) ?_
            rw [e.len]
            exact (LikeO.sim ⟨true, rfl⟩).2 (e.sim.obj id o1 h1)
        · exact .inl h5)
    (fun t ht => SimV.ext (Nat.le_refl _) hext3 _ _ (by rw [e.len]; exact e.sim.tmp t))
    hcs2 e.un vobj2 hread2 huniq2 f3
  have hx4 : Ext base.length g3 H2 g4 H2 := ⟨fun b hb => ⟨by rw [hZ4]; exact hb, rfl⟩, fun i hi => (hBV4 i hi).1, fun i hi => (hBV4 i hi).2⟩
  exact ⟨g4, ⟨hw3, fun ρ3 h1 h2 => hh4 ρ3 (fun t ht => List.map_inj_left.1 h1 t ht) h2, hext3.trans (Nat.le_refl _) hx4, hrok2⟩⟩

theorem ploop_of {plan : PPlan} {key : Nat} {B : St → PPost → Prop} {BW : Env → Heap → Post → Prop} {nx : Exit → Bool} (hB : ∀ {E : En} {st : St} {ρ : Env} {H : Heap} {g : Gh} {Q : PPost}, Sim E st ρ H g → B st Q → BW ρ H (Lc E st H g Q))
    (hm : ∀ {Q Q' : Post}, (∀ e ρ H, Q e ρ H → Q' e ρ H) → ∀ ρ H, BW ρ H Q → BW ρ H Q') {E : En} {st : St} {ρ : Env} {H : Heap} {g : Gh} {Q : PPost} (s : Sim E st ρ H g) (h : PLoopC plan key B nx st Q) : LoopC plan.plan key BW nx ρ H (Lc E st H g Q) := by
    unfold PLoopC at h
    split at h
    case h_2 => exact h.elim
    rename_i L hL
    split at h
    case h_2 => exact h.elim
    rename_i y0 base idv hfine hin
    simp only [PLoop.fine, Bool.and_eq_true] at hfine
    obtain ⟨hnd, hdisj⟩ := hfine
    have hnd := uniq_nodup hnd
    have hdisj : ∀ f ∈ L.fixed, f ∉ L.tmps := fun f hf hm => by
      have := List.all_eq_true.1 hdisj f hf
      rw [memB_iff.2 hm] at this
      cases this
    obtain ⟨g1, σ1, S, g2, en, iv⟩ := loop_in s hin
    obtain ⟨I, k0, hI0, hround⟩ := h
    have hplan : loopOf key plan.plan.loops = some (L.tmps, L.tmps.map (fun _ => Kind.any), L.fixed) := by
      have := loopOf_plan key plan.loops
      rw [hL] at this
      exact this
    simp only [LoopC, hplan]
    obtain ⟨x0, hx0, hxe0⟩ := decAny L.tmps (L.tmps.map ρ) (by simp)
    rw [hx0]
    refine ⟨fun k x H' => ∃ y g', I k y ∧ LInv E L st ρ H g1 base idv y (enc (L.tmps.map fun _ => Kind.any) x) H' g', k0, ?_, ?_⟩
    · exact ⟨y0, g2, hI0, by rw [hxe0]; exact iv⟩
    · rintro k x H1 ⟨y, g', hI, hv⟩ gE
      have hr := hround k y hI hv.wf
      have hxl := enc_len L.tmps x
      have hsl : L.tmps.map (bindE L.tmps (enc (L.tmps.map fun _ => Kind.any) x) (keepE L.fixed ρ gE)) = enc (L.tmps.map fun _ => Kind.any) x := bindE_map _ _ _ hnd hxl
      have hfx : ∀ t ∈ L.fixed, bindE L.tmps (enc (L.tmps.map fun _ => Kind.any) x) (keepE L.fixed ρ gE) t = ρ t := fun t ht => by
        rw [bindE_get _ _ _ (by
          cases hb : memB t L.tmps with
          | false => rfl
          | true => exact absurd (memB_iff.1 hb) (hdisj t ht))]
        exact keepE_get _ _ _ (memB_iff.2 ht)
      have sh := hv.sim _ hsl hfx
      refine hm (fun e ρ' H2 hk => ?_) _ _ (hB sh hr)
      obtain ⟨st', g'', s', r', hq⟩ := hk
      unfold pnextK at hq
      unfold nextK
      cases hnx : nx e with
      | true =>
        simp only [hnx] at hq ⊢
        obtain ⟨x', hx', hxe'⟩ := decAny L.tmps (L.tmps.map ρ') (by simp)
        rw [hx']
        split at hq
        · rename_i y' hback
          obtain ⟨k', hlt, hI'⟩ := hq
          obtain ⟨g4, hv4⟩ := en.back hv r' s' hback
          exact ⟨k', hlt, y', g4, hI', by rw [hxe']; exact hv4⟩
        · exact hq.elim
      | false =>
        simp only [hnx] at hq ⊢
        obtain ⟨_, _, _, r2⟩ := en.left hv r'
        exact ⟨_, g'', s'.unmark st.σ, r2, hq⟩

theorem lvT_wf {g : Gh} {H : Heap} {N : Nat} : ∀ {ks : List Kd} {x : Tp ks} {vs : List Value}, SimL g H N (lvT ks x) vs → WfT ks x
  | [], _, _, _ => by simp only [WfT]
  | k :: ks, x, [], h => by simp only [lvT, SimL] at h
  | k :: ks, x, v :: vs, h => by
    simp only [lvT, SimL] at h
    simp only [WfT]
    refine ⟨?_, lvT_wf h.2⟩
    have h1 := h.1
    generalize hdT ks x = e at h1
    cases k with
    | int k => simp only [lvE, SimV] at h1; simp only [WfE]; exact WfI.of h1.2
    | bool => simp only [WfE]
    | str => simp only [lvE, SimV] at h1; simp only [WfE]; exact h1.2
    | lst ks' => simp only [lvE, SimV] at h1; exact CellOk.wf (.lst ks') e v h1
theorem pksA_wf {g : Gh} {H : Heap} {N : Nat} : ∀ {ps : List Pk} {x : PkTs ps} {M : Nat} {vs : List Value}, ps.all argK = true → SimL g H N (pksA M ps x) vs → WfPs ps x
  | [], _, _, _, _, _ => trivial
  | p :: ps, x, M, [], _, h => by simp only [pksA, SimL] at h
  | p :: ps, x, M, v :: vs, ha, h => by
    simp only [List.all_cons, Bool.and_eq_true] at ha
    simp only [pksA, SimL] at h
    refine ⟨?_, pksA_wf ha.2 h.2⟩
    have h1 := h.1
    have ha1 := ha.1
    obtain ⟨e, r⟩ := x
    cases p <;> simp only [argK] at ha1 <;> first | (cases ha1; done) | skip
    · simp only [pkA, SimV] at h1; exact h1.2
    · trivial
    · simp only [pkA, SimV] at h1; exact h1.2
    · simp only [pkA, SimV] at h1; exact CellOk.wf (.lst _) e v h1
    · simp only [pkA, SimV] at h1
      obtain ⟨ws, _, h2⟩ := h1
      exact lvT_wf h2

theorem rel_same {st : St} {H H' : Heap} {g g' : Gh} (hz : ∀ b, g.Z b → g'.Z b ∧ H' b = H b) (hb : g'.B = g.B) (hv : g'.V = g.V) (ho : ∀ (i : Nat) (o : AObj), st.σ[i]? = some o → Has g i o → H' (g.B i) = H (g.B i)) (α : Nat → AV) : Rel st H g ⟨α, st.σ⟩ H' g' :=
  ⟨Nat.le_refl _, ⟨hz, fun _ _ => by rw [hb], fun _ _ => by rw [hv]⟩, fun i o hi _ => ⟨hi, ho i o hi⟩⟩

theorem Sim.laidNo {E : En} {st : St} {ρ : Env} {H : Heap} {g : Gh} (s : Sim E st ρ H g) : ∀ b, Laid.blocks b = true → ¬ Owned g st.σ b := (s.layE (Z := g.Z)).own
theorem Sim.ownLive {E : En} {st : St} {ρ : Env} {H : Heap} {g : Gh} (s : Sim E st ρ H g) {b : Nat} (h : Owned g st.σ b) : (∃ c T, H b = some (.cells c T (0, 0))) ∧ ¬ g.Z b := by
  obtain ⟨i, o, h1, h2, rfl⟩ := h
  exact ⟨s.live h1 h2, s.nz i o h1 h2⟩
theorem Sim.ownE {E : En} {st : St} {ρ : Env} {H : Heap} {g : Gh} (s : Sim E st ρ H g) {b : Nat} (h : Owned g st.σ b) : E.O0 b ∨ E.H0 b = none := by
  obtain ⟨i, o, h1, h2, rfl⟩ := h
  exact s.own i o h1 h2
theorem owned_unmark {g : Gh} {old σ : List AObj} {b : Nat} (h : Owned g (unmark old σ) b) : Owned g σ b := by
  obtain ⟨i, o, hi, hh, e⟩ := h
  obtain ⟨o1, h1, h2⟩ := unmark_like old σ i o hi
  exact ⟨i, o1, h1, h2.has.1 hh, e⟩
theorem loop_again {r : Loop} (h1 : r.state = .ready) (h2 : r.pending = none) : ({ ({ r with state := .busy } : Loop) with state := .ready, pending := none } : Loop) = r := by
  cases r; simp only at h1 h2; subst h1 h2; rfl

/-- Others turn what is not ours, between two rounds. -/
theorem LInv.other {E E0 : En} {L : PLoop} {st : St} {ρ : Env} {H : Heap} {g g1 : Gh} {σ1 base : List AObj} {idv S : List Nat} (en : LEnt E0 L st ρ H g g1 σ1 base idv S) {y : PTup L.kinds} {ts : List Value} {H1 H2 : Heap} {g' : Gh}
    (v : LInv E L st ρ H g1 base idv y ts H1 g') (hz : ∀ b, g'.Z b → H2 b = H1 b) (ho : ∀ (i : Nat) (o : AObj), (L.head st.α base idv y).σ[i]? = some o → Has g' i o → H2 (g'.B i) = H1 (g'.B i)) (hk : Keep E.O0 E.H0 H2) : LInv E L st ρ H g1 base idv y ts H2 g' := by
  refine ⟨v.wf, fun ρ'' h1 h2 => ((v.sim ρ'' h1 h2).other hz ho hk).1, v.ext.trans (Nat.le_refl _) ⟨fun b hb => ⟨hb, hz b hb⟩, fun _ _ => rfl, fun _ _ => rfl⟩, fun id o h1 h2 h3 => ?_⟩
  rw [← v.rok id o h1 h2 h3]
  have hlt := get_lt h1
  have := ho id o ((en.head y).2 id o h1 h2) ((Has.ext v.ext hlt).2 h3)
  rwa [v.ext.b id hlt] at this

theorem prange_of {P : Program} {plan : PPlan} {key : Nat} {A B : St → PPost → Prop} {AW BW : Env → Heap → Post → Prop}
    (hA : ∀ {E : En} {st : St} {ρ : Env} {H : Heap} {g : Gh} {Q : PPost}, Sim E st ρ H g → A st Q → AW ρ H (Lc E st H g Q)) (hB : ∀ {E : En} {st : St} {ρ : Env} {H : Heap} {g : Gh} {Q : PPost}, Sim E st ρ H g → B st Q → BW ρ H (Lc E st H g Q))
    (mA : ∀ {Q Q' : Post}, (∀ e ρ H, Q e ρ H → Q' e ρ H) → ∀ ρ H, AW ρ H Q → AW ρ H Q') (mB : ∀ {Q Q' : Post}, (∀ e ρ H, Q e ρ H → Q' e ρ H) → ∀ ρ H, BW ρ H Q → BW ρ H Q')
    {f : FuncId} {I : It} (hI : ItOk P f I) {E : En} {st : St} {ρ : Env} {H : Heap} {g : Gh} {Q : PPost} (s : Sim E st ρ H g) {caps : List AV} {vs : List Value} (hc : SimL g H st.σ.length caps vs) {c : PTup I.kc} {σ1 : List AObj}
    (hin : itIn I.kc st caps = some (c, σ1)) (hpre : I.pre c) {ps : Array Tmp} (h : PRangeC plan key A B ps.toList I (I.xs c) ⟨st.α, σ1⟩ Q) {d l : Nat} {rec : Loop} (hd : H d = none) (hl : H l = none) (hne : l ≠ d)
    (hst : rec.state = .ready) (hpe : rec.pending = none) (hps : rec.params = ps) {assign body : Code} (hra : rec.assign = assign) (hrb : rec.body = body)
    (hrnd : ∀ (ws : List Value) (H1 : Heap) (K : Value → Heap → Prop), ws.length = ps.size → RoundC l AW BW (bindR ps.toList ws ρ) H1 K → RndW P l rec.fn (bindT ps.toList ws rec.tmps) assign body H1 K) :
    FnW P f (#[.func (.yield l) #[] #[]] ++ ⟨vs⟩) ((H.upd d (.deferred (some []))).upd l (.loop rec)) fun _ H' => EndC l ρ H' (Lc E st H g Q) := by
  obtain ⟨gc, bs, us, sc, rc, rfl, hbn, hbl, hw, hbv, hus, hbp⟩ := itIn_sound s hc hin
  unfold PRangeC at h
  split at h
  case h_2 => exact h.elim
  rename_i L hL
  split at h
  case h_2 => exact h.elim
  rename_i y0 base idv hck hlp
  simp only [Bool.and_eq_true] at hck
  obtain ⟨⟨hns, hak⟩, hpl⟩ := hck
  have hpl := Nat.eq_of_beq_eq_true hpl
  have hts : L.tmps = [] := by
    unfold noSlots at hns
    split at hns
    · rename_i hs; simp [PLoop.tmps, hs]
    · cases hns
  have hmap : ∀ ρ : Env, L.tmps.map ρ = [] := fun ρ => by rw [hts]; rfl
  obtain ⟨g1, σe, S, g2, en, iv0⟩ := loop_in sc.enter hlp
  rw [hmap] at iv0
  have sI := iv0.sim ρ (hmap ρ) (fun _ _ => rfl)
  have iv : LInv E L ⟨st.α, σ1⟩ ρ H g1 base idv y0 [] H g2 := ⟨iv0.wf, fun ρ'' h1 h2 => sc.unbase (iv0.sim ρ'' h1 h2) (fun b hb => sc.ownE hb) (fun _ _ => rfl), iv0.ext, iv0.rok⟩
  simp only at h
  generalize hfin : (fun y => WfY L.kinds y → Q .normal ⟨(L.head st.α base idv y).α, unmark σ1 (L.head st.α base idv y).σ⟩) = fin at h
  generalize hbody : (fun (y : PTup L.kinds) (x : PkTs I.ps) (next : PTup L.kinds → Prop) => WfY L.kinds y → WfPs I.ps x → A ⟨bindP ps.toList (pksA 0 I.ps x) (L.head st.α base idv y).α, (L.head st.α base idv y).σ⟩ (pthen (fun st1 => B st1
            (pthen (fun st2 => match lpBack L base idv st2 with | some y' => next y' | none => False) (pjump Q fun st2 => ⟨(L.head st.α base idv y).α, unmark σ1 st2.σ⟩)))
          fun _ _ => False)) = bodyf at h
  have hEl : E.H0 l = none := s.keep.free hl
  have hHs : ∀ b, H b ≠ none → ((H.upd d (.deferred (some []))).upd l (.loop rec)) b = H b := fun b hb => by
    rw [upd_ne (fun e => hb (by rw [e]; exact hl)), upd_ne (fun e => hb (by rw [e]; exact hd))]
  have hHl : ((H.upd d (.deferred (some []))).upd l (.loop rec)) l = some (.loop rec) := upd_eq
  generalize hHe : (H.upd d (.deferred (some []))).upd l (.loop rec) = Hs at hHs hHl ⊢
  have hkeep : Keep E.O0 E.H0 Hs := by rw [← hHe]; exact (s.keep.new hd).upd (.inr hEl)
  have hlay : ∀ b, Laid.blocks b = true → b ≠ l := fun b hb e => s.lay.live b hb (by rw [e]; exact hEl)
  have hsim0 : ∀ {y : PTup L.kinds} {Hc : Heap} {g' : Gh}, LInv E L ⟨st.α, σ1⟩ ρ H g1 base idv y [] Hc g' → Sim E (L.head st.α base idv y) ρ Hc g' := fun hv => hv.sim ρ (hmap ρ) (fun _ _ => rfl)
  have hagree : ∀ {st' : St} {Hc H2 : Heap} {g' : Gh}, Sim E st' ρ Hc g' → (∀ b, Hc b ≠ none → g'.Z b ∨ (b = l ∨ Owned g' st'.σ b) ∨ (Hs b ≠ none ∧ b ∉ bs) → H2 b = Hc b) → (∀ b, Hc b ≠ none → H2 b ≠ none) →
      (∀ b, g'.Z b → H2 b = Hc b) ∧ (∀ (i : Nat) (o : AObj), st'.σ[i]? = some o → Has g' i o → H2 (g'.B i) = Hc (g'.B i)) ∧ Keep E.O0 E.H0 H2 := fun {st' Hc H2 g'} s' hag hlv => by
    refine ⟨fun b hb => hag b (s'.zlive b hb) (.inl hb), fun i o hi hh => hag _ (by obtain ⟨c, T, h⟩ := s'.live hi hh; rw [h]; simp) (.inr (.inl (.inr ⟨i, o, hi, hh, rfl⟩))), fun b hb h0 => ?_, fun b h0 => hlv b (s'.keep.live b h0)⟩
    rw [← s'.keep.same b hb h0]
    refine hag b (s'.keep.live b h0) (.inr (.inr ⟨by rw [hHs b (s.keep.live b h0)]; exact s.keep.live b h0, fun hbb => ?_⟩))
    rcases (hbp b hbb).2.2.1 with h | h
    · exact hb h
    · exact h0 h
  let C : Cons P l I.ps Hs bs := {
    J := fun Z W r Hc => ∃ (g' : Gh) (y : PTup L.kinds), Z = g'.Z ∧ W = (fun b => b = l ∨ Owned g' (L.head st.α base idv y).σ b) ∧ EachJ fin bodyf r y ∧ LInv E L ⟨st.α, σ1⟩ ρ H g1 base idv y [] Hc g' ∧ Hc l = some (.loop rec) ∧ ¬ g'.Z l ∧ ¬ Owned g' (L.head st.α base idv y).σ l
    X := fun Z W Hc => ∃ (e : Exit) (code : Code) (st' : St) (g' : Gh), Z = g'.Z ∧ W = (fun b => b = l ∨ Owned g' st'.σ b) ∧ jumpOf e = some (some code) ∧ (∃ r : Loop, Hc l = some (.loop r) ∧ r.state ≠ .busy ∧ r.pending = some code) ∧ Sim E st' ρ Hc g' ∧ Rel ⟨st.α, σ1⟩ H gc st' Hc g' ∧ Q e st' ∧ ¬ g'.Z l ∧ ¬ Owned g' st'.σ l
    stJ := fun {Z W r Hc H2} hJ hag hlv => by
      obtain ⟨g', y, rfl, rfl, hE, hv, hHl1, hzl, hol⟩ := hJ
      obtain ⟨h1, h2, h3⟩ := hagree (hsim0 hv) hag hlv
      exact ⟨g', y, rfl, rfl, hE, hv.other en h1 h2 h3, by rw [hag l (by rw [hHl1]; simp) (.inr (.inl (.inl rfl)))]; exact hHl1, hzl, hol⟩
    stX := fun {Z W Hc H2} hX hag hlv => by
      obtain ⟨e, code, st', g', rfl, rfl, hj, ⟨r, hr1, hr2, hr3⟩, s', r', hq, hzl, hol⟩ := hX
      obtain ⟨h1, h2, h3⟩ := hagree s' hag hlv
      obtain ⟨s2, r2⟩ := s'.other h1 h2 h3
      exact ⟨e, code, st', g', rfl, rfl, hj, ⟨r, by rw [hag l (by rw [hr1]; simp) (.inr (.inl (.inl rfl)))]; exact hr1, hr2, hr3⟩, s2, r'.trans r2, hq, hzl, hol⟩
    ndJ := fun {Z W r Hc} hJ b hb => by
      obtain ⟨g', y, rfl, rfl, hE, hv, hHl1, hzl, hol⟩ := hJ
      have s0 := hsim0 hv
      rcases hb with hb | rfl | hb
      · rcases s0.zc b hb with h | h
        · exact .inl (by have := s.zlive b (s.zsub b h); rw [hHs b this]; exact this)
        · exact .inr h
      · exact .inr fun ds e => by rw [hHl1] at e; cases e
      · obtain ⟨⟨cc, T, h⟩, _⟩ := s0.ownLive hb
        exact .inr fun ds e => by rw [h] at e; cases e
    ndX := fun {Z W Hc} hX b hb => by
      obtain ⟨e, code, st', g', rfl, rfl, hj, ⟨r, hr1, hr2, hr3⟩, s', r', hq, hzl, hol⟩ := hX
      rcases hb with hb | rfl | hb
      · rcases s'.zc b hb with h | h
        · exact .inl (by have := s.zlive b (s.zsub b h); rw [hHs b this]; exact this)
        · exact .inr h
      · exact .inr fun ds e => by rw [hr1] at e; cases e
      · obtain ⟨⟨cc, T, h⟩, _⟩ := s'.ownLive hb
        exact .inr fun ds e => by rw [h] at e; cases e
    round := fun {Z W Zx x r H1 ws} hJ hx hZx => by
      obtain ⟨g', y, rfl, rfl, hE, hv, hHl1, hzl, hol⟩ := hJ
      have s0 := hsim0 hv
      have hax := pksA_wf hak hx
      have hwl : ws.length = ps.size := by
        have := SimL.len hx
        rw [pksA_length] at this
        rw [← this, ← hpl]; simp
      let gx : Gh := ⟨fun b => g'.Z b ∨ Zx b, g'.B, g'.V⟩
      have extx : ∀ N, Ext N g' H1 gx H1 := fun N => ⟨fun b h => ⟨.inl h, rfl⟩, fun _ _ => rfl, fun _ _ => rfl⟩
      have nW : ∀ b, Owned g' (L.head st.α base idv y).σ b → ¬ Zx b := fun b hb hz => by
        rcases hZx b hz with h | ⟨h, _⟩
        · exact (s0.ownLive hb).2 h
        · exact h (.inr hb)
      have sx : Sim E (L.head st.α base idv y) ρ H1 gx := by
        refine ⟨fun t => SimV.ext (Nat.le_refl _) (extx _) _ _ (s0.tmp t), fun i o hi => SimO.ext (Nat.le_refl _) (extx _) (get_lt hi) (fun _ => rfl) (s0.obj i o hi), fun i o hi hh hz => ?_, s0.dis, s0.own, s0.keep, fun b hb => .inl (s0.zsub b hb), fun b hb => ?_, fun b hb => ?_, s0.lay, fun b hb => ?_⟩
        · rcases hz with hz | hz
          · exact s0.nz i o hi hh hz
          · exact nW _ ⟨i, o, hi, hh, rfl⟩ hz
        · rcases hb with hb | hb
          · exact s0.znew b hb
          · rcases hZx b hb with h | ⟨_, _, h⟩
            · exact s0.znew b h
            · rcases h with h | h
              · rcases (hbp b h).2.2.1 with h | h
                · exact .inr (.inr h)
                · exact .inr (.inl h)
              · exact .inr (.inl (hkeep.free h))
        · rcases hb with hb | hb
          · exact s0.zlive b hb
          · rcases hZx b hb with h | ⟨_, ⟨cs, T, q, h⟩, _⟩
            · exact s0.zlive b h
            · rw [h]; simp
        · rcases hb with hb | hb
          · exact s0.zc b hb
          · rcases hZx b hb with h | ⟨_, ⟨cs, T, q, h⟩, _⟩
            · exact s0.zc b h
            · exact .inr fun ds e => by rw [h] at e; cases e
      have simx : SimL gx H1 (L.head st.α base idv y).σ.length (pksA 0 I.ps x) ws := SimL.ext (Nat.zero_le _) ⟨fun b hb => ⟨Or.inr hb, rfl⟩, fun _ h => absurd h (by omega), fun _ h => absurd h (by omega)⟩ _ _ hx
      have sb : Sim E ⟨bindP ps.toList (pksA 0 I.ps x) (L.head st.α base idv y).α, (L.head st.α base idv y).σ⟩ (bindR ps.toList ws ρ) H1 gx := bindP_sim _ _ _ sx simx
      have hzx : ¬ gx.Z l := fun hz => by
        rcases hz with h | h
        · exact hzl h
        · rcases hZx l h with h | ⟨h, _⟩
          · exact hzl h
          · exact h (.inl rfl)
      have hl1 : H1 l ≠ none := by rw [hHl1]; simp
      let W : Nat → Prop := fun b => b = l ∨ Owned g' (L.head st.α base idv y).σ b
      have hWE : ∀ b, W b → E.O0 b ∨ E.H0 b = none := fun b hb => by
        rcases hb with rfl | hb
        · exact .inr hEl
        · exact s0.ownE hb
      have sS : Sim ⟨H1, W, gx.Z⟩ ⟨bindP ps.toList (pksA 0 I.ps x) (L.head st.α base idv y).α, (L.head st.α base idv y).σ⟩ (bindR ps.toList ws ρ) H1 gx := sb.rebase (fun i o hi hh => .inr ⟨i, o, hi, hh, rfl⟩) fun b hb hw => by
        rcases hw with rfl | hw
        · exact hlay _ hb rfl
        · exact s0.laidNo b hb hw
      have sA := sb.enter
      rw [← hbody] at hE
      refine ⟨rec, hHl1, hst, by rw [hps]; exact hwl, ?_⟩
      rw [hps, hra, hrb]
      refine hrnd ws H1 _ hwl ?_
      unfold RoundC
      have hE1 := hE hv.wf hax
      refine mA (fun e ρ1 Ha hk => ?_) _ _ (hA sA hE1)
      obtain ⟨st1, ga, sa, ra, hq⟩ := hk
      cases e <;> simp only [pthen] at hq <;> first | exact hq.elim | skip
      simp only
      have hla : Ha l = H1 l := sa.keep.same l hol hl1
      have sa2 : Sim ⟨H1, W, gx.Z⟩ st1 ρ1 Ha ga := sS.unbase sa (fun b hb => .inl (.inr hb)) (fun b hb => (ra.ext.z b hb).2)
      refine ⟨rec, by rw [hla]; exact hHl1, hst, ?_⟩
      have hlz : ¬ ga.Z l := fun hz => by
        rcases sa.znew l hz with h | h | h
        · exact hzx h
        · exact hl1 h
        · exact hol h
      have hlo : ¬ Owned ga st1.σ l := fun ho => by
        rcases sa.ownE ho with h | h
        · exact hol h
        · exact hl1 h
      have hb : ∀ b, b ≠ l → (Ha.upd l (.loop { rec with state := .busy })) b = Ha b := fun b hb => upd_ne hb
      obtain ⟨sb2, rb2⟩ := sa2.other (H' := Ha.upd l (.loop { rec with state := .busy })) (fun b hz => hb b (by rintro rfl; exact hlz hz)) (fun i o hi hh => hb _ (fun e => hlo ⟨i, o, hi, hh, e.symm⟩)) (sa2.keep.upd (.inl (.inl rfl)))
      have hbl : (Ha.upd l (.loop { rec with state := .busy })) l = some (.loop { rec with state := .busy }) := upd_eq
      generalize Ha.upd l (.loop { rec with state := .busy }) = Hb at hb sb2 rb2 hbl ⊢
      have sB := sb2.enter
      refine mB (fun e ρ2 Hc hk => ?_) _ _ (hB sB hq)
      obtain ⟨st2, gb, sbb, rb, hq2⟩ := hk
      have hlb : Hb l ≠ none := by rw [hbl]; simp
      have hlc : Hc l = some (.loop { rec with state := .busy }) := by rw [sbb.keep.same l hlo hlb]; exact hbl
      have hlz2 : ¬ gb.Z l := fun hz => by
        rcases sbb.znew l hz with h | h | h
        · exact hlz h
        · exact hlb h
        · exact hlo h
      have hlo2 : ¬ Owned gb st2.σ l := fun ho => by
        rcases sbb.ownE ho with h | h
        · exact hlo h
        · exact hlb h
      have sc2 : Sim ⟨H1, W, gx.Z⟩ st2 ρ2 Hc gb := sb2.unbase sbb (fun b hb => sb2.ownE hb) (fun b hb => (rb.ext.z b hb).2)
      have hd' : ∀ o : Obj, Sim ⟨H1, W, gx.Z⟩ st2 ρ2 (Hc.upd l o) gb ∧ Rel st2 Hc gb st2 (Hc.upd l o) gb := fun o =>
        sc2.other (fun b hz => upd_ne (by rintro rfl; exact hlz2 hz)) (fun i o hi hh => upd_ne (fun e => hlo2 ⟨i, o, hi, hh, e.symm⟩)) (sc2.keep.upd (.inl (.inl rfl)))
      have rx : Rel ⟨bindP ps.toList (pksA 0 I.ps x) (L.head st.α base idv y).α, (L.head st.α base idv y).σ⟩ H1 gx st2 Hc gb := (ra.trans rb2).trans rb
      have r0 : Rel ⟨st.α, (L.head st.α base idv y).σ⟩ H1 g' ⟨bindP ps.toList (pksA 0 I.ps x) (L.head st.α base idv y).α, (L.head st.α base idv y).σ⟩ H1 gx := ⟨Nat.le_refl _, extx _, fun i o hi _ => ⟨hi, fun _ => rfl⟩⟩
      unfold RoundE
      refine ⟨_, hlc, ?_⟩
      have exits : ∀ (e : Exit) (code : Code), jumpOf e = some (some code) → Q e ⟨(L.head st.α base idv y).α, unmark σ1 st2.σ⟩ → ∀ (rr : Loop), rr.state ≠ .busy → rr.pending = some code → ∀ Hd, Hd = Hc.upd l (.loop rr) →
          (∀ b, H1 b ≠ none → ¬ W b → Hd b = H1 b) ∧ (∀ b, H1 b ≠ none → Hd b ≠ none) ∧ ∃ Z' W' : Nat → Prop, (∀ b, g'.Z b ∨ Zx b → Z' b ∧ Hd b = H1 b) ∧ (∀ b, W' b → W b ∨ H1 b = none) ∧
            (∀ b, Z' b → g'.Z b ∨ Zx b ∨ W b ∨ H1 b = none) ∧ (∀ b, Z' b ∨ W' b → Hd b ≠ none) ∧ (∀ b, W' b → ¬ Z' b) ∧
            ∃ (e : Exit) (code : Code) (st' : St) (g' : Gh), Z' = g'.Z ∧ W' = (fun b => b = l ∨ Owned g' st'.σ b) ∧ jumpOf e = some (some code) ∧ (∃ r : Loop, Hd l = some (.loop r) ∧ r.state ≠ .busy ∧ r.pending = some code) ∧ Sim E st' ρ Hd g' ∧ Rel ⟨st.α, σ1⟩ H gc st' Hd g' ∧ Q e st' ∧ ¬ g'.Z l ∧ ¬ Owned g' st'.σ l := by
        intro e code hj hq rr hr1 hr2 Hd hHd
        obtain ⟨sd, rd⟩ := hd' (.loop rr)
        rw [← hHd] at sd rd
        have hdl : Hd l = some (.loop rr) := by rw [hHd]; exact upd_eq
        have rr2 := rx.trans rd
        have zz : ∀ b, gx.Z b → Hd b = H1 b := fun b hb => (rr2.ext.z b hb).2
        obtain ⟨_, _, _, rl⟩ := en.left hv (r0.trans rr2)
        have sE : Sim E st2 ρ2 Hd gb := sx.unbase sd hWE zz
        have sU := sE.unmark σ1
        refine ⟨fun b hb hw => sd.keep.same b hw hb, fun b hb => sd.keep.live b hb, gb.Z, fun b => b = l ∨ Owned gb (unmark σ1 st2.σ) b, fun b hb => ⟨sd.zsub b hb, zz b hb⟩, fun b hb => ?_, fun b hb => ?_, fun b hb => ?_, fun b hb => ?_,
          e, code, ⟨(L.head st.α base idv y).α, unmark σ1 st2.σ⟩, gb, rfl, rfl, hj, ⟨rr, hdl, hr1, hr2⟩, { sU with tmp := fun t => ?_ }, ⟨rl.len, rl.ext, rl.ro⟩, hq, hlz2, fun ho => hlo2 (owned_unmark ho)⟩
        · rcases hb with rfl | hb
          · exact .inl (.inl rfl)
          · exact sd.ownE (owned_unmark hb)
        · rcases sd.znew b hb with h | h | h
          · rcases h with h | h
            · exact .inl h
            · exact .inr (.inl h)
          · exact .inr (.inr (.inr h))
          · exact .inr (.inr (.inl h))
        · rcases hb with hb | rfl | hb
          · exact sd.zlive b hb
          · rw [hdl]; simp
          · obtain ⟨⟨cc, T, h⟩, _⟩ := sd.ownLive (owned_unmark hb)
            rw [h]; simp
        · rcases hb with rfl | hb
          · exact hlz2
          · exact (sd.ownLive (owned_unmark hb)).2
        · simp only [unmark_length]
          exact SimV.ext rr2.len rr2.ext _ _ (sx.tmp t)
      cases e with
      | normal =>
        simp only [pthen] at hq2
        split at hq2
        case h_2 => exact hq2.elim
        rename_i y' hback
        simp only [jumpOf, Option.isNone, if_true]
        rw [loop_again hst hpe]
        obtain ⟨sd, rd⟩ := hd' (.loop rec)
        have hdl : (Hc.upd l (.loop rec)) l = some (.loop rec) := upd_eq
        generalize Hc.upd l (.loop rec) = Hd at sd rd hdl ⊢
        have rr2 := rx.trans rd
        have zz : ∀ b, gx.Z b → Hd b = H1 b := fun b hb => (rr2.ext.z b hb).2
        have hld : Hd l ≠ none := by rw [hdl]; simp
        obtain ⟨g4, v4⟩ := en.back hv (r0.trans rr2) sd.enter hback
        rw [hmap] at v4
        have s4' := v4.sim ρ (hmap ρ) (fun _ _ => rfl)
        have z4 : ∀ b, gb.Z b → g4.Z b ∧ Hd b = Hd b := fun b hb => ⟨s4'.zsub b hb, rfl⟩
        have s4 := sd.unbase s4' (fun b hb => sd.ownE hb) (fun _ _ => rfl)
        have hlz4 : ¬ g4.Z l := fun hz => by
          rcases s4'.znew l hz with h | h | h
          · exact hlz2 h
          · exact hld h
          · exact hlo2 h
        have hlo4 : ¬ Owned g4 (L.head st.α base idv y').σ l := fun ho => by
          rcases s4'.ownE ho with h | h
          · exact hlo2 h
          · exact hld h
        refine ⟨fun b hb hw => s4.keep.same b hw hb, fun b hb => s4.keep.live b hb, g4.Z, fun b => b = l ∨ Owned g4 (L.head st.α base idv y').σ b, fun b hb => ⟨s4.zsub b hb, zz b hb⟩, fun b hb => ?_, fun b hb => ?_, fun b hb => ?_, fun b hb => ?_, .inl ⟨by simp, g4, y', rfl, rfl, ?_, ⟨v4.wf, fun ρ'' h1 h2 => ?_, v4.ext, v4.rok⟩, hdl, hlz4, hlo4⟩⟩
        · rcases hb with rfl | hb
          · exact .inl (.inl rfl)
          · exact s4.ownE hb
        · rcases s4.znew b hb with h | h | h
          · rcases h with h | h
            · exact .inl h
            · exact .inr (.inl h)
          · exact .inr (.inr (.inr h))
          · exact .inr (.inr (.inl h))
        · rcases hb with hb | rfl | hb
          · exact s4.zlive b hb
          · rw [hdl]; simp
          · obtain ⟨⟨cc, T, h⟩, _⟩ := s4.ownLive hb
            rw [h]; simp
        · rcases hb with rfl | hb
          · exact hlz4
          · exact (s4.ownLive hb).2
        · rw [← hbody]; exact hq2
        · exact sx.unbase (sd.unbase (v4.sim ρ'' h1 h2) (fun b hb => sd.ownE hb) (fun _ _ => rfl)) hWE zz
      | ret =>
        simp only [pthen, pjump] at hq2
        simp only [jumpOf, Option.isNone]
        obtain ⟨k1, k2, Z', W', k3, k4, k5, k6, k7, k8⟩ := exits .ret .ret rfl hq2 { ({ rec with state := .busy } : Loop) with state := .done, pending := some .ret } (by simp) rfl _ rfl
        exact ⟨k1, k2, Z', W', k3, k4, k5, k6, k7, .inr ⟨by simp, k8⟩⟩
      | exit i =>
        simp only [pthen, pjump] at hq2
        simp only [jumpOf, Option.isNone]
        obtain ⟨k1, k2, Z', W', k3, k4, k5, k6, k7, k8⟩ := exits (.exit i) (.exit i) rfl hq2 { ({ rec with state := .busy } : Loop) with state := .done, pending := some (.exit i) } (by simp) rfl _ rfl
        exact ⟨k1, k2, Z', W', k3, k4, k5, k6, k7, .inr ⟨by simp, k8⟩⟩
      | goto t =>
        simp only [pthen, pjump] at hq2
        simp only [jumpOf, Option.isNone]
        obtain ⟨k1, k2, Z', W', k3, k4, k5, k6, k7, k8⟩ := exits (.goto t) (.goto t) rfl hq2 { ({ rec with state := .busy } : Loop) with state := .done, pending := some (.goto t) } (by simp) rfl _ rfl
        exact ⟨k1, k2, Z', W', k3, k4, k5, k6, k7, .inr ⟨by simp, k8⟩⟩
      | panic ch => simp only [pthen, pjump] at hq2
      | outgrown => simp only [pthen, pjump] at hq2 }
  -- the start
  have s2 := hsim0 iv
  have live2 : ∀ {b : Nat}, Owned g2 (L.head st.α base idv y0).σ b → H b ≠ none := fun ho => by
    obtain ⟨⟨cc, T, h⟩, _⟩ := s2.ownLive ho
    rw [h]; simp
  have hol2 : ¬ Owned g2 (L.head st.α base idv y0).σ l := fun ho => live2 ho hl
  have hzl2 : ¬ g2.Z l := fun hz => s2.zlive l hz hl
  have ivs : LInv E L ⟨st.α, σ1⟩ ρ H g1 base idv y0 [] Hs g2 := iv.other en (fun b hb => hHs b (s2.zlive b hb)) (fun i o hi hh => hHs _ (live2 ⟨i, o, hi, hh, rfl⟩)) hkeep
  have zc2 : ∀ b ∈ bs, ¬ g2.Z b ∧ ¬ Owned g2 (L.head st.α base idv y0).σ b := fun b hb => by
    have no : ¬ Owned gc σ1 b := fun ⟨i, o, h1, h2, h3⟩ => (hbp b hb).2.2.2.2 i o h1 h2 h3.symm
    refine ⟨fun hz => ?_, fun ho => ?_⟩
    · rcases sI.znew b hz with h | h | h
      · exact (hbp b hb).2.1 h
      · exact (hbp b hb).1 h
      · exact no h
    · rcases sI.ownE ho with h | h
      · exact no h
      · exact (hbp b hb).1 h
  have hzz : ∀ b, gc.Z b → g2.Z b := fun b hb => sI.zsub b hb
  have run := hI Hs g2.Z (fun b => b = l ∨ Owned g2 (L.head st.α base idv y0).σ b) bs us c l C hpre hbn hbl (fun i b v h1 h2 => by
      obtain ⟨T, hT⟩ := hbv i b v h1 h2
      exact ⟨T, by rw [hHs b (by rw [hT]; simp)]; exact hT⟩)
    (SimL.ext (g := ⟨gc.Z, fun _ => 0, fun _ => .nilFunc⟩) (g' := ⟨g2.Z, fun _ => 0, fun _ => .nilFunc⟩) (N := 0) (Nat.le_refl _) ⟨fun b hb => ⟨hzz b hb, hHs b (sc.zlive b hb)⟩, fun _ h => absurd h (by omega), fun _ h => absurd h (by omega)⟩ _ _ hus) hw (fun b hb => by rw [hHs b (s2.zlive b hb)]; exact s2.zlive b hb)
    (fun b hb => ⟨(zc2 b hb).1, fun hw => by
      rcases hw with rfl | hw
      · exact (hbp b hb).1 hl
      · exact (zc2 b hb).2 hw⟩)
    (fun b hb => by
      rcases hb with rfl | hb
      · exact ⟨by rw [hHl]; simp, hzl2⟩
      · exact ⟨by rw [hHs b (live2 hb)]; exact live2 hb, (s2.ownLive hb).2⟩)
    (fun b hb => by
      have hbl : H b ≠ none := by rw [s.layH.1 b hb]; exact s.lay.live b hb
      refine ⟨by rw [hHs b hbl]; exact hbl, fun hbb => (by have := (hbp b hbb).2.2.2.1; rw [hb] at this; cases this), fun hw => ?_⟩
      rcases hw with rfl | hw
      · exact hlay _ hb rfl
      · exact s2.laidNo b hb hw)
    (by
      have : layH Hs = layH E.H0 := by
        rw [← s.layH.2]
        funext b
        unfold Sh.layH
        split
        · rename_i hb
          exact hHs b (by rw [s.layH.1 b hb]; exact s.lay.live b hb)
        · rfl
      rw [this]; exact s.lay.ok)
    ⟨g2, y0, rfl, rfl, h, ivs, hHl, hzl2, hol2⟩
  have e : (#[.func (.yield l) #[] #[]] ++ (⟨bs.map capBox⟩ : Array Value)) = ⟨.func (.yield l) #[] #[] :: bs.map capBox⟩ := by simp
  rw [e]
  refine run.mono fun _ H' hk => ?_
  obtain ⟨Z', W', hk⟩ := hk
  rcases hk with ⟨g', y, rfl, rfl, hE, hv, hHl1, hzl, hol⟩ | ⟨e, code, st', g', rfl, rfl, hj, ⟨r, hr1, hr2, hr3⟩, s', r', hq, hzl, hol⟩
  · have s0 := hsim0 hv
    refine ⟨rec, hHl1, by rw [hst]; simp, ?_⟩
    rw [hpe]
    have hE' : fin y := hE
    rw [← hfin] at hE'
    have fin' : ∀ o : Obj, Lc E st H g Q .normal ρ (H'.upd l o) := fun o => by
      obtain ⟨s3, r3⟩ := s0.other (H' := H'.upd l o) (fun b hz => upd_ne (by rintro rfl; exact hzl hz)) (fun i o hi hh => upd_ne (fun e => hol ⟨i, o, hi, hh, e.symm⟩)) (s0.keep.upd (.inr hEl))
      obtain ⟨_, _, _, rl⟩ := en.left hv (α' := (L.head st.α base idv y).α) r3
      exact ⟨_, g', s3.unmark σ1, rc.trans rl, hE' hv.wf⟩
    exact fin' _
  · have fin' : ∀ o : Obj, Lc E st H g Q e ρ (H'.upd l o) := fun o => by
      obtain ⟨s3, r3⟩ := s'.other (H' := H'.upd l o) (fun b hz => upd_ne (by rintro rfl; exact hzl hz)) (fun i o hi hh => upd_ne (fun e => hol ⟨i, o, hi, hh, e.symm⟩)) (s'.keep.upd (.inr hEl))
      exact ⟨st', g', s3, (rc.trans r').trans r3, hq⟩
    refine ⟨r, hr1, hr2, ?_⟩
    rw [hr3]
    cases e <;> simp only [jumpOf, Option.some.injEq] at hj <;> first | (cases hj; done) | (subst hj; exact fin' _)

theorem pgotoK_else {F : Nat → St → PPost → Prop} {L : Nat → Bool} {n : Nat} {Q : PPost} {e : Exit} {st : St} (h : ∀ l, e ≠ .goto l) : pgotoK F L n Q e st = Q e st := by
  cases n <;> cases e <;> first | rfl | exact absurd rfl (h _)
theorem pgotoK_no {F : Nat → St → PPost → Prop} {L : Nat → Bool} {n l : Nat} {Q : PPost} {st : St} (h : L l = false) : pgotoK F L n Q (.goto l) st = Q (.goto l) st := by
  cases n <;> simp [pgotoK, h]
theorem pgotoK_yes {F : Nat → St → PPost → Prop} {L : Nat → Bool} {n l : Nat} {Q : PPost} {st : St} (h : L l = true) : pgotoK F L (n + 1) Q (.goto l) st = F l st (pgotoK F L n Q) := by
  simp [pgotoK, h]
theorem pgotoK_zero {F : Nat → St → PPost → Prop} {L : Nat → Bool} {l : Nat} {Q : PPost} {st : St} (h : L l = true) : pgotoK F L 0 Q (.goto l) st = False := by
  simp [pgotoK, h]
/-- Jumps on, over plain data. -/
theorem pgoto_of {F : Nat → St → PPost → Prop} {FW : Nat → Env → Heap → Post → Prop} {L : Nat → Bool} (hF : ∀ (l : Nat) {E : En} {st : St} {ρ : Env} {H : Heap} {g : Gh} {Q : PPost}, Sim E st ρ H g → F l st Q → FW l ρ H (Lc E st H g Q))
    (hm : ∀ (l : Nat) {Q Q' : Post}, (∀ e ρ H, Q e ρ H → Q' e ρ H) → ∀ ρ H, FW l ρ H Q → FW l ρ H Q') {E : En} {st0 : St} {H0 : Heap} {g0 : Gh} {Q : PPost} {QW : Post} (hQ : ∀ (e : Exit) {st : St} {ρ : Env} {H : Heap} {g : Gh}, Sim E st ρ H g → Rel st0 H0 g0 st H g → Q e st → QW e ρ H) :
    ∀ (n : Nat) (e : Exit) {st : St} {ρ : Env} {H : Heap} {g : Gh}, Sim E st ρ H g → Rel st0 H0 g0 st H g → pgotoK F L n Q e st → gotoK FW L n QW e ρ H := by
  intro n
  induction n with
  | zero =>
    intro e st ρ H g s r h
    rcases goto_cases e with ⟨l, rfl⟩ | he
    · cases hl : L l with
      | true => rw [pgotoK_zero hl] at h; exact h.elim
      | false => rw [pgotoK_no hl] at h; rw [gotoK_no hl]; exact hQ _ s r h
    · rw [pgotoK_else he] at h; rw [gotoK_else he]; exact hQ _ s r h
  | succ n ih =>
    intro e st ρ H g s r h
    rcases goto_cases e with ⟨l, rfl⟩ | he
    · cases hl : L l with
      | true =>
        rw [pgotoK_yes hl] at h; rw [gotoK_yes hl]
        refine hm l (fun e ρ' H' hk => ?_) _ _ (hF l s h)
        obtain ⟨st', g', s', r', hq⟩ := hk
        exact ih e s' (r.trans r') hq
      | false => rw [pgotoK_no hl] at h; rw [gotoK_no hl]; exact hQ _ s r h
    · rw [pgotoK_else he] at h; rw [gotoK_else he]; exact hQ _ s r h

theorem punroll_of {B : St → PPost → Prop} {BW : Env → Heap → Post → Prop} (hB : ∀ {E : En} {st : St} {ρ : Env} {H : Heap} {g : Gh} {Q : PPost}, Sim E st ρ H g → B st Q → BW ρ H (Lc E st H g Q))
    (hm : ∀ {Q Q' : Post}, (∀ e ρ H, Q e ρ H → Q' e ρ H) → ∀ ρ H, BW ρ H Q → BW ρ H Q') : ∀ (n : Nat) {E : En} {st : St} {ρ : Env} {H : Heap} {g : Gh} {Q : PPost} {st0 : St} {H0 : Heap} {g0 : Gh}, Sim E st ρ H g → Rel st0 H0 g0 st H g → punroll B n st Q → unrollC BW n ρ H (Lc E st0 H0 g0 Q)
  | 0, _, _, _, _, _, _, _, _, _, _, _, h => h.elim
  | n + 1, E, st, ρ, H, g, Q, st0, H0, g0, s, r, h => hm (fun e ρ' H' hk => by
      obtain ⟨st', g', s', r', hq⟩ := hk
      unfold pnextK at hq
      cases hn : isNorm e with
      | true => rw [nextK_yes hn]; simp only [hn] at hq; exact punroll_of hB hm n s' (r.trans r') hq
      | false => rw [nextK_no hn]; simp only [hn] at hq; exact ⟨st', g', s', r.trans r', hq⟩) _ _ (hB s h)

mutual
theorem pcode_of {P : Program} {tab : Tab} (ht : TabsOk P tab) {plan : PPlan} : ∀ (c : Code) {E : En} {st : St} {ρ : Env} {H : Heap} {g : Gh} {Q : PPost}, Sim E st ρ H g → PCode P tab plan c st Q → CodeW P plan.plan c ρ H (Lc E st H g Q)
  | .skip, E, st, ρ, H, g, Q, s, h => by simp only [PCode] at h; simp only [CodeW]; exact ⟨st, g, s, .refl _ _ _, h⟩
  | .label _, E, st, ρ, H, g, Q, s, h => by simp only [PCode] at h; simp only [CodeW]; exact ⟨st, g, s, .refl _ _ _, h⟩
  | .region id ops draw, E, st, ρ, H, g, Q, s, h => by
    simp only [PCode] at h
    refine CodeW.mono _ (fun e ρ' H' hk => ?_) _ _ (PReg_sound ht.1 (loops := plan.plan.loops) (unr := plan.unr) s h)
    obtain ⟨rfl, hk⟩ := hk
    exact hk
  | .seq a b, E, st, ρ, H, g, Q, s, h => by
    simp only [PCode] at h
    simp only [CodeW]
    refine CodeW.mono a (fun e ρ' H' hk => ?_) _ _ (pcode_of ht a s h)
    obtain ⟨st', g', s', r', hq⟩ := hk
    cases e with
    | normal => exact CodeW.mono b (fun e ρ'' H'' hk => hk.trans r') _ _ (pcode_of ht b s' hq)
    | _ => exact ⟨st', g', s', r', hq⟩
  | .cond c x y, E, st, ρ, H, g, Q, s, h => by
    simp only [PCode] at h
    simp only [CodeW]
    have he := evA_sim s c
    split at h
    · rename_i t hc
      rw [hc] at he
      simp only [SimV] at he
      rw [he]
      exact IfB.mono h (fun h => pcode_of ht x s h) (fun h => pcode_of ht y s h)
    · exact h.elim
  | .block id c, E, st, ρ, H, g, Q, s, h => by
    simp only [PCode] at h
    simp only [CodeW]
    refine CodeW.mono c (fun e ρ' H' hk => ?_) _ _ (pcode_of ht c s h)
    obtain ⟨st', g', s', r', hq⟩ := hk
    cases e with
    | exit i =>
      simp only [pblock] at hq
      simp only [blockK]
      split at hq
      · rename_i hb; rw [hb]; exact ⟨st', g', s', r', hq⟩
      · rename_i hb; rw [hb]; exact ⟨st', g', s', r', hq⟩
    | _ => exact ⟨st', g', s', r', hq⟩
  | .exit id, E, st, ρ, H, g, Q, s, h => by simp only [PCode] at h; simp only [CodeW]; exact ⟨st, g, s, .refl _ _ _, h⟩
  | .goto l, E, st, ρ, H, g, Q, s, h => by simp only [PCode] at h; simp only [CodeW]; exact ⟨st, g, s, .refl _ _ _, h⟩
  | .ret, E, st, ρ, H, g, Q, s, h => by simp only [PCode] at h; simp only [CodeW]; exact ⟨st, g, s, .refl _ _ _, h⟩
  | .rangeFunc gf ps assign body, E, st, ρ, H, g, Q, s, h => by
    simp only [PCode] at h
    simp only [CodeW]
    have he := evA_sim s gf
    split at h
    case h_2 => exact h.elim
    rename_i f caps hf
    rw [hf] at he
    simp only [SimV] at he
    obtain ⟨vs, he, hcs⟩ := he
    rw [he]
    split at h
    case h_2 => exact h.elim
    rename_i I hI
    split at h
    case h_2 => exact h.elim
    rename_i c σ1 hin
    obtain ⟨hpre, hr⟩ := h
    refine ⟨rfl, fun nt d l rec hd hl hne hst hpe hps hra hrb _ hrnd => ?_⟩
    exact prange_of (fun s h => pcode_of ht assign s h) (fun s h => pcode_of ht body s h) (fun hq => CodeW.mono assign hq) (fun hq => CodeW.mono body hq) (ht.2.get hI) s hcs hin hpre hr hd hl hne hst hpe hps hra hrb hrnd
  | .refuse _, _, _, _, _, _, _, _, h => by simp only [PCode] at h
  | .loop c, E, st, ρ, H, g, Q, s, h => by
    simp only [PCode] at h
    simp only [CodeW]
    cases hu : unrOf (firstRegion c) plan.unr with
    | some n =>
      have hu' : unrOf (firstRegion c) plan.plan.unr = some n := hu
      simp only [hu] at h
      simp only [hu']
      exact punroll_of (fun s h => pcode_of ht c s h) (fun hq => CodeW.mono c hq) n s (.refl _ _ _) h
    | none =>
      have hu' : unrOf (firstRegion c) plan.plan.unr = none := hu
      simp only [hu] at h
      simp only [hu']
      exact ploop_of (fun s h => pcode_of ht c s h) (fun hq => CodeW.mono c hq) s h
  | .scope c, E, st, ρ, H, g, Q, s, h => by
    simp only [PCode] at h
    simp only [CodeW]
    have hF : ∀ (l : Nat) {E : En} {st : St} {ρ : Env} {H : Heap} {g : Gh} {Q : PPost}, Sim E st ρ H g → PFr P tab plan c l st Q → CodeFr P plan.plan c l ρ H (Lc E st H g Q) := fun l {E st ρ H g Q} s h => pfr_of ht c l s h
    have hM := fun (l : Nat) {Q Q' : Post} (hq : ∀ e ρ H, Q e ρ H → Q' e ρ H) => CodeFr.mono (P := P) (plan := plan.plan) c l hq
    cases hll : loopLbl plan.plan c with
    | none =>
      simp only [hll] at h ⊢
      refine CodeW.mono c (fun e ρ' H' hk => ?_) _ _ (pcode_of ht c s h)
      obtain ⟨st', g', s', r', hq⟩ := hk
      exact pgoto_of hF hM (fun e {st2 ρ2 H2 g2} s2 r2 hq => ⟨st2, g2, s2, r2, hq⟩) _ e s' r' hq
    | some l =>
      simp only [hll] at h ⊢
      have hJ : ∀ {st' : St} {ρ' : Env} {H' : Heap} {g' : Gh}, Sim E st' ρ' H' g' → Rel st H g st' H' g' → PLoopC plan (lblKey l) (fun st Q => PFr P tab plan c l st (pgotoK (fun l st Q => PFr P tab plan c l st Q) (others c l) (nLbl c) Q)) (isGoto l) st' Q →
          LoopC plan.plan (lblKey l) (fun ρ H Q => CodeFr P plan.plan c l ρ H (gotoK (fun l ρ H Q => CodeFr P plan.plan c l ρ H Q) (others c l) (nLbl c) Q)) (isGoto l) ρ' H' (Lc E st H g Q) := fun {st' ρ' H' g'} s' r' h => by
        refine LoopC.mono (fun hq => CodeFr.mono c l (gotoK.mono hM _ hq)) (fun e ρ2 H2 hk => hk.trans r') ρ' H' (ploop_of (fun {E st ρ H g Q} s h => ?_) (fun hq => CodeFr.mono c l (gotoK.mono hM _ hq)) s' h)
        refine CodeFr.mono c l (fun e ρ' H' hk => ?_) _ _ (hF l s h)
        obtain ⟨st', g', s', r', hq⟩ := hk
        exact pgoto_of hF hM (fun e {st2 ρ2 H2 g2} s2 r2 hq => ⟨st2, g2, s2, r2, hq⟩) _ e s' r' hq
      refine CodeBe.mono c l (fun e ρ' H' hk => ?_) _ _ (pbe_of ht c l s h)
      obtain ⟨st', g', s', r', hq⟩ := hk
      unfold pnextK at hq
      unfold nextK
      cases hn : isNorm e with
      | true => simp only [hn] at hq ⊢; exact hJ s' r' hq
      | false =>
        simp only [hn] at hq ⊢
        refine pgoto_of hF hM (fun e {st2 ρ2 H2 g2} s2 r2 hq => ?_) _ e s' r' hq
        cases hg : isGoto l e with
        | true => simp only [hg] at hq ⊢; exact hJ s2 r2 hq
        | false => simp only [hg] at hq ⊢; exact ⟨st2, g2, s2, r2, hq⟩
theorem pfr_of {P : Program} {tab : Tab} (ht : TabsOk P tab) {plan : PPlan} : ∀ (c : Code) (l : Nat) {E : En} {st : St} {ρ : Env} {H : Heap} {g : Gh} {Q : PPost}, Sim E st ρ H g → PFr P tab plan c l st Q → CodeFr P plan.plan c l ρ H (Lc E st H g Q)
  | .seq a b, l, E, st, ρ, H, g, Q, s, h => by
    simp only [PFr] at h
    simp only [CodeFr]
    cases hl : hasLbl a l with
    | true =>
      simp only [hl] at h ⊢
      refine CodeFr.mono a l (fun e ρ' H' hk => ?_) _ _ (pfr_of ht a l s h)
      obtain ⟨st', g', s', r', hq⟩ := hk
      cases e with
      | normal => exact CodeW.mono b (fun e ρ'' H'' hk => hk.trans r') _ _ (pcode_of ht b s' hq)
      | _ => exact ⟨st', g', s', r', hq⟩
    | false =>
      simp only [hl] at h ⊢
      exact pfr_of ht b l s h
  | .label l', l, E, st, ρ, H, g, Q, s, h => by
    simp only [PFr] at h
    simp only [CodeFr]
    cases hl : Nat.beq l' l with
    | true => simp only [hl] at h ⊢; exact ⟨st, g, s, .refl _ _ _, h⟩
    | false => simp only [hl] at h
  | .skip, _, _, _, _, _, _, _, _, h => by simp only [PFr] at h
  | .region .., _, _, _, _, _, _, _, _, h => by simp only [PFr] at h
  | .cond .., _, _, _, _, _, _, _, _, h => by simp only [PFr] at h
  | .block .., _, _, _, _, _, _, _, _, h => by simp only [PFr] at h
  | .loop .., _, _, _, _, _, _, _, _, h => by simp only [PFr] at h
  | .rangeFunc .., _, _, _, _, _, _, _, _, h => by simp only [PFr] at h
  | .exit .., _, _, _, _, _, _, _, _, h => by simp only [PFr] at h
  | .scope .., _, _, _, _, _, _, _, _, h => by simp only [PFr] at h
  | .goto .., _, _, _, _, _, _, _, _, h => by simp only [PFr] at h
  | .ret, _, _, _, _, _, _, _, _, h => by simp only [PFr] at h
  | .refuse .., _, _, _, _, _, _, _, _, h => by simp only [PFr] at h
theorem pbe_of {P : Program} {tab : Tab} (ht : TabsOk P tab) {plan : PPlan} : ∀ (c : Code) (l : Nat) {E : En} {st : St} {ρ : Env} {H : Heap} {g : Gh} {Q : PPost}, Sim E st ρ H g → PBe P tab plan c l st Q → CodeBe P plan.plan c l ρ H (Lc E st H g Q)
  | .seq a b, l, E, st, ρ, H, g, Q, s, h => by
    simp only [PBe] at h
    simp only [CodeBe]
    cases hl : hasLbl a l with
    | true => simp only [hl] at h ⊢; exact pbe_of ht a l s h
    | false =>
      simp only [hl] at h ⊢
      refine CodeW.mono a (fun e ρ' H' hk => ?_) _ _ (pcode_of ht a s h)
      obtain ⟨st', g', s', r', hq⟩ := hk
      cases e with
      | normal => exact CodeBe.mono b l (fun e ρ'' H'' hk => hk.trans r') _ _ (pbe_of ht b l s' hq)
      | _ => exact ⟨st', g', s', r', hq⟩
  | .label l', l, E, st, ρ, H, g, Q, s, h => by
    simp only [PBe] at h
    simp only [CodeBe]
    cases hl : Nat.beq l' l with
    | true => simp only [hl] at h ⊢; exact ⟨st, g, s, .refl _ _ _, h⟩
    | false => simp only [hl] at h
  | .skip, _, _, _, _, _, _, _, _, h => by simp only [PBe] at h
  | .region .., _, _, _, _, _, _, _, _, h => by simp only [PBe] at h
  | .cond .., _, _, _, _, _, _, _, _, h => by simp only [PBe] at h
  | .block .., _, _, _, _, _, _, _, _, h => by simp only [PBe] at h
  | .loop .., _, _, _, _, _, _, _, _, h => by simp only [PBe] at h
  | .rangeFunc .., _, _, _, _, _, _, _, _, h => by simp only [PBe] at h
  | .exit .., _, _, _, _, _, _, _, _, h => by simp only [PBe] at h
  | .scope .., _, _, _, _, _, _, _, _, h => by simp only [PBe] at h
  | .goto .., _, _, _, _, _, _, _, _, h => by simp only [PBe] at h
  | .ret, _, _, _, _, _, _, _, _, h => by simp only [PBe] at h
  | .refuse .., _, _, _, _, _, _, _, _, h => by simp only [PBe] at h
end

end Go.Sh
