/-
  Rows of operations, regions, over plain data.
-/
import Derived.Test.YtcnbolonnlmlgaaDoorPw7
set_option linter.unusedSectionVars false
set_option linter.unusedSimpArgs false
set_option linter.unusedVariables false
namespace Go.Sh
variable [Laid]

def isUndef : Value → Bool
  | .tuple _ => true
  | _ => false
def PG (all : Array Oper) (S : Oper → St → (AV → St → Prop) → Prop) (o : Oper) (st : St) (K : St → Prop) : Prop :=
  match o.guard with
  | none => S o st fun a st' => K (st'.put o.dst a)
  | some (j, want) => match gdst all j with
    | some d => match st.α d with
      | .bool b => IfB b
          (match want with
            | true => S o (st.put (some d) (.bool true)) fun a st' => K (st'.put o.dst a)
            | false => K ((st.put (some d) (.bool true)).put o.dst (.raw undef)))
          (match want with
            | false => S o (st.put (some d) (.bool false)) fun a st' => K (st'.put o.dst a)
            | true => K ((st.put (some d) (.bool false)).put o.dst (.raw undef)))
      | .raw u => match isUndef u with
        | true => K (st.put o.dst (.raw undef))
        | false => False
      | _ => False
    | none => False
def POps (all : Array Oper) (S : Oper → St → (AV → St → Prop) → Prop) : List Oper → St → (St → Prop) → Prop
  | [], st, K => K st
  | o :: os, st, K => PG all S o st fun st' => POps all S os st' K

/-- What stands behind a step. -/
def Lp (E : En) (st : St) (H : Heap) (g : Gh) (K : St → Prop) : Env → Heap → Prop := fun ρ' H' => ∃ st' g', Sim E st' ρ' H' g' ∧ Rel st H g st' H' g' ∧ K st'

theorem PG_sound {E : En} {all : Array Oper} {S : Oper → St → (AV → St → Prop) → Prop} {S' : Oper → Env → Heap → (Value → Heap → Prop) → Prop} (N : Nice S') {st0 : St} {H0 : Heap} {g0 : Gh} {o : Oper} {st : St} {ρ : Env} {H : Heap} {g : Gh} {K : St → Prop}
    (hS : ∀ {α : Nat → AV} {ρ : Env} {K : AV → St → Prop}, Sim E ⟨α, st.σ⟩ ρ H g → S o ⟨α, st.σ⟩ K → S' o ρ H fun v H' => ∃ a st' g', Sim E st' ρ H' g' ∧ Rel st0 H0 g0 st' H' g' ∧ SimV g' H' st'.σ.length a v ∧ K a st')
    (s : Sim E st ρ H g) (r : Rel st0 H0 g0 st H g) (h : PG all S o st K) : OpG all S' o ρ H fun ρ' H' => ∃ st' g', Sim E st' ρ' H' g' ∧ Rel st0 H0 g0 st' H' g' ∧ K st' := by
  have step : ∀ {α : Nat → AV} {ρ : Env}, Sim E ⟨α, st.σ⟩ ρ H g → S o ⟨α, st.σ⟩ (fun a st' => K (st'.put o.dst a)) → S' o ρ H fun v H' => ∃ st' g', Sim E st' (put ρ o.dst v) H' g' ∧ Rel st0 H0 g0 st' H' g' ∧ K st' := by
    intro α ρ s h
    refine N.mono _ _ _ _ _ (fun v H' hv => ?_) (hS s h)
    obtain ⟨a, st', g', h1, h2, h3, h4⟩ := hv
    exact ⟨st'.put o.dst a, g', h1.put o.dst h3, ⟨h2.len, h2.ext, h2.ro⟩, h4⟩
  unfold PG at h
  unfold OpG
  split at h
  · rename_i hg
    rw [hg]
    exact step s h
  · rename_i j want hg
    rw [hg]
    simp only
    split at h
    · rename_i d hd
      rw [hd]
      simp only
      split at h
      · rename_i b hb
        have hρ := s.tmp d
        rw [hb] at hρ
        simp only [SimV] at hρ
        rw [hρ]
        simp only
        refine IfB.mono h (fun h => ?_) (fun h => ?_)
        · have s1 : Sim E (st.put (some d) (.bool true)) (put ρ (some d) (.bool true)) H g := s.put (some d) (by simp only [SimV])
          cases want with
          | true => exact step s1 h
          | false => exact ⟨_, g, s1.put o.dst (a := .raw undef) (by simp only [SimV]), ⟨r.len, r.ext, r.ro⟩, h⟩
        · have s1 : Sim E (st.put (some d) (.bool false)) (put ρ (some d) (.bool false)) H g := s.put (some d) (by simp only [SimV])
          cases want with
          | false => exact step s1 h
          | true => exact ⟨_, g, s1.put o.dst (a := .raw undef) (by simp only [SimV]), ⟨r.len, r.ext, r.ro⟩, h⟩
      · rename_i u hu
        have hρ := s.tmp d
        rw [hu] at hρ
        simp only [SimV] at hρ
        rw [hρ]
        split at h
        · rename_i hun
          have fin : ∃ st' g', Sim E st' (put ρ o.dst undef) H g' ∧ Rel st0 H0 g0 st' H g' ∧ K st' := ⟨_, g, s.put o.dst (a := .raw undef) (by simp only [SimV]), ⟨r.len, r.ext, r.ro⟩, h⟩
          cases u <;> simp only [isUndef] at hun <;> first | (cases hun; done) | exact fin
        · exact h.elim
      · exact h.elim
    · exact h.elim

theorem POps_sound {E : En} {all : Array Oper} {S : Oper → St → (AV → St → Prop) → Prop} {S' : Oper → Env → Heap → (Value → Heap → Prop) → Prop} (N : Nice S') {st0 : St} {H0 : Heap} {g0 : Gh} {K : St → Prop}
    (hS : ∀ {o : Oper} {st : St} {ρ : Env} {H : Heap} {g : Gh} {K : AV → St → Prop}, Sim E st ρ H g → Rel st0 H0 g0 st H g → S o st K → S' o ρ H fun v H' => ∃ a st' g', Sim E st' ρ H' g' ∧ Rel st0 H0 g0 st' H' g' ∧ SimV g' H' st'.σ.length a v ∧ K a st') :
    ∀ (l : List Oper) (st : St) (ρ : Env) (H : Heap) (g : Gh), Sim E st ρ H g → Rel st0 H0 g0 st H g → POps all S l st K → OpsL all S' l ρ H fun ρ' H' => ∃ st' g', Sim E st' ρ' H' g' ∧ Rel st0 H0 g0 st' H' g' ∧ K st' := by
  intro l
  induction l with
  | nil => exact fun st ρ H g s r h => ⟨st, g, s, r, h⟩
  | cons o os ih =>
    intro st ρ H g s r h
    refine OpG.mono N (fun ρ' H' hk => ?_) (PG_sound N (fun {α ρ K} s' h' => hS s' ⟨r.len, r.ext, r.ro⟩ h') s r h)
    obtain ⟨st', g', s', r', h'⟩ := hk
    exact ih st' ρ' H' g' s' r' h'

/-! ### Marks: what may not be turned for a while -/
def flagO (r : Bool) : AObj → AObj
  | .obj T _ cs => .obj T r cs
  | .row T _ ks xs => .row T r ks xs
  | o => o
/-- Alike but for marks. -/
def LikeO (o o' : AObj) : Prop := ∃ r, o' = flagO r o
theorem LikeO.has {g : Gh} {id : Nat} {o o' : AObj} (h : LikeO o o') : Has g id o' ↔ Has g id o := by
  obtain ⟨r, rfl⟩ := h; cases o <;> exact Iff.rfl
theorem LikeO.sim {g : Gh} {H : Heap} {N id : Nat} {o o' : AObj} (h : LikeO o o') : SimO g H N id o' ↔ SimO g H N id o := by
  obtain ⟨r, rfl⟩ := h; cases o <;> exact Iff.rfl
theorem Sim.like {E : En} {st : St} {ρ : Env} {H : Heap} {g : Gh} (s : Sim E st ρ H g) {σ' : List AObj} (hl : σ'.length = st.σ.length) (h : ∀ (i : Nat) (o : AObj), σ'[i]? = some o → ∃ o1, st.σ[i]? = some o1 ∧ LikeO o1 o) : Sim E ⟨st.α, σ'⟩ ρ H g := by
  refine ⟨fun t => ?_, fun i o hi => ?_, fun i o hi hh => ?_, fun i j oi oj hij hi hj hhi hhj => ?_, fun i o hi hh => ?_, s.keep, s.zsub, s.znew, s.zlive, s.lay, s.zc⟩
  · simp only [hl]; exact s.tmp t
  · simp only [hl]
    obtain ⟨o1, h1, h2⟩ := h i o hi
    exact h2.sim.2 (s.obj i o1 h1)
  · obtain ⟨o1, h1, h2⟩ := h i o hi
    exact s.nz i o1 h1 (h2.has.1 hh)
  · obtain ⟨o1, h1, h2⟩ := h i oi hi
    obtain ⟨o3, h3, h4⟩ := h j oj hj
    exact s.dis i j o1 o3 hij h1 h3 (h2.has.1 hhi) (h4.has.1 hhj)
  · obtain ⟨o1, h1, h2⟩ := h i o hi
    exact s.own i o1 h1 (h2.has.1 hh)

def markO : AObj → AObj
  | .obj T _ cs => .obj T true cs
  | o => o
/-- All objects are marked but those that these temporaries point to. -/
def pts (α : Nat → AV) : List Tmp → List Nat
  | [] => []
  | t :: ts => match α t with
    | .ptr id _ => id :: pts α ts
    | _ => pts α ts
def markA (keep : List Nat) : Nat → List AObj → List AObj
  | _, [] => []
  | i, o :: os => (match memB i keep with | true => o | false => markO o) :: markA keep (i + 1) os
theorem markA_length (keep : List Nat) : ∀ (σ : List AObj) (i : Nat), (markA keep i σ).length = σ.length
  | [], _ => rfl
  | o :: os, i => by simp [markA, markA_length keep os]
theorem markA_get (keep : List Nat) : ∀ (σ : List AObj) (i j : Nat), (markA keep i σ)[j]? = (σ[j]?).map fun o => match memB (i + j) keep with | true => o | false => markO o
  | [], _, _ => by simp [markA]
  | o :: os, i, 0 => by simp [markA]
  | o :: os, i, j + 1 => by
    simp only [markA, List.getElem?_cons_succ]
    rw [markA_get keep os (i + 1) j]
    have e : i + 1 + j = i + (j + 1) := by omega
    rw [e]
def flagOf : AObj → Bool
  | .obj _ r _ => r
  | .row _ r _ _ => r
  | _ => false
/-- The marks of old times again. -/
def unmark : List AObj → List AObj → List AObj
  | o :: os, o' :: os' => flagO (flagOf o) o' :: unmark os os'
  | _, os' => os'
theorem like_self (o : AObj) : LikeO o o := ⟨flagOf o, by cases o <;> rfl⟩
theorem unmark_like : ∀ (old σ : List AObj) (i : Nat) (o : AObj), (unmark old σ)[i]? = some o → ∃ o1, σ[i]? = some o1 ∧ LikeO o1 o
  | [], σ, i, o, h => ⟨o, by simpa [unmark] using h, like_self o⟩
  | _ :: _, [], i, o, h => by simp [unmark] at h
  | a :: old, b :: σ, 0, o, h => by simp [unmark] at h; exact ⟨b, rfl, _, h.symm⟩
  | a :: old, b :: σ, i + 1, o, h => by simp [unmark] at h; obtain ⟨o1, h1, h2⟩ := unmark_like old σ i o h; exact ⟨o1, by simpa using h1, h2⟩
theorem unmark_length : ∀ (old σ : List AObj), (unmark old σ).length = σ.length
  | [], σ => by simp [unmark]
  | _ :: _, [] => rfl
  | a :: old, b :: σ => by simp [unmark, unmark_length old σ]
theorem unmark_get : ∀ (old σ : List AObj) (i : Nat) (o o' : AObj), old[i]? = some o → σ[i]? = some o' → (unmark old σ)[i]? = some (flagO (flagOf o) o')
  | [], _, _, _, _, h, _ => by simp at h
  | _ :: _, [], _, _, _, _, h => by simp at h
  | a :: old, b :: σ, 0, o, o', h, h' => by simp at h h'; subst h h'; rfl
  | a :: old, b :: σ, i + 1, o, o', h, h' => by simp at h h'; simpa [unmark] using unmark_get old σ i o o' h h'
theorem flag_self (o : AObj) : flagO (flagOf o) o = o := by cases o <;> rfl

theorem Sim.unmark {E : En} {st : St} {ρ : Env} {H : Heap} {g : Gh} (s : Sim E st ρ H g) (old : List AObj) : Sim E ⟨st.α, Sh.unmark old st.σ⟩ ρ H g :=
  s.like (unmark_length _ _) (unmark_like _ _)
/-- What was marked before is as it was, where marks were set and are taken back. -/
theorem Rel.unmark {st st' : St} {σm : List AObj} {H H' : Heap} {g g' : Gh} (hm : ∀ (i : Nat) (o : AObj), st.σ[i]? = some o → isRo o = true → σm[i]? = some o) (hl : σm.length = st.σ.length) (r : Rel ⟨st.α, σm⟩ H g st' H' g') : Rel st H g ⟨st'.α, Sh.unmark st.σ st'.σ⟩ H' g' := by
  refine ⟨by simp only [unmark_length]; have := r.len; simp only at this; omega, by have := r.ext; simp only [hl] at this; exact this, fun id o ho hr => ?_⟩
  obtain ⟨h1, h2⟩ := r.ro id o (hm id o ho hr) hr
  exact ⟨by rw [unmark_get _ _ _ _ _ ho h1, flag_self], h2⟩

/-! ### Regions -/
def POpK (P : Program) (C : List Tmp) (o : Oper) (st : St) (K : AV → St → Prop) : Prop :=
  match inC C o with
  | true => match o.op with
    | .load t a => match evA st.α a with
      | .ptr id off => match st.σ[id]? with
        | some (.obj _ true _) => ldP P st t (.ptr id off) fun a => K a st
        | _ => False
      | .rdp cs => ldP P st t (.rdp cs) fun a => K a st
      | _ => False
    | _ => False
  | false => PPure P o st fun a => K a st
def POpR (P : Program) (tab : List (Nat × Ct)) (own : List Tmp) (C : List Tmp) (σm : List AObj) (o : Oper) (st : St) (K : AV → St → Prop) : Prop :=
  match inC C o with
  | true => match o.op with
    | .load t a => match evA st.α a with
      | .ptr id off => match σm[id]? with
        | some (.obj _ true _) => ldP P st t (.ptr id off) fun a => K a st
        | _ => False
      | _ => False
    | _ => False
  | false => POp P tab own o st K
def isFn (o : Oper) : Bool := match o.op with
  | .call c => match c.callee with
    | .value _ => true
    | _ => false
  | _ => false
def fnN : List Oper → Nat
  | [] => 0
  | o :: os => match isFn o with
    | true => 0
    | false => fnN os + 1
/-- How many operations there are up to the last one of C. -/
def lastC (C : List Tmp) : List Oper → Nat
  | [] => 0
  | o :: os => match lastC C os with
    | 0 => match inC C o with
      | true => 1
      | false => 0
    | n + 1 => n + 2
/-- .. but none from the first call on. -/
def lastF (C : List Tmp) (l : List Oper) : Nat := Nat.min (lastC C l) (fnN l)

/-- The orders, as a tree. -/
def PTs (all : Array Oper) (S : Oper → St → (AV → St → Prop) → Prop) (a : Nat) (post Y : List Nat) (K : St → Prop) : List Nat → St → Prop
  | [], st => POps all S (opsAt all (a :: post)) st K
  | h :: t, st => match memB h Y with
    | true => POps all S (opsAt all (a :: h :: (t ++ post))) st K ∧ POps all S (opsAt all [h]) st fun st' => PTs all S a post Y K t st'
    | false => POps all S (opsAt all [h]) st fun st' => PTs all S a post Y K t st'

def PReg (P : Program) (tab : List (Nat × Ct)) (own : List Tmp) (nomark : List Tmp) (regs : List (Nat × List Nat × List Tmp)) (trees : List (Nat × Tree)) (id : Nat) (ops : Array Oper) (draw : Bool) (st : St) (K : St → Prop) : Prop :=
  match draw with
  | false => POps ops (POp P tab own) ops.toList st K
  | true => match treeOf id trees with
    | some t => (match planC id regs, t.pre0.all fun h => !(memB h t.Y) with
      | [], true => POps ops (POp P tab own) (opsAt ops t.pre0) st fun st => PTs ops (POp P tab own) t.a t.post t.Y (fun st => POps ops (POp P tab own) (opsAt ops t.zs) st K) t.pre1 st
      | c :: C, true => POps ops (POpK P (c :: C)) (opsAt ops t.pre0) ⟨st.α, markA (pts st.α nomark) 0 st.σ⟩ fun st1 =>
          PTs ops (POpR P tab own (c :: C) (markA (pts st.α nomark) 0 st.σ)) t.a t.post t.Y (fun st2 => POps ops (POp P tab own) (opsAt ops t.zs) ⟨st2.α, unmark st.σ st2.σ⟩ K) t.pre1 st1
      | _, _ => False)
    | none => match planOf id regs with
    | none => POps ops (POp P tab own) ops.toList st K
    | some (l, []) => POps ops (POp P tab own) (opsAt ops l) st K
    | some (l, c :: C) => match Nat.beq c lateMk with
      | true => False
      | false => POps ops (POpK P (c :: C)) ((opsAt ops (l.take (headN ops l))).take (lastF (c :: C) (opsAt ops (l.take (headN ops l))))) ⟨st.α, markA (pts st.α nomark) 0 st.σ⟩ fun st1 =>
        POps ops (POpR P tab own (c :: C) (markA (pts st.α nomark) 0 st.σ)) ((opsAt ops (l.take (headN ops l))).drop (lastF (c :: C) (opsAt ops (l.take (headN ops l))))) st1 fun st2 => POps ops (POp P tab own) (opsAt ops (l.drop (headN ops l))) ⟨st2.α, unmark st.σ st2.σ⟩ K

theorem OpsL.append {all : Array Oper} {S : Oper → Env → Heap → (Value → Heap → Prop) → Prop} {K : Env → Heap → Prop} : ∀ (l1 l2 : List Oper) (ρ : Env) (H : Heap), OpsL all S l1 ρ H (fun ρ' H' => OpsL all S l2 ρ' H' K) → OpsL all S (l1 ++ l2) ρ H K
  | [], _, _, _, h => h
  | o :: l1, l2, ρ, H, h => by
    simp only [List.cons_append, OpsL] at h ⊢
    have e : (fun ρ' H' => OpsL all S (l1 ++ l2) ρ' H' K) = fun ρ' H' => OpsL all S l1 ρ' H' fun ρ'' H'' => OpsL all S l2 ρ'' H'' K := by
      funext ρ' H'
      have : ∀ (l1 : List Oper) (ρ : Env) (H : Heap), OpsL all S (l1 ++ l2) ρ H K = OpsL all S l1 ρ H fun ρ' H' => OpsL all S l2 ρ' H' K := by
        intro l1
        induction l1 with
        | nil => intro ρ H; rfl
        | cons o l1 ih =>
          intro ρ H
          simp only [List.cons_append, OpsL]
          congr 1
          funext ρ' H'
          exact ih ρ' H'
      exact this l1 ρ' H'
    rw [e]; exact h

/-- Where blocks are kept: loads of them first, then what leaves them alone. -/
theorem marked_keep {P : Program} {tab : List (Nat × Ct)} {own nomark : List Tmp} (ht : TabOk P tab) {E : En} {ops : Array Oper} {c : Tmp} {C : List Tmp} {st : St} {ρ : Env} {H : Heap} {g : Gh} (s : Sim E st ρ H g) :
    (∀ (i : Nat) (o : AObj), st.σ[i]? = some o → isRo o = true → (markA (pts st.α nomark) 0 st.σ)[i]? = some o) ∧ (markA (pts st.α nomark) 0 st.σ).length = st.σ.length ∧ Sim E ⟨st.α, markA (pts st.α nomark) 0 st.σ⟩ ρ H g ∧
    ∃ bs : List Nat, (∀ b ∈ bs, ∃ o, H b = some o) ∧
      (∀ (l : List Oper) (K1 : St → Prop) (α : Nat → AV) (ρ : Env), Sim E ⟨α, markA (pts st.α nomark) 0 st.σ⟩ ρ H g → POps ops (POpK P (c :: C)) l ⟨α, markA (pts st.α nomark) 0 st.σ⟩ K1 →
          OpsL ops (KeptS P (c :: C) bs H) l ρ H fun ρ' H' => H' = H ∧ ∃ α', Sim E ⟨α', markA (pts st.α nomark) 0 st.σ⟩ ρ' H g ∧ K1 ⟨α', markA (pts st.α nomark) 0 st.σ⟩) ∧
      (∀ {o : Oper} {st2 : St} {ρ2 : Env} {H2 : Heap} {g2 : Gh} {K2 : AV → St → Prop}, Sim E st2 ρ2 H2 g2 → Rel ⟨st.α, markA (pts st.α nomark) 0 st.σ⟩ H g st2 H2 g2 → POpR P tab own (c :: C) (markA (pts st.α nomark) 0 st.σ) o st2 K2 →
          KeptS P (c :: C) bs H o ρ2 H2 fun v H3 => ∃ a st3 g3, Sim E st3 ρ2 H3 g3 ∧ Rel ⟨st.α, markA (pts st.α nomark) 0 st.σ⟩ H g st3 H3 g3 ∧ SimV g3 H3 st3.σ.length a v ∧ K2 a st3) := by
  have hmarkl : (markA (pts st.α nomark) 0 st.σ).length = st.σ.length := markA_length _ _ _
  have hmark : ∀ (i : Nat) (o : AObj), st.σ[i]? = some o → isRo o = true → (markA (pts st.α nomark) 0 st.σ)[i]? = some o := by
    intro i o hi hr
    rw [markA_get, hi]
    simp only [Option.map_some]
    split
    · rfl
    · cases o <;> simp only [isRo] at hr <;> simp [markO, hr]
  have sm : Sim E ⟨st.α, markA (pts st.α nomark) 0 st.σ⟩ ρ H g := s.like (markA_length _ _ _) fun i o hi => by
    rw [markA_get] at hi
    cases h1 : st.σ[i]? with
    | none => rw [h1] at hi; cases hi
    | some o1 =>
      rw [h1] at hi
      simp only [Option.map_some, Option.some.injEq] at hi
      subst hi
      refine ⟨o1, rfl, ?_⟩
      split
      · exact like_self o1
      · exact ⟨(match o1 with | .obj _ _ _ => true | o => flagOf o), by cases o1 <;> rfl⟩
  -- blocks that are kept
  obtain ⟨n0, hn0⟩ := H.fin
  let good : Nat → Prop := fun b => H b ≠ none ∧ (g.Z b ∨ ∃ i T cs, (markA (pts st.α nomark) 0 st.σ)[i]? = some (.obj T true cs) ∧ g.B i = b)
  have hdec : ∃ bs : List Nat, ∀ b, b ∈ bs ↔ (b < n0 ∧ good b) := by
    have : ∀ n, ∃ bs : List Nat, ∀ b, b ∈ bs ↔ (b < n ∧ good b) := by
      intro n
      induction n with
      | zero => exact ⟨[], fun b => by simp⟩
      | succ n ih =>
        obtain ⟨bs, hbs⟩ := ih
        rcases Classical.em (good n) with hg | hg
        · refine ⟨n :: bs, fun b => ?_⟩
          simp only [List.mem_cons, hbs]
          constructor
          · rintro (rfl | ⟨h1, h2⟩)
            · exact ⟨by omega, hg⟩
            · exact ⟨by omega, h2⟩
          · rintro ⟨h1, h2⟩
            by_cases e : b = n
            · exact .inl e
            · exact .inr ⟨by omega, h2⟩
        · refine ⟨bs, fun b => ?_⟩
          rw [hbs]
          constructor
          · rintro ⟨h1, h2⟩; exact ⟨by omega, h2⟩
          · rintro ⟨h1, h2⟩
            have : b ≠ n := fun e => by subst e; exact hg h2
            exact ⟨by omega, h2⟩
    exact this n0
  obtain ⟨bs, hbs⟩ := hdec
  have inbs : ∀ b, good b → b ∈ bs := fun b hb => (hbs b).2 ⟨by
    rcases Nat.lt_or_ge b n0 with h | h
    · exact h
    · exact absurd (hn0 b h) hb.1, hb⟩
  have hlive : ∀ b ∈ bs, ∃ o, H b = some o := fun b hb => by
    have := ((hbs b).1 hb).2.1
    cases hH : H b with
    | none => exact absurd hH this
    | some o => exact ⟨o, rfl⟩
  have kept : ∀ {st' H' g'}, Rel ⟨st.α, markA (pts st.α nomark) 0 st.σ⟩ H g st' H' g' → KeptIn bs H H' := fun {st' H' g'} r b hb => by
    refine ⟨hlive b hb, ?_⟩
    obtain ⟨_, hb2⟩ := (hbs b).1 hb
    rcases hb2.2 with hz | ⟨i, T, cs, hi, rfl⟩
    · exact (r.ext.z b hz).2
    · exact (r.ro i _ hi rfl).2 trivial
  have nK := (rankedKept P (c :: C) bs H).toNice
  -- the first ones leave all as it is
  have first : ∀ (l : List Oper) (K1 : St → Prop) (α : Nat → AV) (ρ : Env), Sim E ⟨α, markA (pts st.α nomark) 0 st.σ⟩ ρ H g → POps ops (POpK P (c :: C)) l ⟨α, markA (pts st.α nomark) 0 st.σ⟩ K1 →
      OpsL ops (KeptS P (c :: C) bs H) l ρ H fun ρ' H' => H' = H ∧ ∃ α', Sim E ⟨α', markA (pts st.α nomark) 0 st.σ⟩ ρ' H g ∧ K1 ⟨α', markA (pts st.α nomark) 0 st.σ⟩ := by
    intro l
    induction l with
    | nil => exact fun K1 α ρ s1 h1 => ⟨rfl, α, s1, h1⟩
    | cons o os ih =>
      intro K1 α ρ s1 h1
      have one : ∀ {α : Nat → AV} {ρ : Env} {K2 : AV → St → Prop}, Sim E ⟨α, markA (pts st.α nomark) 0 st.σ⟩ ρ H g → POpK P (c :: C) o ⟨α, markA (pts st.α nomark) 0 st.σ⟩ K2 → KeptS P (c :: C) bs H o ρ H fun v H' => H' = H ∧ ∃ a, SimV g H (markA (pts st.α nomark) 0 st.σ).length a v ∧ K2 a ⟨α, markA (pts st.α nomark) 0 st.σ⟩ := by
        intro α ρ K2 s2 h2
        unfold POpK at h2
        unfold KeptS
        split at h2
        · rename_i hC
          rw [hC]
          simp only
          split at h2
          · rename_i t a ho
            have ha := evA_sim s2 a
            simp only [ho]
            split at h2
            · rename_i id off hev
              split at h2
              case h_2 => exact h2.elim
              rename_i Tm csm hmk
              rw [hev] at ha
              have ha2 := ha
              simp only [SimV] at ha
              rw [ha.2]
              simp only
              refine ⟨?_, ?_⟩
              · refine inbs _ ?_
                have h3 := h2
                unfold ldP at h3
                simp only at h3
                split at h3
                · rename_i T r cs hio
                  obtain ⟨vs, hb, _⟩ := s2.obj id _ hio
                  have hr : r = true := by
                    rw [hmk] at hio
                    simp only [Option.some.injEq, AObj.obj.injEq] at hio
                    exact hio.2.1.symm
                  subst hr
                  exact ⟨by rw [hb]; simp, .inr ⟨id, T, cs, hio, rfl⟩⟩
                · exact h3.elim
              · refine ldP_sound s2 h2 (by rw [ha.2] at ha2; exact ha2) fun a v hv hk => ⟨by first | rfl | trivial, a, hv, hk⟩
            · rename_i cs hev
              rw [hev] at ha
              have ha2 := ha
              simp only [SimV] at ha
              obtain ⟨b, oo, vs, hv, hz, _⟩ := ha
              rw [hv]
              simp only
              refine ⟨inbs _ ⟨s2.zlive b hz, .inl hz⟩, ?_⟩
              exact ldP_sound s2 h2 (by rw [hv] at ha2; exact ha2) fun a v hv hk => ⟨by first | rfl | trivial, a, hv, hk⟩
            · exact h2.elim
          · exact h2.elim
        · rename_i hC
          rw [hC]
          simp only
          have := PPure_sound s2 h2 (K := fun v H' => H' = H ∧ ∃ a, SimV g H (markA (pts st.α nomark) 0 st.σ).length a v ∧ K2 a ⟨α, markA (pts st.α nomark) 0 st.σ⟩) fun a v hv hk => ⟨rfl, a, hv, hk⟩
          split
          · exact OpW.mono (fun v H' hv => ⟨by rw [hv.1]; exact fun b hb => ⟨hlive b hb, rfl⟩, hv⟩) this
          · exact this
      -- under its guard
      have fin : ∀ {ρ' : Env} {α' : Nat → AV}, Sim E ⟨α', markA (pts st.α nomark) 0 st.σ⟩ ρ' H g → POps ops (POpK P (c :: C)) os ⟨α', markA (pts st.α nomark) 0 st.σ⟩ K1 → OpsL ops (KeptS P (c :: C) bs H) os ρ' H fun ρ' H' => H' = H ∧ ∃ α', Sim E ⟨α', markA (pts st.α nomark) 0 st.σ⟩ ρ' H g ∧ K1 ⟨α', markA (pts st.α nomark) 0 st.σ⟩ :=
        fun {ρ' α'} s' h' => ih K1 α' ρ' s' h'
      simp only [POps, OpsL] at h1 ⊢
      unfold PG at h1
      unfold OpG
      have run : ∀ {α : Nat → AV} {ρ : Env}, Sim E ⟨α, markA (pts st.α nomark) 0 st.σ⟩ ρ H g → POpK P (c :: C) o ⟨α, markA (pts st.α nomark) 0 st.σ⟩ (fun a st' => POps ops (POpK P (c :: C)) os (st'.put o.dst a) K1) →
          KeptS P (c :: C) bs H o ρ H fun v H' => OpsL ops (KeptS P (c :: C) bs H) os (put ρ o.dst v) H' fun ρ' H' => H' = H ∧ ∃ α', Sim E ⟨α', markA (pts st.α nomark) 0 st.σ⟩ ρ' H g ∧ K1 ⟨α', markA (pts st.α nomark) 0 st.σ⟩ := by
        intro α ρ s2 h2
        refine nK.mono _ _ _ _ _ (fun v H' hv => ?_) (one s2 h2)
        obtain ⟨rfl, a, hva, hk⟩ := hv
        exact fin (α' := putA α o.dst a) (s2.put o.dst hva) hk
      split at h1
      · rename_i hg
        rw [hg]; exact run s1 h1
      · rename_i j want hg
        rw [hg]
        simp only
        split at h1
        · rename_i d hd
          rw [hd]
          simp only
          split at h1
          · rename_i b hb
            have hρ := s1.tmp d
            have hρ2 : SimV g H (markA (pts st.α nomark) 0 st.σ).length (α d) (ρ d) := hρ
            have hb2 : α d = .bool b := hb
            rw [hb2] at hρ2
            simp only [SimV] at hρ2
            rw [hρ2]
            simp only
            refine IfB.mono h1 (fun h2 => ?_) (fun h2 => ?_)
            · have s3 := s1.put (some d) (a := .bool true) (v := .bool true) (by simp only [SimV])
              cases want with
              | true => exact run s3 h2
              | false => exact fin (s3.put o.dst (a := .raw undef) (v := undef) (by simp only [SimV])) h2
            · have s3 := s1.put (some d) (a := .bool false) (v := .bool false) (by simp only [SimV])
              cases want with
              | false => exact run s3 h2
              | true => exact fin (s3.put o.dst (a := .raw undef) (v := undef) (by simp only [SimV])) h2
          · rename_i u hu
            have hρ := s1.tmp d
            have hρ2 : SimV g H (markA (pts st.α nomark) 0 st.σ).length (α d) (ρ d) := hρ
            have hu2 : α d = .raw u := hu
            rw [hu2] at hρ2
            simp only [SimV] at hρ2
            rw [hρ2]
            split at h1
            · rename_i hun
              have fin2 := fin (s1.put o.dst (a := .raw undef) (v := undef) (by simp only [SimV])) h1
              cases u <;> simp only [isUndef] at hun <;> first | (cases hun; done) | exact fin2
            · exact h1.elim
          · exact h1.elim
        · exact h1.elim
  refine ⟨hmark, hmarkl, sm, bs, hlive, first, ?_⟩
  intro o st2 ρ2 H2 g2 K2 s2 r2 h2
  unfold POpR at h2
  unfold KeptS
  split at h2
  · rename_i hC
    rw [hC]
    simp only
    split at h2
    case h_2 => exact h2.elim
    rename_i t a ho
    have ha := evA_sim s2 a
    simp only [ho]
    split at h2
    case h_2 => exact h2.elim
    rename_i id off hev
    split at h2
    case h_2 => exact h2.elim
    rename_i Tm csm hmk
    rw [hev] at ha
    have ha2 := ha
    simp only [SimV] at ha
    rw [ha.2]
    simp only
    obtain ⟨h5, h6⟩ := r2.ro id _ hmk rfl
    have hB : g2.B id = g.B id := r2.ext.b id (get_lt hmk)
    have hsame : H2 (g.B id) = H (g.B id) := h6 trivial
    refine ⟨?_, ?_⟩
    · obtain ⟨vs, hb, _⟩ := sm.obj id _ hmk
      rw [hB]
      exact inbs _ ⟨by rw [hb]; simp, .inr ⟨id, Tm, csm, hmk, rfl⟩⟩
    · have L := ldP_sound (K := fun v H' => H' = H2 ∧ ∃ a, SimV g2 H2 st2.σ.length a v ∧ K2 a st2) s2 h2 (by rw [ha.2] at ha2; exact ha2) fun a v hv hk => ⟨rfl, a, hv, hk⟩
      obtain ⟨v, ⟨_, a', hv, hk⟩, hr⟩ := LoadW.read L
      refine hr H _ (fun q hq p hp v hv => ?_) ⟨a', st2, g2, s2, r2, hv, hk⟩
      have hq2 : p.block = g.B id := by
        rw [hp]
        cases hq
        exact hB
      unfold Heap.cell at hv ⊢
      rw [hq2] at hv ⊢
      rw [hsame] at hv
      exact hv
  · rename_i hC
    rw [hC]
    simp only
    have := OpW.mono (K' := fun v H3 => ∃ a st3 g3, Sim E st3 ρ2 H3 g3 ∧ Rel ⟨st.α, markA (pts st.α nomark) 0 st.σ⟩ H g st3 H3 g3 ∧ SimV g3 H3 st3.σ.length a v ∧ K2 a st3) (fun v H3 hv => by
      obtain ⟨a, st3, g3, q1, q2, q3, _, q5⟩ := hv
      exact ⟨a, st3, g3, q1, r2.trans q2, q3, q5⟩) (POp_sound ht s2 h2)
    split
    · refine OpW.mono (fun v H3 hv => ⟨?_, hv⟩) this
      obtain ⟨a, st3, g3, q1, q2, _⟩ := hv
      exact kept q2
    · exact this

theorem OpsT.append {all : Array Oper} {S : Oper → Env → Heap → (Value → Heap → Prop) → Prop} (N : Nice S) {a : Nat} {post Y : List Nat} {K : Env → Heap → Prop} : ∀ (l1 l2 : List Nat) (_ : ∀ h ∈ l1, memB h Y = false) (ρ : Env) (H : Heap), OpsL all S (opsAt all l1) ρ H (fun ρ' H' => OpsT all S a post Y K l2 ρ' H') → OpsT all S a post Y K (l1 ++ l2) ρ H
  | [], _, _, _, _, h => h
  | x :: l1, l2, hy, ρ, H, h => by
    simp only [List.cons_append]
    unfold OpsT
    rw [hy x List.mem_cons_self]
    simp only
    have e : opsAt all (x :: l1) = opsAt all [x] ++ opsAt all l1 := by rw [← opsAt_app]; rfl
    rw [e] at h
    have : ∀ (la : List Oper) (ρ : Env) (H : Heap), OpsL all S (la ++ opsAt all l1) ρ H (fun ρ' H' => OpsT all S a post Y K l2 ρ' H') → OpsL all S la ρ H fun ρ' H' => OpsT all S a post Y K (l1 ++ l2) ρ' H' := by
      intro la
      induction la with
      | nil => exact fun ρ H h => OpsT.append N l1 l2 (fun h hh => hy h (List.mem_cons_of_mem _ hh)) ρ H h
      | cons o la ih => exact fun ρ H h => OpG.mono N (fun ρ' H' h => ih ρ' H' h) h
    exact this _ ρ H h
/-- The tree, in the model. -/
theorem PTs_sound {E : En} {all : Array Oper} {S : Oper → St → (AV → St → Prop) → Prop} {S' : Oper → Env → Heap → (Value → Heap → Prop) → Prop} (N : Nice S') {st0 : St} {H0 : Heap} {g0 : Gh} {K : St → Prop} {a : Nat} {post Y : List Nat}
    (hS : ∀ {o : Oper} {st : St} {ρ : Env} {H : Heap} {g : Gh} {K : AV → St → Prop}, Sim E st ρ H g → Rel st0 H0 g0 st H g → S o st K → S' o ρ H fun v H' => ∃ a st' g', Sim E st' ρ H' g' ∧ Rel st0 H0 g0 st' H' g' ∧ SimV g' H' st'.σ.length a v ∧ K a st') :
    ∀ (pre : List Nat) {st : St} {ρ : Env} {H : Heap} {g : Gh}, Sim E st ρ H g → Rel st0 H0 g0 st H g → PTs all S a post Y K pre st → OpsT all S' a post Y (fun ρ' H' => ∃ st' g', Sim E st' ρ' H' g' ∧ Rel st0 H0 g0 st' H' g' ∧ K st') pre ρ H
  | [], st, ρ, H, g, s, r, h => POps_sound N hS _ st ρ H g s r h
  | x :: t, st, ρ, H, g, s, r, h => by
    unfold PTs at h
    unfold OpsT
    have go : POps all S (opsAt all [x]) st (fun st' => PTs all S a post Y K t st') → OpsL all S' (opsAt all [x]) ρ H fun ρ' H' => OpsT all S' a post Y (fun ρ' H' => ∃ st' g', Sim E st' ρ' H' g' ∧ Rel st0 H0 g0 st' H' g' ∧ K st') t ρ' H' := fun h =>
      OpsL.mono N (fun ρ' H' hk => by
        obtain ⟨st', g', s', r', hk⟩ := hk
        exact PTs_sound N hS t s' r' hk) _ _ _ (POps_sound N hS _ st ρ H g s r h)
    split at h
    · rename_i hm
      rw [hm]
      exact ⟨POps_sound N hS _ st ρ H g s r h.1, go h.2⟩
    · rename_i hm
      rw [hm]
      exact go h

theorem PReg_sound {P : Program} {tab : List (Nat × Ct)} {own nomark : List Tmp} (ht : TabOk P tab) {regs : List (Nat × List Nat × List Tmp)} {loops : List (Nat × List Tmp × List Kind × List Tmp)} {unr : List (Nat × Nat)} {trees : List (Nat × Tree)} {E : En} {id : Nat} {ops : Array Oper} {draw : Bool} {st : St} {ρ : Env} {H : Heap} {g : Gh} (s : Sim E st ρ H g) {K : St → Prop}
    (h : PReg P tab own nomark regs trees id ops draw st K) : CodeW P ⟨regs, loops, unr, trees⟩ (.region id ops draw) ρ H fun e ρ' H' => e = .normal ∧ Lp E st H g K ρ' H' := by
  have main : ∀ (l : List Oper) (K' : Env → Heap → Prop), POps ops (POp P tab own) l st K → (∀ ρ' H', Lp E st H g K ρ' H' → K' ρ' H') → OpsL ops (OpW P) l ρ H K' := by
    intro l K' h hk
    refine OpsL.mono (niceOp P) hk _ _ _ ?_
    refine POps_sound (niceOp P) (fun {o st1 ρ1 H1 g1 K1} s1 r1 h1 => ?_) l st ρ H g s (.refl _ _ _) h
    refine OpW.mono (fun v H' hv => ?_) (POp_sound ht s1 h1)
    obtain ⟨a, st', g', q1, q2, q3, q4, q5⟩ := hv
    exact ⟨a, st', g', q1, r1.trans q2, q3, q5⟩
  unfold PReg at h
  simp only [CodeW]
  split at h
  · exact main _ _ h fun _ _ h => ⟨trivial, h⟩
  · unfold DrawW
    simp only
    split at h
    · rename_i t htr
      rw [htr]
      simp only
      have stepP : ∀ {o : Oper} {st1 : St} {ρ1 : Env} {H1 : Heap} {g1 : Gh} {K1 : AV → St → Prop}, Sim E st1 ρ1 H1 g1 → Rel st H g st1 H1 g1 → POp P tab own o st1 K1 → OpW P o ρ1 H1 fun v H' => ∃ a st' g', Sim E st' ρ1 H' g' ∧ Rel st H g st' H' g' ∧ SimV g' H' st'.σ.length a v ∧ K1 a st' := fun {o st1 ρ1 H1 g1 K1} s1 r1 h1 => by
        refine OpW.mono (fun v H' hv => ?_) (POp_sound ht s1 h1)
        obtain ⟨a, st', g', q1, q2, q3, q4, q5⟩ := hv
        exact ⟨a, st', g', q1, r1.trans q2, q3, q5⟩
      have hY : ∀ {b : Bool}, (t.pre0.all fun h => !(memB h t.Y)) = b → b = true → ∀ h ∈ t.pre0, memB h t.Y = false := fun e e2 h hh => by
        rw [e2] at e
        have := List.all_eq_true.1 e h hh
        simpa using this
      split at h
      · rename_i hC hY0
        rw [hC]
        simp only
        refine OpsT.mono (K := fun ρ2 H2 => ∃ st2 g2, Sim E st2 ρ2 H2 g2 ∧ Rel st H g st2 H2 g2 ∧ POps ops (POp P tab own) (opsAt ops t.zs) st2 K) (niceOp P) (fun ρ2 H2 hk => ?_) _ _ _ (OpsT.append (niceOp P) t.pre0 t.pre1 (hY hY0 rfl) ρ H (OpsL.mono (niceOp P) (fun ρ1 H1 hk => ?_) _ _ _ (POps_sound (niceOp P) stepP _ st ρ H g s (.refl _ _ _) h)))
        · obtain ⟨st2, g2, s2, r2, h2⟩ := hk
          exact OpsL.mono (niceOp P) (fun ρ3 H3 hk => ⟨trivial, hk⟩) _ _ _ (POps_sound (niceOp P) stepP _ st2 ρ2 H2 g2 s2 r2 h2)
        · obtain ⟨st1, g1, s1, r1, h1⟩ := hk
          exact PTs_sound (niceOp P) stepP _ s1 r1 h1
      · rename_i c C hC hY0
        rw [hC]
        simp only
        obtain ⟨hmark, hmarkl, sm, bs, hlive, first, stepR⟩ := marked_keep (own := own) (nomark := nomark) (ops := ops) (c := c) (C := C) ht s
        have nK := (rankedKept P (c :: C) bs H).toNice
        refine ⟨bs, hlive, ?_⟩
        refine OpsT.mono (K := fun ρ2 H2 => ∃ st2 g2, Sim E st2 ρ2 H2 g2 ∧ Rel ⟨st.α, markA (pts st.α nomark) 0 st.σ⟩ H g st2 H2 g2 ∧ POps ops (POp P tab own) (opsAt ops t.zs) ⟨st2.α, unmark st.σ st2.σ⟩ K) nK (fun ρ2 H2 hk => ?_) _ _ _ (OpsT.append nK t.pre0 t.pre1 (hY hY0 rfl) ρ H (OpsL.mono nK (fun ρ1 H1 hk => ?_) _ _ _ (first _ _ _ _ sm h)))
        · obtain ⟨st2, g2, s2, r2, h2⟩ := hk
          exact OpsL.mono (niceOp P) (fun ρ3 H3 hk => ⟨trivial, hk⟩) _ _ _ (POps_sound (niceOp P) stepP _ _ ρ2 H2 g2 (s2.unmark st.σ) (r2.unmark hmark hmarkl) h2)
        · obtain ⟨rfl, α', s1, h1⟩ := hk
          exact PTs_sound nK (fun {o st2 ρ2 H2 g2 K2} s2 r2 h2 => stepR s2 r2 h2) _ s1 ⟨Nat.le_refl _, .refl _ _ _, fun id o ho hr => ⟨ho, fun _ => rfl⟩⟩ h1
      · exact h.elim
    rename_i htr
    rw [htr]
    simp only
    split at h
    · rename_i hp'
      rw [hp']
      exact main _ _ h fun _ _ h => ⟨trivial, h⟩
    · rename_i l hp'
      rw [hp']
      exact main _ _ h fun _ _ h => ⟨trivial, h⟩
    · rename_i l c C hp'
      rw [hp']
      split at h
      · exact h.elim
      rename_i hmk2
      simp only [hmk2]
      obtain ⟨hmark, hmarkl, sm, bs, hlive, first, stepR⟩ := marked_keep (own := own) (nomark := nomark) (ops := ops) (c := c) (C := C) ht s
      have nK := (rankedKept P (c :: C) bs H).toNice
      refine ⟨bs, hlive, ?_⟩
      have split : opsAt ops (l.take (headN ops l)) = (opsAt ops (l.take (headN ops l))).take (lastF (c :: C) (opsAt ops (l.take (headN ops l)))) ++ (opsAt ops (l.take (headN ops l))).drop (lastF (c :: C) (opsAt ops (l.take (headN ops l)))) := (List.take_append_drop _ _).symm
      rw [split]
      refine OpsL.append _ _ _ _ ?_
      refine OpsL.mono nK (fun ρ' H' hk => ?_) _ _ _ (first _ _ _ _ sm h)
      obtain ⟨rfl, α', s1, h1⟩ := hk
      have rest := POps_sound (all := ops) nK (st0 := ⟨st.α, markA (pts st.α nomark) 0 st.σ⟩) (H0 := H') (g0 := g) (S := POpR P tab own (c :: C) (markA (pts st.α nomark) 0 st.σ)) (S' := KeptS P (c :: C) bs H') (K := fun st2 => POps ops (POp P tab own) (opsAt ops (l.drop (headN ops l))) ⟨st2.α, unmark st.σ st2.σ⟩ K)
        (fun {o st2 ρ2 H2 g2 K2} s2 r2 h2 => stepR s2 r2 h2)
        _ ⟨α', markA (pts st.α nomark) 0 st.σ⟩ ρ' H' g s1 ⟨Nat.le_refl _, .refl _ _ _, fun id o ho hr => ⟨ho, fun _ => rfl⟩⟩ h1
      refine OpsL.mono nK (fun ρ2 H2 hk => ?_) _ _ _ rest
      obtain ⟨st2, g2, s2, r2, h2⟩ := hk
      refine OpsL.mono (niceOp P) (fun ρ3 H3 hk => ⟨trivial, hk⟩) _ _ _ ?_
      refine POps_sound (niceOp P) (fun {o st1 ρ1 H1 g1 K1} s1 r1 h1 => ?_) _ _ ρ2 H2 g2 (s2.unmark st.σ) (r2.unmark hmark hmarkl) h2
      refine OpW.mono (fun v H' hv => ?_) (POp_sound ht s1 h1)
      obtain ⟨a, st', g', q1, q2, q3, q4, q5⟩ := hv
      exact ⟨a, st', g', q1, r1.trans q2, q3, q5⟩

end Go.Sh
