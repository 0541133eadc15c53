/-
  Rows of operations, in the text's order and in any other that the edges allow.
-/
import Derived.Test.YthojhkhiamomnaaGreatSh5
namespace Go.Sh

/-- The temporaries that an operation looks at. -/
def opTmps (o : Oper) : List Tmp := o.op.operands.toList.filterMap fun x => match x with | .tmp t => some t | _ => none
def gdst (all : Array Oper) (j : Nat) : Option Tmp := match all.toList[j]? with | some o => o.dst | none => none
def looks (all : Array Oper) (o : Oper) : List Tmp := match o.guard with
  | some (j, _) => match gdst all j with
    | some d => d :: opTmps o
    | none => opTmps o
  | none => opTmps o

def wantedE (all : Array Oper) (o : Oper) (ρ : Env) : Bool := match o.guard with
  | none => true
  | some (j, want) => match gdst all j with
    | some d => match ρ d with
      | .bool b => b == want
      | _ => false
    | none => false

/-- One operation under its guard: the semantics S of the operation itself is a parameter. -/
def GW (all : Array Oper) (S : Oper → Env → Heap → (Value → Heap → Prop) → Prop) (o : Oper) (ρ : Env) (H : Heap) (K : Env → Heap → Prop) : Prop :=
  match wantedE all o ρ with
  | true => S o ρ H fun v H' => K (put ρ o.dst v) H'
  | false => K (put ρ o.dst undef) H

def GWs (all : Array Oper) (S : Oper → Env → Heap → (Value → Heap → Prop) → Prop) : List Oper → Env → Heap → (Env → Heap → Prop) → Prop
  | [], ρ, H, K => K ρ H
  | o :: os, ρ, H, K => GW all S o ρ H fun ρ' H' => GWs all S os ρ' H' K

/-- The same, parted at a guard that is not known, for reading. -/
def OpG (all : Array Oper) (S : Oper → Env → Heap → (Value → Heap → Prop) → Prop) (o : Oper) (ρ : Env) (H : Heap) (K : Env → Heap → Prop) : Prop :=
  match o.guard with
  | none => S o ρ H fun v H' => K (put ρ o.dst v) H'
  | some (j, want) => match gdst all j with
    | some d => match ρ d with
      | .bool b => IfB b
          (match want with
            | true => S o (put ρ (some d) (.bool true)) H fun v H' => K (put (put ρ (some d) (.bool true)) o.dst v) H'
            | false => K (put (put ρ (some d) (.bool true)) o.dst undef) H)
          (match want with
            | false => S o (put ρ (some d) (.bool false)) H fun v H' => K (put (put ρ (some d) (.bool false)) o.dst v) H'
            | true => K (put (put ρ (some d) (.bool false)) o.dst undef) H)
      | _ => K (put ρ o.dst undef) H
    | none => K (put ρ o.dst undef) H

def OpsL (all : Array Oper) (S : Oper → Env → Heap → (Value → Heap → Prop) → Prop) : List Oper → Env → Heap → (Env → Heap → Prop) → Prop
  | [], ρ, H, K => K ρ H
  | o :: os, ρ, H, K => OpG all S o ρ H fun ρ' H' => OpsL all S os ρ' H' K

theorem put_same {ρ : Env} {d : Tmp} {v : Value} (h : ρ d = v) : put ρ (some d) v = ρ := by
  funext i
  simp only [put]
  cases hb : Nat.beq i d with
  | false => rfl
  | true => rw [Nat.eq_of_beq_eq_true hb, h]

theorem OpG.plain {all : Array Oper} {S : Oper → Env → Heap → (Value → Heap → Prop) → Prop} {o : Oper} {ρ : Env} {H : Heap} {K : Env → Heap → Prop} (h : OpG all S o ρ H K) : GW all S o ρ H K := by
  unfold OpG at h
  unfold GW wantedE
  cases hg : o.guard with
  | none => rw [hg] at h; exact h
  | some g =>
    obtain ⟨j, want⟩ := g
    rw [hg] at h
    simp only at h ⊢
    cases hd : gdst all j with
    | none => rw [hd] at h; exact h
    | some d =>
      rw [hd] at h
      simp only at h ⊢
      cases hr : ρ d <;> rw [hr] at h <;> simp only at h ⊢ <;> try exact h
      rename_i b
      rcases IfB.elim h with ⟨rfl, h⟩ | ⟨rfl, h⟩
      · rw [put_same hr] at h
        cases want <;> exact h
      · rw [put_same hr] at h
        cases want <;> exact h

/-- The parameter's laws. -/
structure Nice (S : Oper → Env → Heap → (Value → Heap → Prop) → Prop) : Prop where
  mono : ∀ o ρ H K K', (∀ v H', K v H' → K' v H') → S o ρ H K → S o ρ H K'
  congr : ∀ o ρ ρ' H K, (∀ t ∈ opTmps o, ρ t = ρ' t) → S o ρ H K → S o ρ' H K

theorem GW.mono {all : Array Oper} {S} (N : Nice S) {o : Oper} {ρ : Env} {H : Heap} {K K' : Env → Heap → Prop} (hk : ∀ ρ H, K ρ H → K' ρ H) (h : GW all S o ρ H K) : GW all S o ρ H K' := by
  unfold GW at *
  split at h
  · exact N.mono _ _ _ _ _ (fun _ _ h => hk _ _ h) h
  · exact hk _ _ h

theorem GWs.mono {all : Array Oper} {S} (N : Nice S) {K K' : Env → Heap → Prop} (hk : ∀ ρ H, K ρ H → K' ρ H) : ∀ (l : List Oper) (ρ : Env) (H : Heap), GWs all S l ρ H K → GWs all S l ρ H K' := by
  intro l
  induction l with
  | nil => exact fun ρ H h => hk _ _ h
  | cons o os ih => exact fun ρ H h => GW.mono N (fun ρ H h => ih ρ H h) h

theorem OpsL.plain {all : Array Oper} {S} (N : Nice S) {K : Env → Heap → Prop} : ∀ (l : List Oper) (ρ : Env) (H : Heap), OpsL all S l ρ H K → GWs all S l ρ H K := by
  intro l
  induction l with
  | nil => exact fun ρ H h => h
  | cons o os ih => exact fun ρ H h => GW.mono N (fun ρ H h => ih ρ H h) (OpG.plain h)

/-- Two operations that can change places: the second one may come first. -/
def Swaps (S : Oper → Env → Heap → (Value → Heap → Prop) → Prop) (x y : Oper) : Prop :=
  ∀ (ρ : Env) (H : Heap) (K : Value → Value → Heap → Prop), S x ρ H (fun v H1 => S y ρ H1 (fun u H2 => K v u H2)) → S y ρ H (fun u H1 => S x ρ H1 (fun v H2 => K v u H2))

def apartB (all : Array Oper) (x y : Oper) : Bool :=
  (match x.dst with
   | some d => !(looks all y).contains d && !(match y.dst with | some e => Nat.beq e d | none => false)
   | none => true) &&
  (match y.dst with
   | some d => !(looks all x).contains d
   | none => true)

theorem put_get {ρ : Env} {d : Option Tmp} {v : Value} {t : Tmp} (h : ∀ e, d = some e → e ≠ t) : put ρ d v t = ρ t := by
  cases d with
  | none => rfl
  | some d =>
    simp only [put]
    have : Nat.beq t d = false := by
      cases hb : Nat.beq t d with
      | false => rfl
      | true => exact absurd (Nat.eq_of_beq_eq_true hb).symm (h d rfl)
    rw [this]

theorem put_comm {ρ : Env} {x y : Option Tmp} {v u : Value} (h : ∀ d, x = some d → y ≠ some d) : put (put ρ x v) y u = put (put ρ y u) x v := by
  cases x with
  | none => rfl
  | some d =>
    cases y with
    | none => rfl
    | some e =>
      have hne : e ≠ d := fun he => h d rfl (by rw [he])
      funext i
      simp only [put]
      cases h1 : Nat.beq i e with
      | false => rfl
      | true =>
        have hie := Nat.eq_of_beq_eq_true h1
        have : Nat.beq i d = false := by
          cases hb : Nat.beq i d with
          | false => rfl
          | true => exact absurd (hie.symm.trans (Nat.eq_of_beq_eq_true hb)) hne
        rw [this]

theorem apart_elim {all : Array Oper} {x y : Oper} (h : apartB all x y = true) :
    (∀ d, x.dst = some d → d ∉ looks all y) ∧ (∀ d, x.dst = some d → y.dst ≠ some d) ∧ (∀ d, y.dst = some d → d ∉ looks all x) := by
  simp only [apartB, Bool.and_eq_true] at h
  obtain ⟨h1, h2⟩ := h
  refine ⟨fun d hd => ?_, fun d hd he => ?_, fun d hd => ?_⟩
  · rw [hd] at h1; simp only [Bool.and_eq_true] at h1; simpa using h1.1
  · rw [hd, he] at h1
    simp only [Bool.and_eq_true] at h1
    have := h1.2
    simp at this
  · rw [hd] at h2; simpa using h2

theorem opTmps_looks {all : Array Oper} {o : Oper} {t : Tmp} (h : t ∈ opTmps o) : t ∈ looks all o := by
  unfold looks
  split
  · split
    · exact List.mem_cons_of_mem _ h
    · exact h
  · exact h

theorem wanted_put {all : Array Oper} {o : Oper} {ρ : Env} {d : Option Tmp} {v : Value} (h : ∀ e, d = some e → e ∉ looks all o) : wantedE all o (put ρ d v) = wantedE all o ρ := by
  unfold wantedE
  unfold looks at h
  cases hg : o.guard with
  | none => rfl
  | some g =>
    obtain ⟨j, want⟩ := g
    rw [hg] at h
    simp only at h ⊢
    cases hd : gdst all j with
    | none => rfl
    | some e =>
      rw [hd] at h
      simp only at h ⊢
      rw [put_get (fun e' he' => fun heq => h e' he' (by rw [heq]; exact List.mem_cons_self))]

theorem GW.swap {all : Array Oper} {S} (N : Nice S) {x y : Oper} (ha : apartB all x y = true) (hs : Swaps S x y) {ρ : Env} {H : Heap} {K : Env → Heap → Prop}
    (h : GW all S x ρ H fun ρ' H' => GW all S y ρ' H' K) : GW all S y ρ H fun ρ' H' => GW all S x ρ' H' K := by
  obtain ⟨a1, a2, a3⟩ := apart_elim ha
  have wy : ∀ v, wantedE all y (put ρ x.dst v) = wantedE all y ρ := fun v => wanted_put a1
  have wx : ∀ v, wantedE all x (put ρ y.dst v) = wantedE all x ρ := fun v => wanted_put a3
  have cy : ∀ v H K, S y (put ρ x.dst v) H K → S y ρ H K := fun v H K h => N.congr _ _ _ _ _ (fun t ht => put_get fun e he heq => a1 e he (heq ▸ opTmps_looks ht)) h
  have cx : ∀ v H K, S x ρ H K → S x (put ρ y.dst v) H K := fun v H K h => N.congr _ _ _ _ _ (fun t ht => (put_get fun e he heq => a3 e he (heq ▸ opTmps_looks ht)).symm) h
  have pc : ∀ v u, put (put ρ x.dst v) y.dst u = put (put ρ y.dst u) x.dst v := fun v u => put_comm a2
  unfold GW at h ⊢
  cases hx : wantedE all x ρ with
  | true =>
    rw [hx] at h
    simp only [wy] at h
    cases hy : wantedE all y ρ with
    | true =>
      rw [hy] at h
      simp only at h ⊢
      have h1 : S x ρ H fun v H1 => S y ρ H1 fun u H2 => K (put (put ρ x.dst v) y.dst u) H2 := N.mono _ _ _ _ _ (fun v H1 h => cy v _ _ h) h
      have h2 := hs ρ H (fun v u H2 => K (put (put ρ x.dst v) y.dst u) H2) h1
      refine N.mono _ _ _ _ _ (fun u H1 h => ?_) h2
      rw [wx, hx]
      simp only
      refine cx u _ _ (N.mono _ _ _ _ _ (fun v H2 h => ?_) h)
      rw [← pc]; exact h
    | false =>
      rw [hy] at h
      simp only at h ⊢
      rw [wx, hx]
      simp only
      refine cx _ _ _ (N.mono _ _ _ _ _ (fun v H2 h => ?_) h)
      rw [← pc]; exact h
  | false =>
    rw [hx] at h
    simp only [wy] at h
    cases hy : wantedE all y ρ with
    | true =>
      rw [hy] at h
      simp only at h ⊢
      refine N.mono _ _ _ _ _ (fun u H1 h => ?_) (cy _ _ _ h)
      rw [wx, hx]
      simp only
      rw [← pc]; exact h
    | false =>
      rw [hy] at h
      simp only at h ⊢
      rw [wx, hx]
      simp only
      rw [← pc]; exact h

/-- An operation before which stand only such as can change places with it may come first. -/
theorem GWs.front {all : Array Oper} {S} (N : Nice S) {y : Oper} {K : Env → Heap → Prop} (l2 : List Oper) : ∀ (l1 : List Oper), (∀ x ∈ l1, apartB all x y = true ∧ Swaps S x y) → ∀ (ρ : Env) (H : Heap),
    GWs all S (l1 ++ y :: l2) ρ H K → GWs all S (y :: (l1 ++ l2)) ρ H K := by
  intro l1
  induction l1 with
  | nil => exact fun _ ρ H h => h
  | cons x l1 ih =>
    intro hl ρ H h
    have h1 : GW all S x ρ H fun ρ' H' => GW all S y ρ' H' fun ρ'' H'' => GWs all S (l1 ++ l2) ρ'' H'' K :=
      GW.mono N (fun ρ' H' h => ih (fun x hx => hl x (List.mem_cons_of_mem _ hx)) ρ' H' h) h
    exact GW.swap N (hl x List.mem_cons_self).1 (hl x List.mem_cons_self).2 h1

/-- What binds in every order. -/
def preds (o : Oper) : List Nat := o.after.toList.filterMap fun e => match Region.binds .any e with | true => some e.on | false => none

/-- For each operation the set (as bits) of those that come before it in every order. -/
def masks : List Oper → List Nat → List Nat
  | [], acc => acc
  | o :: os, acc => masks os (acc ++ [(preds o).foldl (fun s p => s ||| 2 ^ p ||| acc.getD p 0) 0])

/-- From bytes to a string. -/
def isBts (P : Program) (s d : TypeId) : Bool := match P.underlying s, P.underlying d with
  | some (.slice e), some .string => (match P.underlying e with | some (.int .u8) => true | _ => false)
  | _, _ => false
def rank (P : Program) (o : Oper) : Nat := match o.op with
  | .move _ | .assign _ | .pick _ _ _ | .nilCheck _ | .indexAddr _ _ _ | .index _ _ _ | .slice _ _ _ _ _ | .build _ _ | .fieldAddr _ _ _ | .field _ _ _ | .extract _ _ | .binOp _ _ _ _ _ | .unOp _ _ _ | .sliceToArrayPointer _ _ => 0
  | .load t _ => match szOf P t with | some (_ + 1) => 1 | _ => 4
  | .alloc _ | .box _ _ | .buildSlice _ _ _ | .makeSlice _ _ _ | .makeMap _ none => 2
  | .convert s d _ => match isIntT P s with | true => 0 | false => match isBts P s d with | true => 5 | false => 3
  | .store _ _ _ => 3
  | .call c => match c.callee with
    | .builtin .len => (match isMapT P c.argTypes.toList[0]? with | false => 0 | true => 4)
    | .builtin .cap | .builtin .min | .builtin .max => 0
    | .builtin .append | .builtin .copy => 3
    | _ => 4
  | _ => 4

end Go.Sh
