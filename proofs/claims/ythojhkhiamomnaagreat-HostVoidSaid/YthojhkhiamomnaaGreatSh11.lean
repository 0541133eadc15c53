/-
  Code, loops, functions.
-/
import Derived.Test.YthojhkhiamomnaaGreatSh10c
import Derived.Scope
import Derived.ScopeJumps
namespace Go.Sh

/-- What a temporary may hold at a loop's head. -/
inductive Kind where
  | int (k : IntKind) | bool | str | ptr | slice | any

def Tup : List Kind → Type
  | [] => Unit
  | .int _ :: ks => Int × Tup ks
  | .bool :: ks => Bool × Tup ks
  | .str :: ks => ByteArray × Tup ks
  | .ptr :: ks => Option Addr × Tup ks
  | .slice :: ks => (Option Addr × Nat × Nat) × Tup ks
  | .any :: ks => Value × Tup ks

def enc : (ks : List Kind) → Tup ks → List Value
  | [], _ => []
  | .int k :: ks, x => .int k x.1 :: enc ks x.2
  | .bool :: ks, x => .bool x.1 :: enc ks x.2
  | .str :: ks, x => .string x.1 :: enc ks x.2
  | .ptr :: ks, x => .pointer x.1 :: enc ks x.2
  | .slice :: ks, x => .slice x.1.1 x.1.2.1 x.1.2.2 :: enc ks x.2
  | .any :: ks, x => x.1 :: enc ks x.2

def dec : (ks : List Kind) → List Value → Option (Tup ks)
  | [], [] => some ()
  | .int k :: ks, .int k' n :: vs => match decide (k = k') with
    | true => match dec ks vs with | some x => some (n, x) | none => none
    | false => none
  | .bool :: ks, .bool b :: vs => match dec ks vs with | some x => some (b, x) | none => none
  | .str :: ks, .string b :: vs => match dec ks vs with | some x => some (b, x) | none => none
  | .ptr :: ks, .pointer b :: vs => match dec ks vs with | some x => some (b, x) | none => none
  | .slice :: ks, .slice a n c :: vs => match dec ks vs with | some x => some ((a, n, c), x) | none => none
  | .any :: ks, v :: vs => match dec ks vs with | some x => some (v, x) | none => none
  | _, _ => none

theorem enc_dec : ∀ (ks : List Kind) (vs : List Value) (x : Tup ks), dec ks vs = some x → enc ks x = vs
  | [], vs, x, h => by
    cases vs with
    | nil => rfl
    | cons v vs => simp [dec] at h
  | k :: ks, [], x, h => by cases k <;> simp [dec] at h
  | .int k :: ks, v :: vs, x, h => by
    cases v <;> simp only [dec] at h <;> first | (cases h; done) | skip
    split at h
    · rename_i hk
      split at h
      · rename_i y hy
        cases h
        have := enc_dec ks vs y hy
        simp only [enc, this, of_decide_eq_true hk]
      · cases h
    · cases h
  | .bool :: ks, v :: vs, x, h => by
    cases v <;> simp only [dec] at h <;> first | (cases h; done) | skip
    split at h
    · rename_i y hy; cases h; simp only [enc, enc_dec ks vs y hy]
    · cases h
  | .str :: ks, v :: vs, x, h => by
    cases v <;> simp only [dec] at h <;> first | (cases h; done) | skip
    split at h
    · rename_i y hy; cases h; simp only [enc, enc_dec ks vs y hy]
    · cases h
  | .ptr :: ks, v :: vs, x, h => by
    cases v <;> simp only [dec] at h <;> first | (cases h; done) | skip
    split at h
    · rename_i y hy; cases h; simp only [enc, enc_dec ks vs y hy]
    · cases h
  | .slice :: ks, v :: vs, x, h => by
    cases v <;> simp only [dec] at h <;> first | (cases h; done) | skip
    split at h
    · rename_i y hy; cases h; simp only [enc, enc_dec ks vs y hy]
    · cases h
  | .any :: ks, v :: vs, x, h => by
    simp only [dec] at h
    split at h
    · rename_i y hy; cases h; simp only [enc, enc_dec ks vs y hy]
    · cases h

def bindE : List Tmp → List Value → Env → Env
  | t :: ts, v :: vs, g => put (bindE ts vs g) (some t) v
  | _, _, g => g
def keepE : List Tmp → Env → Env → Env
  | [], _, g => g
  | t :: ts, ρ, g => put (keepE ts ρ g) (some t) (ρ t)

theorem bindE_same : ∀ (ts : List Tmp) (vs : List Value) (ρ : Env), ts.map ρ = vs → bindE ts vs ρ = ρ
  | [], _, ρ, _ => rfl
  | t :: ts, [], ρ, h => by simp at h
  | t :: ts, v :: vs, ρ, h => by
    simp only [List.map_cons, List.cons.injEq] at h
    rw [bindE, bindE_same ts vs ρ h.2]
    exact put_same h.1
theorem keepE_same : ∀ (ts : List Tmp) (ρ0 ρ : Env), (∀ f ∈ ts, ρ f = ρ0 f) → keepE ts ρ0 ρ = ρ
  | [], _, _, _ => rfl
  | t :: ts, ρ0, ρ, h => by
    rw [keepE, keepE_same ts ρ0 ρ (fun f hf => h f (List.mem_cons_of_mem _ hf))]
    exact put_same (h t List.mem_cons_self)

/-- A region with a new block that stands in no order with calls. -/
structure Tree where
  a : Nat
  pre0 : List Nat
  pre1 : List Nat
  post : List Nat
  zs : List Nat
  Y : List Nat
def treeOf (id : Nat) : List (Nat × Tree) → Option Tree
  | [] => none
  | (k, r) :: l => match Nat.beq id k with | true => some r | false => treeOf id l

/-- For some regions an order that stands for all, and the loads that are done of kept blocks; for each loop (named by the first region in it) what its rounds hand on, and what they leave alone. -/
structure Plan where
  regs : List (Nat × List Nat × List Tmp)
  loops : List (Nat × List Tmp × List Kind × List Tmp)
  unr : List (Nat × Nat)
  trees : List (Nat × Tree)

def planOf (id : Nat) : List (Nat × List Nat × List Tmp) → Option (List Nat × List Tmp)
  | [] => none
  | (k, r) :: l => match Nat.beq id k with | true => some r | false => planOf id l
def loopOf (id : Nat) : List (Nat × List Tmp × List Kind × List Tmp) → Option (List Tmp × List Kind × List Tmp)
  | [] => none
  | (k, r) :: l => match Nat.beq id k with | true => some r | false => loopOf id l
def firstRegion : Code → Nat
  | .region id _ _ => id
  | .seq a _ => firstRegion a
  | .block _ c => firstRegion c
  | .loop c => firstRegion c
  | _ => 1000000

def OpsT (all : Array Oper) (S : Oper → Env → Heap → (Value → Heap → Prop) → Prop) (a : Nat) (post Y : List Nat) (K : Env → Heap → Prop) : List Nat → Env → Heap → Prop
  | [], ρ, H => OpsL all S (opsAt all (a :: post)) ρ H K
  | h :: t, ρ, H => match memB h Y with
    | true => OpsL all S (opsAt all (a :: h :: (t ++ post))) ρ H K ∧ OpsL all S (opsAt all [h]) ρ H fun ρ' H' => OpsT all S a post Y K t ρ' H'
    | false => OpsL all S (opsAt all [h]) ρ H fun ρ' H' => OpsT all S a post Y K t ρ' H'
def planC (id : Nat) (regs : List (Nat × List Nat × List Tmp)) : List Tmp := match planOf id regs with
  | some (_, C) => C
  | none => []

def DrawW (P : Program) (plan : Plan) (id : Nat) (ops : Array Oper) (ρ : Env) (H : Heap) (K : Env → Heap → Prop) : Prop :=
  match treeOf id plan.trees with
  | some t => (match planC id plan.regs with
    | [] => OpsT ops (OpW P) t.a t.post t.Y (fun ρ' H' => OpsL ops (OpW P) (opsAt ops t.zs) ρ' H' K) (t.pre0 ++ t.pre1) ρ H
    | c :: C => ∃ bs : List Nat, (∀ b ∈ bs, ∃ o, H b = some o) ∧ OpsT ops (KeptS P (c :: C) bs H) t.a t.post t.Y (fun ρ' H' => OpsL ops (OpW P) (opsAt ops t.zs) ρ' H' K) (t.pre0 ++ t.pre1) ρ H)
  | none =>
  match planOf id plan.regs with
  | none => OpsL ops (OpW P) ops.toList ρ H K
  | some (l, []) => OpsL ops (OpW P) (opsAt ops l) ρ H K
  | some (l, c :: C) => match Nat.beq c lateMk with
    | true => ∃ bs : List Nat, (∀ b ∈ bs, ∃ o, H b = some o) ∧ OpsL ops (KeptL P C bs H) (opsAt ops l) ρ H K
    | false => ∃ bs : List Nat, (∀ b ∈ bs, ∃ o, H b = some o) ∧ OpsL ops (KeptS P (c :: C) bs H) (opsAt ops (l.take (headN ops l))) ρ H fun ρ' H' => OpsL ops (OpW P) (opsAt ops (l.drop (headN ops l))) ρ' H' K

abbrev Post := Exit → Env → Heap → Prop

def thenK (K : Env → Heap → Prop) (Q : Post) : Post := fun e ρ H => match e with
  | .normal => K ρ H
  | e => Q e ρ H
def blockK (id : Nat) (Q : Post) : Post := fun e ρ H => match e with
  | .exit i => match Nat.beq i id with | true => Q .normal ρ H | false => Q (.exit i) ρ H
  | e => Q e ρ H

/-- A loop: what holds at the head of each round, which goes down. -/
def LoopI (T : Type) (x0 : T) (H : Heap) (body : T → Heap → (T → Heap → Prop) → Prop) : Prop :=
  ∃ (I : Nat → T → Heap → Prop) (k : Nat), I k x0 H ∧ ∀ k x H, I k x H → body x H fun x' H' => ∃ k', k' < k ∧ I k' x' H'

/-! ### Labels -/
def hasLbl : Code → Nat → Bool
  | .seq a b, l => hasLbl a l || hasLbl b l
  | .label l', l => Nat.beq l' l
  | _, _ => false
def nLbl : Code → Nat
  | .seq a b => nLbl a + nLbl b
  | .label _ => 1
  | _ => 0
def lblKey (l : Nat) : Nat := 2000000 + l
def fstLbl : Code → Option Nat
  | .seq a b => match fstLbl a with
    | some l => some l
    | none => fstLbl b
  | .label l => some l
  | _ => none
def unrOf (id : Nat) : List (Nat × Nat) → Option Nat
  | [] => none
  | (k, r) :: l => match Nat.beq id k with | true => some r | false => unrOf id l
/-- How many jumps there may be in a scope. -/
def scopeN (plan : Plan) (c : Code) : Nat := match fstLbl c with
  | some l => (match unrOf (lblKey l) plan.unr with
    | some n => n
    | none => nLbl c)
  | none => nLbl c
/-- The first label of a scope that is a loop's head. -/
def loopLbl (plan : Plan) : Code → Option Nat
  | .seq a b => match loopLbl plan a with
    | some l => some l
    | none => loopLbl plan b
  | .label l => match loopOf (lblKey l) plan.loops with
    | some _ => some l
    | none => none
  | _ => none
def isNorm : Exit → Bool
  | .normal => true
  | _ => false
def isGoto (l : Nat) : Exit → Bool
  | .goto l' => Nat.beq l' l
  | _ => false
def nextK (n : Exit → Bool) (K : Env → Heap → Prop) (Q : Post) : Post := fun e ρ H => match n e with
  | true => K ρ H
  | false => Q e ρ H
/-- Jumps on to labels, at most so many. -/
def gotoK (F : Nat → Env → Heap → Post → Prop) (L : Nat → Bool) : Nat → Post → Post
  | 0, Q => fun e ρ H => match e with
    | .goto l => (match L l with
      | true => False
      | false => Q (.goto l) ρ H)
    | e => Q e ρ H
  | n + 1, Q => fun e ρ H => match e with
    | .goto l => (match L l with
      | true => F l ρ H (gotoK F L n Q)
      | false => Q (.goto l) ρ H)
    | e => Q e ρ H
def others (c : Code) (l : Nat) : Nat → Bool := fun l' => hasLbl c l' && !(Nat.beq l' l)
def LoopC (plan : Plan) (key : Nat) (B : Env → Heap → Post → Prop) (nx : Exit → Bool) (ρ : Env) (H : Heap) (Q : Post) : Prop :=
  match loopOf key plan.loops with
  | some (slots, ks, fixed) => match dec ks (slots.map ρ) with
    | some x0 => LoopI (Tup ks) x0 H fun x H next => ∀ g : Env, B (bindE slots (enc ks x) (keepE fixed ρ g)) H
        (nextK nx (fun ρ' H' => match dec ks (slots.map ρ') with | some x' => next x' H' | none => False) Q)
    | none => False
  | none => False

/-- A loop of at most so many rounds, each by itself. -/
def unrollC (B : Env → Heap → Post → Prop) : Nat → Env → Heap → Post → Prop
  | 0, _, _, _ => False
  | n + 1, ρ, H, Q => B ρ H (nextK isNorm (fun ρ' H' => unrollC B n ρ' H' Q) Q)

/-- A frame's temporaries are those of an environment. -/
structure TmpsOf (n : Nat) (ρ : Env) (a : Array Value) : Prop where
  size : a.size = n
  tmp : ∀ t, t < n → a.getD t undef = ρ t
def bindR : List Tmp → List Value → Env → Env
  | t :: ts, v :: vs, ρ => bindR ts vs (put ρ (some t) v)
  | _, _, ρ => ρ
/-- What stands behind a round. -/
def jumpOf : Exit → Option (Option Code)
  | .normal => some none
  | .ret => some (some .ret)
  | .exit i => some (some (.exit i))
  | .goto t => some (some (.goto t))
  | _ => none
def RoundE (l : Nat) (K : Value → Heap → Prop) : Post := fun e _ H => ∃ r, H l = some (.loop r) ∧ (match jumpOf e with
  | some j => K (.bool j.isNone) (H.upd l (.loop { r with state := if j.isNone then .ready else .done, pending := j }))
  | none => False)
/-- A round: the assignments, then the body. -/
def RoundC (l : Nat) (A B : Env → Heap → Post → Prop) (ρ : Env) (H : Heap) (K : Value → Heap → Prop) : Prop :=
  A ρ H fun e ρ1 H1 => match e with
    | .normal => ∃ r, H1 l = some (.loop r) ∧ r.state = .ready ∧ B ρ1 (H1.upd l (.loop { r with state := .busy })) (RoundE l K)
    | _ => False
/-- What stands behind a loop over a function. -/
def EndC (l : Nat) (ρ : Env) (H : Heap) (Q : Post) : Prop := ∃ r, H l = some (.loop r) ∧ r.state ≠ .busy ∧ (match r.pending with
  | none => Q .normal ρ (H.upd l (.loop { r with state := .exhausted }))
  | some .ret => Q .ret ρ (H.upd l (.loop { r with state := .exhausted }))
  | some (.exit i) => Q (.exit i) ρ (H.upd l (.loop { r with state := .exhausted }))
  | some (.goto t) => Q (.goto t) ρ (H.upd l (.loop { r with state := .exhausted }))
  | _ => False)
theorem EndC.mono {l : Nat} {ρ : Env} {H : Heap} {Q Q' : Post} (hq : ∀ e ρ H, Q e ρ H → Q' e ρ H) (h : EndC l ρ H Q) : EndC l ρ H Q' := by
  obtain ⟨r, h1, h2, h3⟩ := h
  refine ⟨r, h1, h2, ?_⟩
  split at h3 <;> first | exact h3.elim | exact hq _ _ _ h3

mutual
def CodeW (P : Program) (plan : Plan) : Code → Env → Heap → Post → Prop
  | .skip, ρ, H, Q => Q .normal ρ H
  | .label _, ρ, H, Q => Q .normal ρ H
  | .region id ops draw, ρ, H, Q => match draw with
    | true => DrawW P plan id ops ρ H fun ρ' H' => Q .normal ρ' H'
    | false => OpsL ops (OpW P) ops.toList ρ H fun ρ' H' => Q .normal ρ' H'
  | .seq a b, ρ, H, Q => CodeW P plan a ρ H (thenK (fun ρ' H' => CodeW P plan b ρ' H' Q) Q)
  | .cond c x y, ρ, H, Q => match ev ρ c with
    | .bool t => IfB t (CodeW P plan x ρ H Q) (CodeW P plan y ρ H Q)
    | _ => False
  | .block id c, ρ, H, Q => CodeW P plan c ρ H (blockK id Q)
  | .loop c, ρ, H, Q => match unrOf (firstRegion c) plan.unr with
    | some n => unrollC (fun ρ H Q => CodeW P plan c ρ H Q) n ρ H Q
    | none => LoopC plan (firstRegion c) (fun ρ H Q => CodeW P plan c ρ H Q) isNorm ρ H Q
  | .scope c, ρ, H, Q => match loopLbl plan c with
    | none => CodeW P plan c ρ H (gotoK (fun l ρ H Q => CodeFr P plan c l ρ H Q) (hasLbl c) (scopeN plan c) Q)
    | some l => CodeBe P plan c l ρ H (nextK isNorm (LoopC plan (lblKey l) (fun ρ H Q => CodeFr P plan c l ρ H (gotoK (fun l ρ H Q => CodeFr P plan c l ρ H Q) (others c l) (nLbl c) Q)) (isGoto l) · · Q)
        (gotoK (fun l ρ H Q => CodeFr P plan c l ρ H Q) (others c l) (nLbl c) (nextK (isGoto l) (LoopC plan (lblKey l) (fun ρ H Q => CodeFr P plan c l ρ H (gotoK (fun l ρ H Q => CodeFr P plan c l ρ H Q) (others c l) (nLbl c) Q)) (isGoto l) · · Q) Q)))
  | .exit id, ρ, H, Q => Q (.exit id) ρ H
  | .goto l, ρ, H, Q => Q (.goto l) ρ H
  | .ret, ρ, H, Q => Q .ret ρ H
  | .rangeFunc g ps assign body, ρ, H, Q => match ev ρ g with
    | .func (.func f) first caps => first = #[] ∧ ∀ (nt d l : Nat) (rec : Loop), H d = none → H l = none → l ≠ d → rec.state = .ready → rec.pending = none → rec.params = ps → rec.assign = assign → rec.body = body → TmpsOf nt ρ rec.tmps →
        (∀ (vs : List Value) (H1 : Heap) (K : Value → Heap → Prop), vs.length = ps.size → RoundC l (fun ρ H Q => CodeW P plan assign ρ H Q) (fun ρ H Q => CodeW P plan body ρ H Q) (bindR ps.toList vs ρ) H1 K → RndW P l rec.fn (bindT ps.toList vs rec.tmps) assign body H1 K) →
        FnW P f (#[.func (.yield l) #[] #[]] ++ caps) ((H.upd d (.deferred (some []))).upd l (.loop rec)) fun _ H' => EndC l ρ H' Q
    | _ => False
  | _, _, _, _ => False
/-- From a label on. -/
def CodeFr (P : Program) (plan : Plan) : Code → Nat → Env → Heap → Post → Prop
  | .seq a b, l, ρ, H, Q => match hasLbl a l with
    | true => CodeFr P plan a l ρ H (thenK (fun ρ' H' => CodeW P plan b ρ' H' Q) Q)
    | false => CodeFr P plan b l ρ H Q
  | .label l', l, ρ, H, Q => match Nat.beq l' l with
    | true => Q .normal ρ H
    | false => False
  | _, _, _, _, _ => False
/-- Up to a label. -/
def CodeBe (P : Program) (plan : Plan) : Code → Nat → Env → Heap → Post → Prop
  | .seq a b, l, ρ, H, Q => match hasLbl a l with
    | true => CodeBe P plan a l ρ H Q
    | false => CodeW P plan a ρ H (thenK (fun ρ' H' => CodeBe P plan b l ρ' H' Q) Q)
  | .label l', l, ρ, H, Q => match Nat.beq l' l with
    | true => Q .normal ρ H
    | false => False
  | _, _, _, _, _ => False
end

def opdIn (n : Nat) : Operand → Bool
  | .tmp t => Nat.blt t n
  | _ => true

/-- The code leaves the temporary alone. -/
def keepsB (plan : Plan) (f : Tmp) : Code → Bool
  | .region _ ops _ => ops.toList.all fun o => match o.dst with | some d => !(Nat.beq d f) | none => true
  | .seq a b => keepsB plan f a && keepsB plan f b
  | .cond _ a b => keepsB plan f a && keepsB plan f b
  | .block _ c => keepsB plan f c
  | .loop c => keepsB plan f c && (match unrOf (firstRegion c) plan.unr with
    | some _ => true
    | none => (match loopOf (firstRegion c) plan.loops with
      | some (slots, _, fixed) => memB f fixed && !(memB f slots)
      | none => false))
  | .scope c => keepsB plan f c && (match loopLbl plan c with
    | some l => (match loopOf (lblKey l) plan.loops with
      | some (slots, _, fixed) => memB f fixed && !(memB f slots)
      | none => false)
    | none => true)
  | _ => true
/-- The code from the first label on leaves it alone. -/
def keepsF (plan : Plan) (f : Tmp) : Code → Bool
  | .seq a b => match Nat.blt 0 (nLbl a) with
    | true => keepsF plan f a && keepsB plan f b
    | false => keepsF plan f b
  | _ => true
theorem keepsF_of {plan : Plan} {f : Tmp} : ∀ (c : Code), keepsB plan f c = true → keepsF plan f c = true
  | .seq a b, h => by
    simp only [keepsB, Bool.and_eq_true] at h
    simp only [keepsF]
    split
    · rw [keepsF_of a h.1, h.2]; rfl
    · exact keepsF_of b h.2
  | .skip, _ | .region .., _ | .cond .., _ | .block .., _ | .loop .., _ | .rangeFunc .., _ | .exit .., _ | .scope .., _ | .goto .., _ | .ret, _ | .refuse .., _ | .label .., _ => rfl
theorem hasLbl_n : ∀ {c : Code} {l : Nat}, hasLbl c l = true → 0 < nLbl c
  | .seq a b, l, h => by
    simp only [hasLbl, Bool.or_eq_true] at h
    simp only [nLbl]
    rcases h with h | h
    · have := hasLbl_n h; omega
    · have := hasLbl_n h; omega
  | .label _, _, _ => by simp only [nLbl]; omega
  | .skip, _, h | .region .., _, h | .cond .., _, h | .block .., _, h | .loop .., _, h | .rangeFunc .., _, h | .exit .., _, h | .scope .., _, h | .goto .., _, h | .ret, _, h | .refuse .., _, h => by simp only [hasLbl] at h; cases h

theorem beq_false_of {d f : Nat} (h : (!(Nat.beq d f)) = true) : d ≠ f := fun e => by subst e; rw [Nat.beq_refl] at h; cases h

theorem OpG.keeps {all : Array Oper} {S} (N : Nice S) {o : Oper} {f : Tmp} (hd : ∀ d, o.dst = some d → d ≠ f) {ρ : Env} {H : Heap} {K : Env → Heap → Prop} (h : OpG all S o ρ H K) :
    OpG all S o ρ H fun ρ' H' => ρ' f = ρ f ∧ K ρ' H' := by
  have pf : ∀ (ρ' : Env) v, put ρ' o.dst v f = ρ' f := fun ρ' v => put_get hd
  unfold OpG at *
  split at h
  · exact N.mono _ _ _ _ _ (fun v H' h => ⟨pf _ _, h⟩) h
  · split at h
    · split at h
      · rename_i want _ _ d _ _ b hr
        cases b with
        | true =>
          simp only [IfB] at h ⊢
          rw [put_same hr] at h ⊢
          cases want with
          | true => exact N.mono _ _ _ _ _ (fun v H' h => ⟨pf _ _, h⟩) h
          | false => exact ⟨pf _ _, h⟩
        | false =>
          simp only [IfB] at h ⊢
          rw [put_same hr] at h ⊢
          cases want with
          | false => exact N.mono _ _ _ _ _ (fun v H' h => ⟨pf _ _, h⟩) h
          | true => exact ⟨pf _ _, h⟩
      · exact ⟨pf _ _, h⟩
    · exact ⟨pf _ _, h⟩

theorem OpG.mono {all : Array Oper} {S} (N : Nice S) {o : Oper} {ρ : Env} {H : Heap} {K K' : Env → Heap → Prop} (hk : ∀ ρ H, K ρ H → K' ρ H) (h : OpG all S o ρ H K) : OpG all S o ρ H K' := by
  unfold OpG at *
  split at h
  · exact N.mono _ _ _ _ _ (fun v H' h => hk _ _ h) h
  · split at h
    · split at h
      · refine IfB.mono h (fun h => ?_) (fun h => ?_)
        · split at h
          · exact N.mono _ _ _ _ _ (fun v H' h => hk _ _ h) h
          · exact hk _ _ h
        · split at h
          · exact N.mono _ _ _ _ _ (fun v H' h => hk _ _ h) h
          · exact hk _ _ h
      · exact hk _ _ h
    · exact hk _ _ h

theorem OpsL.mono {all : Array Oper} {S} (N : Nice S) {K K' : Env → Heap → Prop} (hk : ∀ ρ H, K ρ H → K' ρ H) : ∀ (l : List Oper) (ρ : Env) (H : Heap), OpsL all S l ρ H K → OpsL all S l ρ H K' := by
  intro l
  induction l with
  | nil => exact fun ρ H h => hk _ _ h
  | cons o os ih => exact fun ρ H h => OpG.mono N (fun ρ H h => ih ρ H h) h

theorem OpsL.keeps {all : Array Oper} {S} (N : Nice S) {f : Tmp} {K : Env → Heap → Prop} : ∀ (l : List Oper), (∀ o ∈ l, ∀ d, o.dst = some d → d ≠ f) → ∀ (ρ : Env) (H : Heap), OpsL all S l ρ H K → OpsL all S l ρ H fun ρ' H' => ρ' f = ρ f ∧ K ρ' H' := by
  intro l
  induction l with
  | nil => exact fun _ ρ H h => ⟨rfl, h⟩
  | cons o os ih =>
    intro hd ρ H h
    refine OpG.mono N (fun ρ1 H1 ⟨h1, h2⟩ => ?_) (OpG.keeps N (hd o List.mem_cons_self) h)
    refine OpsL.mono N (fun ρ2 H2 ⟨h3, h4⟩ => ⟨h3.trans h1, h4⟩) _ _ _ (ih (fun o ho => hd o (List.mem_cons_of_mem _ ho)) ρ1 H1 h2)

theorem OpsT.mono {all : Array Oper} {S} (N : Nice S) {a : Nat} {post Y : List Nat} {K K' : Env → Heap → Prop} (hk : ∀ ρ H, K ρ H → K' ρ H) : ∀ (pre : List Nat) (ρ : Env) (H : Heap), OpsT all S a post Y K pre ρ H → OpsT all S a post Y K' pre ρ H
  | [], ρ, H, h => OpsL.mono N hk _ _ _ h
  | x :: t, ρ, H, h => by
    unfold OpsT at h ⊢
    split at h
    · exact ⟨OpsL.mono N hk _ _ _ h.1, OpsL.mono N (fun ρ H h => OpsT.mono N hk t ρ H h) _ _ _ h.2⟩
    · exact OpsL.mono N (fun ρ H h => OpsT.mono N hk t ρ H h) _ _ _ h
theorem OpsT.plain {all : Array Oper} {S} (N : Nice S) {a : Nat} {post Y : List Nat} {K K' : Env → Heap → Prop} (hk : ∀ ρ H, K ρ H → K' ρ H) : ∀ (pre : List Nat) (ρ : Env) (H : Heap), OpsT all S a post Y K pre ρ H → GTs all S a post Y K' pre ρ H
  | [], ρ, H, h => OpsL.plain N _ _ _ (OpsL.mono N hk _ _ _ h)
  | x :: t, ρ, H, h => by
    unfold OpsT at h
    unfold GTs
    split at h
    · rename_i hm
      rw [hm]
      exact ⟨OpsL.plain N _ _ _ (OpsL.mono N hk _ _ _ h.1), OpsL.plain N _ _ _ (OpsL.mono N (fun ρ H h => OpsT.plain N hk t ρ H h) _ _ _ h.2)⟩
    · rename_i hm
      rw [hm]
      exact OpsL.plain N _ _ _ (OpsL.mono N (fun ρ H h => OpsT.plain N hk t ρ H h) _ _ _ h)
theorem atd {all : Array Oper} {f : Tmp} (hd : ∀ o ∈ all.toList, ∀ d, o.dst = some d → d ≠ f) (l : List Nat) : ∀ o ∈ opsAt all l, ∀ d, o.dst = some d → d ≠ f := by
  intro o ho
  simp only [opsAt, List.mem_filterMap] at ho
  obtain ⟨i, _, hi⟩ := ho
  exact hd o (List.mem_of_getElem? hi)
theorem OpsT.keeps {all : Array Oper} {S} (N : Nice S) {f : Tmp} {a : Nat} {post Y : List Nat} {K : Env → Heap → Prop} (hd : ∀ o ∈ all.toList, ∀ d, o.dst = some d → d ≠ f) : ∀ (pre : List Nat) (ρ : Env) (H : Heap), OpsT all S a post Y K pre ρ H → OpsT all S a post Y (fun ρ' H' => ρ' f = ρ f ∧ K ρ' H') pre ρ H
  | [], ρ, H, h => OpsL.keeps N _ (atd hd _) _ _ h
  | x :: t, ρ, H, h => by
    unfold OpsT at h ⊢
    split at h
    · exact ⟨OpsL.keeps N _ (atd hd _) _ _ h.1, OpsL.mono N (fun ρ' H' h => OpsT.mono N (fun ρ'' H'' h' => ⟨h'.1.trans h.1, h'.2⟩) _ _ _ (OpsT.keeps N hd t ρ' H' h.2)) _ _ _ (OpsL.keeps N _ (atd hd _) _ _ h.2)⟩
    · exact OpsL.mono N (fun ρ' H' h => OpsT.mono N (fun ρ'' H'' h' => ⟨h'.1.trans h.1, h'.2⟩) _ _ _ (OpsT.keeps N hd t ρ' H' h.2)) _ _ _ (OpsL.keeps N _ (atd hd _) _ _ h)
theorem nextK_yes {n : Exit → Bool} {K : Env → Heap → Prop} {Q : Post} {e : Exit} {ρ : Env} {H : Heap} (h : n e = true) : nextK n K Q e ρ H = K ρ H := by unfold nextK; rw [h]
theorem nextK_no {n : Exit → Bool} {K : Env → Heap → Prop} {Q : Post} {e : Exit} {ρ : Env} {H : Heap} (h : n e = false) : nextK n K Q e ρ H = Q e ρ H := by unfold nextK; rw [h]
theorem nextK.mono {n : Exit → Bool} {K K' : Env → Heap → Prop} {Q Q' : Post} (hk : ∀ ρ H, K ρ H → K' ρ H) (hq : ∀ e ρ H, Q e ρ H → Q' e ρ H) (e : Exit) (ρ : Env) (H : Heap) (h : nextK n K Q e ρ H) : nextK n K' Q' e ρ H := by
  unfold nextK at h ⊢
  split at h
  · exact hk _ _ h
  · exact hq _ _ _ h
theorem gotoK_else {F : Nat → Env → Heap → Post → Prop} {L : Nat → Bool} {n : Nat} {Q : Post} {e : Exit} {ρ : Env} {H : Heap} (h : ∀ l, e ≠ .goto l) : gotoK F L n Q e ρ H = Q e ρ H := by
  cases n <;> cases e <;> first | rfl | exact absurd rfl (h _)
theorem gotoK_no {F : Nat → Env → Heap → Post → Prop} {L : Nat → Bool} {n l : Nat} {Q : Post} {ρ : Env} {H : Heap} (h : L l = false) : gotoK F L n Q (.goto l) ρ H = Q (.goto l) ρ H := by
  cases n <;> simp [gotoK, h]
theorem gotoK_yes {F : Nat → Env → Heap → Post → Prop} {L : Nat → Bool} {n l : Nat} {Q : Post} {ρ : Env} {H : Heap} (h : L l = true) : gotoK F L (n + 1) Q (.goto l) ρ H = F l ρ H (gotoK F L n Q) := by
  simp [gotoK, h]
theorem gotoK_zero {F : Nat → Env → Heap → Post → Prop} {L : Nat → Bool} {l : Nat} {Q : Post} {ρ : Env} {H : Heap} (h : L l = true) : gotoK F L 0 Q (.goto l) ρ H = False := by
  simp [gotoK, h]
/-- What the end of a piece of code may be, for jumps. -/
theorem goto_cases (e : Exit) : (∃ l, e = .goto l) ∨ ∀ l, e ≠ .goto l := by
  cases e <;> first | exact .inl ⟨_, rfl⟩ | exact .inr (fun l h => by cases h)
theorem gotoK.mono {F : Nat → Env → Heap → Post → Prop} {L : Nat → Bool} (hF : ∀ (l : Nat) {Q Q' : Post}, (∀ e ρ H, Q e ρ H → Q' e ρ H) → ∀ ρ H, F l ρ H Q → F l ρ H Q') : ∀ (n : Nat) {Q Q' : Post} (_ : ∀ e ρ H, Q e ρ H → Q' e ρ H) (e : Exit) (ρ : Env) (H : Heap), gotoK F L n Q e ρ H → gotoK F L n Q' e ρ H := by
  intro n
  induction n with
  | zero =>
    intro Q Q' hq e ρ H h
    rcases goto_cases e with ⟨l, rfl⟩ | he
    · cases hl : L l with
      | true => rw [gotoK_zero hl] at h; exact h.elim
      | false => rw [gotoK_no hl] at h ⊢; exact hq _ _ _ h
    · rw [gotoK_else he] at h ⊢; exact hq _ _ _ h
  | succ n ih =>
    intro Q Q' hq e ρ H h
    rcases goto_cases e with ⟨l, rfl⟩ | he
    · cases hl : L l with
      | true => rw [gotoK_yes hl] at h ⊢; exact hF _ (ih hq) _ _ h
      | false => rw [gotoK_no hl] at h ⊢; exact hq _ _ _ h
    · rw [gotoK_else he] at h ⊢; exact hq _ _ _ h
theorem LoopC.mono {plan : Plan} {key : Nat} {B : Env → Heap → Post → Prop} (hB : ∀ {Q Q' : Post}, (∀ e ρ H, Q e ρ H → Q' e ρ H) → ∀ ρ H, B ρ H Q → B ρ H Q') {nx : Exit → Bool} {Q Q' : Post} (hq : ∀ e ρ H, Q e ρ H → Q' e ρ H) (ρ : Env) (H : Heap) (h : LoopC plan key B nx ρ H Q) : LoopC plan key B nx ρ H Q' := by
  unfold LoopC at h ⊢
  split at h
  · split at h
    · obtain ⟨I, k, h0, hr⟩ := h
      exact ⟨I, k, h0, fun k x H hI g => hB (nextK.mono (fun _ _ h => h) hq) _ _ (hr k x H hI g)⟩
    · exact h.elim
  · exact h.elim

theorem unrollC.mono {B : Env → Heap → Post → Prop} (hB : ∀ {Q Q' : Post}, (∀ e ρ H, Q e ρ H → Q' e ρ H) → ∀ ρ H, B ρ H Q → B ρ H Q') : ∀ (n : Nat) {Q Q' : Post} (_ : ∀ e ρ H, Q e ρ H → Q' e ρ H) (ρ : Env) (H : Heap), unrollC B n ρ H Q → unrollC B n ρ H Q'
  | 0, _, _, _, _, _, h => h.elim
  | n + 1, _, _, hq, _, _, h => hB (nextK.mono (fun ρ H h => unrollC.mono hB n hq ρ H h) hq) _ _ h

mutual
theorem CodeW.mono {P : Program} {plan : Plan} : ∀ (c : Code) {Q Q' : Post} (_ : ∀ e ρ H, Q e ρ H → Q' e ρ H) (ρ : Env) (H : Heap), CodeW P plan c ρ H Q → CodeW P plan c ρ H Q'
  | .skip, _, _, hq, _, _, h => by simp only [CodeW] at h ⊢; exact hq _ _ _ h
  | .label _, _, _, hq, _, _, h => by simp only [CodeW] at h ⊢; exact hq _ _ _ h
  | .region id ops draw, Q, Q', hq, ρ, H, h => by
    simp only [CodeW] at h ⊢
    cases draw with
    | false => exact OpsL.mono (niceOp P) (fun ρ H h => hq _ _ _ h) _ _ _ h
    | true =>
      simp only [DrawW] at h ⊢
      split at h
      · split at h
        · exact OpsT.mono (niceOp P) (fun ρ H h => OpsL.mono (niceOp P) (fun ρ H h => hq _ _ _ h) _ _ _ h) _ _ _ h
        · rename_i c C _
          obtain ⟨bs, hbs, h⟩ := h
          exact ⟨bs, hbs, OpsT.mono (rankedKept P (c :: C) bs H).toNice (fun ρ H h => OpsL.mono (niceOp P) (fun ρ H h => hq _ _ _ h) _ _ _ h) _ _ _ h⟩
      split at h
      · exact OpsL.mono (niceOp P) (fun ρ H h => hq _ _ _ h) _ _ _ h
      · exact OpsL.mono (niceOp P) (fun ρ H h => hq _ _ _ h) _ _ _ h
      · rename_i l c C hp'
        split at h
        · obtain ⟨bs, hbs, h⟩ := h
          exact ⟨bs, hbs, OpsL.mono (rankedLate P C bs H).toNice (fun ρ H h => hq _ _ _ h) _ _ _ h⟩
        · obtain ⟨bs, hbs, h⟩ := h
          exact ⟨bs, hbs, OpsL.mono (rankedKept P (c :: C) bs H).toNice (fun ρ H h => OpsL.mono (niceOp P) (fun ρ H h => hq _ _ _ h) _ _ _ h) _ _ _ h⟩
  | .seq a b, Q, Q', hq, ρ, H, h => by
    simp only [CodeW] at h ⊢
    refine CodeW.mono a (fun e ρ' H' h => ?_) ρ H h
    cases e with
    | normal => exact CodeW.mono b hq ρ' H' h
    | _ => exact hq _ _ _ h
  | .cond c x y, Q, Q', hq, ρ, H, h => by
    simp only [CodeW] at h ⊢
    split at h
    · exact IfB.mono h (CodeW.mono x hq ρ H) (CodeW.mono y hq ρ H)
    · exact h.elim
  | .block id c, Q, Q', hq, ρ, H, h => by
    simp only [CodeW] at h ⊢
    refine CodeW.mono c (fun e ρ' H' h => ?_) ρ H h
    cases e with
    | exit i =>
      simp only [blockK] at h ⊢
      split at h
      · exact hq _ _ _ h
      · exact hq _ _ _ h
    | _ => exact hq _ _ _ h
  | .loop c, Q, Q', hq, ρ, H, h => by
    simp only [CodeW] at h ⊢
    cases hu : unrOf (firstRegion c) plan.unr with
    | some n => simp only [hu] at h ⊢; exact unrollC.mono (fun hq => CodeW.mono c hq) n hq ρ H h
    | none => simp only [hu] at h ⊢; exact LoopC.mono (fun hq => CodeW.mono c hq) hq ρ H h
  | .scope c, Q, Q', hq, ρ, H, h => by
    simp only [CodeW] at h ⊢
    split at h
    · exact CodeW.mono c (gotoK.mono (fun l _ _ hq => CodeFr.mono c l hq) _ hq) ρ H h
    · rename_i l hl
      have hL := fun ρ H => LoopC.mono (plan := plan) (key := lblKey l) (nx := isGoto l) (B := fun ρ H Q => CodeFr P plan c l ρ H (gotoK (fun l ρ H Q => CodeFr P plan c l ρ H Q) (others c l) (nLbl c) Q)) (fun hq => CodeFr.mono c l (gotoK.mono (fun l _ _ hq => CodeFr.mono c l hq) _ hq)) hq ρ H
      exact CodeBe.mono c l (nextK.mono hL (gotoK.mono (fun l _ _ hq => CodeFr.mono c l hq) _ (nextK.mono hL hq))) ρ H h
  | .exit id, _, _, hq, _, _, h => by simp only [CodeW] at h ⊢; exact hq _ _ _ h
  | .goto id, _, _, hq, _, _, h => by simp only [CodeW] at h ⊢; exact hq _ _ _ h
  | .ret, _, _, hq, _, _, h => by simp only [CodeW] at h ⊢; exact hq _ _ _ h
  | .rangeFunc g ps assign body, Q, Q', hq, ρ, H, h => by
    simp only [CodeW] at h ⊢
    split at h
    · exact ⟨h.1, fun nt d l rec h1 h2 h3 h4 h5 h6 h7 h8 h9 h10 => (h.2 nt d l rec h1 h2 h3 h4 h5 h6 h7 h8 h9 h10).mono fun _ _ hk => hk.mono hq⟩
    · exact h.elim
  | .refuse _, _, _, _, _, _, h => by simp only [CodeW] at h
theorem CodeFr.mono {P : Program} {plan : Plan} : ∀ (c : Code) (l : Nat) {Q Q' : Post} (_ : ∀ e ρ H, Q e ρ H → Q' e ρ H) (ρ : Env) (H : Heap), CodeFr P plan c l ρ H Q → CodeFr P plan c l ρ H Q'
  | .seq a b, l, Q, Q', hq, ρ, H, h => by
    simp only [CodeFr] at h ⊢
    split at h
    · refine CodeFr.mono a l (fun e ρ' H' h => ?_) ρ H h
      cases e with
      | normal => exact CodeW.mono b hq ρ' H' h
      | _ => exact hq _ _ _ h
    · exact CodeFr.mono b l hq ρ H h
  | .label l', l, Q, Q', hq, ρ, H, h => by
    simp only [CodeFr] at h ⊢
    split at h
    · exact hq _ _ _ h
    · exact h.elim
  | .skip, _, _, _, _, _, _, h => by simp only [CodeFr] at h
  | .region .., _, _, _, _, _, _, h => by simp only [CodeFr] at h
  | .cond .., _, _, _, _, _, _, h => by simp only [CodeFr] at h
  | .block .., _, _, _, _, _, _, h => by simp only [CodeFr] at h
  | .loop .., _, _, _, _, _, _, h => by simp only [CodeFr] at h
  | .rangeFunc .., _, _, _, _, _, _, h => by simp only [CodeFr] at h
  | .exit .., _, _, _, _, _, _, h => by simp only [CodeFr] at h
  | .scope .., _, _, _, _, _, _, h => by simp only [CodeFr] at h
  | .goto .., _, _, _, _, _, _, h => by simp only [CodeFr] at h
  | .ret, _, _, _, _, _, _, h => by simp only [CodeFr] at h
  | .refuse .., _, _, _, _, _, _, h => by simp only [CodeFr] at h
theorem CodeBe.mono {P : Program} {plan : Plan} : ∀ (c : Code) (l : Nat) {Q Q' : Post} (_ : ∀ e ρ H, Q e ρ H → Q' e ρ H) (ρ : Env) (H : Heap), CodeBe P plan c l ρ H Q → CodeBe P plan c l ρ H Q'
  | .seq a b, l, Q, Q', hq, ρ, H, h => by
    simp only [CodeBe] at h ⊢
    split at h
    · exact CodeBe.mono a l hq ρ H h
    · refine CodeW.mono a (fun e ρ' H' h => ?_) ρ H h
      cases e with
      | normal => exact CodeBe.mono b l hq ρ' H' h
      | _ => exact hq _ _ _ h
  | .label l', l, Q, Q', hq, ρ, H, h => by
    simp only [CodeBe] at h ⊢
    split at h
    · exact hq _ _ _ h
    · exact h.elim
  | .skip, _, _, _, _, _, _, h => by simp only [CodeBe] at h
  | .region .., _, _, _, _, _, _, h => by simp only [CodeBe] at h
  | .cond .., _, _, _, _, _, _, h => by simp only [CodeBe] at h
  | .block .., _, _, _, _, _, _, h => by simp only [CodeBe] at h
  | .loop .., _, _, _, _, _, _, h => by simp only [CodeBe] at h
  | .rangeFunc .., _, _, _, _, _, _, h => by simp only [CodeBe] at h
  | .exit .., _, _, _, _, _, _, h => by simp only [CodeBe] at h
  | .scope .., _, _, _, _, _, _, h => by simp only [CodeBe] at h
  | .goto .., _, _, _, _, _, _, h => by simp only [CodeBe] at h
  | .ret, _, _, _, _, _, _, h => by simp only [CodeBe] at h
  | .refuse .., _, _, _, _, _, _, h => by simp only [CodeBe] at h
end

theorem bindE_get {f : Tmp} : ∀ (ts : List Tmp) (vs : List Value) (g : Env), memB f ts = false → bindE ts vs g f = g f
  | [], _, _, _ => rfl
  | _ :: _, [], _, _ => rfl
  | t :: ts, v :: vs, g, h => by
    simp only [memB] at h
    split at h
    · cases h
    · rename_i hb
      rw [bindE, put_get (fun e he heq => by cases he; subst heq; rw [Nat.beq_refl] at hb; cases hb)]
      exact bindE_get ts vs g h
theorem keepE_get {f : Tmp} : ∀ (ts : List Tmp) (ρ g : Env), memB f ts = true → keepE ts ρ g f = ρ f
  | [], _, _, h => by cases h
  | t :: ts, ρ, g, h => by
    simp only [memB] at h
    rw [keepE]
    split at h
    · rename_i hb
      have := Nat.eq_of_beq_eq_true hb
      subst this
      simp [put]
    · rename_i hb
      rw [put_get (fun e he heq => by cases he; subst heq; rw [Nat.beq_refl] at hb; cases hb)]
      exact keepE_get ts ρ g h

theorem gotoK.keeps {F : Nat → Env → Heap → Post → Prop} {L : Nat → Bool} {f : Tmp} {v : Value} (hF : ∀ (l : Nat) {Q : Post} ρ H, F l ρ H Q → F l ρ H fun e ρ' H' => ρ' f = ρ f ∧ Q e ρ' H') (hM : ∀ (l : Nat) {Q Q' : Post}, (∀ e ρ H, Q e ρ H → Q' e ρ H) → ∀ ρ H, F l ρ H Q → F l ρ H Q') : ∀ (n : Nat) {Q : Post} (e : Exit) (ρ : Env) (H : Heap), ρ f = v → gotoK F L n Q e ρ H → gotoK F L n (fun e ρ H => ρ f = v ∧ Q e ρ H) e ρ H := by
  intro n
  induction n with
  | zero =>
    intro Q e ρ H hv h
    rcases goto_cases e with ⟨l, rfl⟩ | he
    · cases hl : L l with
      | true => rw [gotoK_zero hl] at h; exact h.elim
      | false => rw [gotoK_no hl] at h ⊢; exact ⟨hv, h⟩
    · rw [gotoK_else he] at h ⊢; exact ⟨hv, h⟩
  | succ n ih =>
    intro Q e ρ H hv h
    rcases goto_cases e with ⟨l, rfl⟩ | he
    · cases hl : L l with
      | true => rw [gotoK_yes hl] at h ⊢; exact hM _ (fun e ρ' H' h => ih e ρ' H' (h.1.trans hv) h.2) _ _ (hF _ _ _ h)
      | false => rw [gotoK_no hl] at h ⊢; exact ⟨hv, h⟩
    · rw [gotoK_else he] at h ⊢; exact ⟨hv, h⟩
theorem LoopC.keeps {plan : Plan} {key : Nat} {B : Env → Heap → Post → Prop} {f : Tmp} (hB : ∀ {Q : Post} ρ H, B ρ H Q → B ρ H fun e ρ' H' => ρ' f = ρ f ∧ Q e ρ' H') (hM : ∀ {Q Q' : Post}, (∀ e ρ H, Q e ρ H → Q' e ρ H) → ∀ ρ H, B ρ H Q → B ρ H Q')
    (hk : (match loopOf key plan.loops with
      | some (slots, _, fixed) => memB f fixed && !(memB f slots)
      | none => false) = true) {nx : Exit → Bool} {Q : Post} (ρ : Env) (H : Heap) (h : LoopC plan key B nx ρ H Q) : LoopC plan key B nx ρ H fun e ρ' H' => ρ' f = ρ f ∧ Q e ρ' H' := by
  unfold LoopC at h ⊢
  split at h
  · rename_i slots ks fixed hl
    rw [hl] at hk
    simp only [Bool.and_eq_true, Bool.not_eq_true'] at hk
    split at h
    · obtain ⟨I, k, h0, hr⟩ := h
      refine ⟨I, k, h0, fun k x H hI g => hM (fun e ρ' H' h => ?_) _ _ (hB _ _ (hr k x H hI g))⟩
      obtain ⟨h1, h⟩ := h
      rw [bindE_get _ _ _ hk.2, keepE_get _ _ _ hk.1] at h1
      unfold nextK at h ⊢
      split at h
      · exact h
      · exact ⟨h1, h⟩
    · exact h.elim
  · exact h.elim

theorem unrollC.keeps {B : Env → Heap → Post → Prop} {f : Tmp} {v : Value} (hB : ∀ {Q : Post} ρ H, B ρ H Q → B ρ H fun e ρ' H' => ρ' f = ρ f ∧ Q e ρ' H') (hM : ∀ {Q Q' : Post}, (∀ e ρ H, Q e ρ H → Q' e ρ H) → ∀ ρ H, B ρ H Q → B ρ H Q') : ∀ (n : Nat) {Q : Post} (ρ : Env) (H : Heap), ρ f = v → unrollC B n ρ H Q → unrollC B n ρ H fun e ρ' H' => ρ' f = v ∧ Q e ρ' H'
  | 0, _, _, _, _, h => h.elim
  | n + 1, Q, ρ, H, hv, h => hM (fun e ρ' H' h => by
      obtain ⟨h1, h⟩ := h
      cases hn : isNorm e with
      | true => rw [nextK_yes hn] at h ⊢; exact unrollC.keeps hB hM n ρ' H' (h1.trans hv) h
      | false => rw [nextK_no hn] at h ⊢; exact ⟨h1.trans hv, h⟩) _ _ (hB _ _ h)

mutual
theorem CodeW.keeps {P : Program} {plan : Plan} {f : Tmp} : ∀ (c : Code), keepsB plan f c = true → ∀ {Q : Post} (ρ : Env) (H : Heap), CodeW P plan c ρ H Q → CodeW P plan c ρ H fun e ρ' H' => ρ' f = ρ f ∧ Q e ρ' H'
  | .skip, _, _, _, _, h => by simp only [CodeW] at h ⊢; exact ⟨trivial, h⟩
  | .label _, _, _, _, _, h => by simp only [CodeW] at h ⊢; exact ⟨trivial, h⟩
  | .region id ops draw, hk, Q, ρ, H, h => by
    simp only [keepsB] at hk
    have hd : ∀ o ∈ ops.toList, ∀ d, o.dst = some d → d ≠ f := fun o ho d hd => by
      have := List.all_eq_true.1 hk o ho
      rw [hd] at this
      exact beq_false_of this
    have hd2 : ∀ l, ∀ o ∈ opsAt ops l, ∀ d, o.dst = some d → d ≠ f := fun l o ho => by
      simp only [opsAt, List.mem_filterMap] at ho
      obtain ⟨i, _, hi⟩ := ho
      exact hd o (List.mem_of_getElem? hi)
    simp only [CodeW] at h ⊢
    cases draw with
    | false => exact OpsL.keeps (niceOp P) _ hd _ _ h
    | true =>
      simp only [DrawW] at h ⊢
      split at h
      · split at h
        · exact OpsT.mono (niceOp P) (fun ρ' H' h => OpsL.mono (niceOp P) (fun ρ'' H'' h' => ⟨h'.1.trans h.1, h'.2⟩) _ _ _ (OpsL.keeps (niceOp P) _ (hd2 _) _ _ h.2)) _ _ _ (OpsT.keeps (niceOp P) hd _ _ _ h)
        · rename_i c C _
          obtain ⟨bs, hbs, h⟩ := h
          have N := (rankedKept P (c :: C) bs H).toNice
          exact ⟨bs, hbs, OpsT.mono N (fun ρ' H' h => OpsL.mono (niceOp P) (fun ρ'' H'' h' => ⟨h'.1.trans h.1, h'.2⟩) _ _ _ (OpsL.keeps (niceOp P) _ (hd2 _) _ _ h.2)) _ _ _ (OpsT.keeps N hd _ _ _ h)⟩
      split at h
      · exact OpsL.keeps (niceOp P) _ hd _ _ h
      · exact OpsL.keeps (niceOp P) _ (hd2 _) _ _ h
      · rename_i l c C hp'
        split at h
        · obtain ⟨bs, hbs, h⟩ := h
          exact ⟨bs, hbs, OpsL.keeps (rankedLate P C bs H).toNice _ (hd2 _) _ _ h⟩
        · obtain ⟨bs, hbs, h⟩ := h
          exact ⟨bs, hbs, OpsL.mono (rankedKept P (c :: C) bs H).toNice (fun ρ' H' h => OpsL.mono (niceOp P) (fun ρ'' H'' h' => ⟨h'.1.trans h.1, h'.2⟩) _ _ _ (OpsL.keeps (niceOp P) _ (hd2 _) _ _ h.2)) _ _ _ (OpsL.keeps (rankedKept P (c :: C) bs H).toNice _ (hd2 _) _ _ h)⟩
  | .seq a b, hk, Q, ρ, H, h => by
    simp only [keepsB, Bool.and_eq_true] at hk
    simp only [CodeW] at h ⊢
    refine CodeW.mono a (fun e ρ' H' h => ?_) ρ H (CodeW.keeps a hk.1 ρ H h)
    cases e with
    | normal => exact CodeW.mono b (fun e ρ'' H'' h' => ⟨h'.1.trans h.1, h'.2⟩) ρ' H' (CodeW.keeps b hk.2 ρ' H' h.2)
    | _ => exact ⟨h.1, h.2⟩
  | .cond c x y, hk, Q, ρ, H, h => by
    simp only [keepsB, Bool.and_eq_true] at hk
    simp only [CodeW] at h ⊢
    split at h
    · exact IfB.mono h (CodeW.keeps x hk.1 ρ H) (CodeW.keeps y hk.2 ρ H)
    · exact h.elim
  | .block id c, hk, Q, ρ, H, h => by
    simp only [keepsB] at hk
    simp only [CodeW] at h ⊢
    refine CodeW.mono c (fun e ρ' H' h => ?_) ρ H (CodeW.keeps c hk ρ H h)
    cases e with
    | exit i =>
      obtain ⟨h1, h⟩ := h
      simp only [blockK] at h ⊢
      split at h
      · exact ⟨h1, h⟩
      · exact ⟨h1, h⟩
    | _ => exact h
  | .loop c, hk, Q, ρ, H, h => by
    simp only [keepsB, Bool.and_eq_true] at hk
    obtain ⟨hk1, hk2⟩ := hk
    simp only [CodeW] at h ⊢
    cases hu : unrOf (firstRegion c) plan.unr with
    | some n => simp only [hu] at h ⊢; exact unrollC.keeps (fun ρ H h => CodeW.keeps c hk1 ρ H h) (fun hq => CodeW.mono c hq) n ρ H rfl h
    | none => simp only [hu] at h hk2 ⊢; exact LoopC.keeps (fun ρ H h => CodeW.keeps c hk1 ρ H h) (fun hq => CodeW.mono c hq) hk2 ρ H h
  | .scope c, hk, Q, ρ, H, h => by
    simp only [keepsB, Bool.and_eq_true] at hk
    obtain ⟨hk1, hk2⟩ := hk
    simp only [CodeW] at h ⊢
    have gk : ∀ {n : Nat} (L : Nat → Bool) (v : Value) (Q : Post) (e : Exit) (ρ : Env) (H : Heap), ρ f = v → gotoK (fun l ρ H Q => CodeFr P plan c l ρ H Q) L n Q e ρ H → gotoK (fun l ρ H Q => CodeFr P plan c l ρ H Q) L n (fun e ρ H => ρ f = v ∧ Q e ρ H) e ρ H := fun {n} L v Q e ρ H => gotoK.keeps (fun l _ ρ H h => CodeFr.keeps c l (keepsF_of c hk1) ρ H h) (fun l _ _ hq => CodeFr.mono c l hq) n e ρ H
    split at h
    · exact CodeW.mono c (fun e ρ' H' h => gk _ _ _ e ρ' H' h.1 h.2) ρ H (CodeW.keeps c hk1 ρ H h)
    · rename_i l hl
      rw [hl] at hk2
      have hL : ∀ ρ' H', ρ' f = ρ f → LoopC plan (lblKey l) (fun ρ H Q => CodeFr P plan c l ρ H (gotoK (fun l ρ H Q => CodeFr P plan c l ρ H Q) (others c l) (nLbl c) Q)) (isGoto l) ρ' H' Q →
          LoopC plan (lblKey l) (fun ρ H Q => CodeFr P plan c l ρ H (gotoK (fun l ρ H Q => CodeFr P plan c l ρ H Q) (others c l) (nLbl c) Q)) (isGoto l) ρ' H' fun e ρ' H' => ρ' f = ρ f ∧ Q e ρ' H' := fun ρ' H' he h => by
        rw [← he]
        exact LoopC.keeps (B := fun ρ H Q => CodeFr P plan c l ρ H (gotoK (fun l ρ H Q => CodeFr P plan c l ρ H Q) (others c l) (nLbl c) Q)) (fun {Q} ρ H h => CodeFr.mono c l (fun e ρ' H' h => gk (others c l) (ρ f) Q e ρ' H' h.1 h.2) ρ H (CodeFr.keeps c l (keepsF_of c hk1) ρ H h)) (fun hq => CodeFr.mono c l (gotoK.mono (fun l _ _ hq => CodeFr.mono c l hq) _ hq)) hk2 ρ' H' h
      refine CodeBe.mono c l (fun e ρ' H' h => ?_) ρ H (CodeBe.keeps c l hk1 ρ H h)
      obtain ⟨h1, h⟩ := h
      unfold nextK at h ⊢
      split at h
      · exact hL _ _ h1 h
      · refine gotoK.mono (fun l _ _ hq => CodeFr.mono c l hq) _ (fun e ρ' H' h => ?_) e ρ' H' (gk _ (ρ f) _ e ρ' H' h1 h)
        obtain ⟨h1, h⟩ := h
        split at h
        · exact hL _ _ h1 h
        · exact ⟨h1, h⟩
  | .exit id, _, _, _, _, h => by simp only [CodeW] at h ⊢; exact ⟨trivial, h⟩
  | .goto id, _, _, _, _, h => by simp only [CodeW] at h ⊢; exact ⟨trivial, h⟩
  | .ret, _, _, _, _, h => by simp only [CodeW] at h ⊢; exact ⟨trivial, h⟩
  | .rangeFunc g ps assign body, _, Q, ρ, H, h => by
    simp only [CodeW] at h ⊢
    split at h
    · refine ⟨h.1, fun nt d l rec h1 h2 h3 h4 h5 h6 h7 h8 h9 h10 => (h.2 nt d l rec h1 h2 h3 h4 h5 h6 h7 h8 h9 h10).mono fun _ H' hk => ?_⟩
      obtain ⟨r, k1, k2, k3⟩ := hk
      refine ⟨r, k1, k2, ?_⟩
      split at k3 <;> first | exact k3.elim | exact ⟨rfl, k3⟩
    · exact h.elim
  | .refuse _, _, _, _, _, h => by simp only [CodeW] at h
theorem CodeFr.keeps {P : Program} {plan : Plan} {f : Tmp} : ∀ (c : Code) (l : Nat), keepsF plan f c = true → ∀ {Q : Post} (ρ : Env) (H : Heap), CodeFr P plan c l ρ H Q → CodeFr P plan c l ρ H fun e ρ' H' => ρ' f = ρ f ∧ Q e ρ' H'
  | .seq a b, l, hk, Q, ρ, H, h => by
    simp only [CodeFr] at h ⊢
    split at h
    · rename_i hla
      have hn : Nat.blt 0 (nLbl a) = true := by have := hasLbl_n hla; simpa using this
      simp only [keepsF, hn, Bool.and_eq_true] at hk
      refine CodeFr.mono a l (fun e ρ' H' h => ?_) ρ H (CodeFr.keeps a l hk.1 ρ H h)
      cases e with
      | normal => exact CodeW.mono b (fun e ρ'' H'' h' => ⟨h'.1.trans h.1, h'.2⟩) ρ' H' (CodeW.keeps b hk.2 ρ' H' h.2)
      | _ => exact ⟨h.1, h.2⟩
    · refine CodeFr.keeps b l ?_ ρ H h
      simp only [keepsF] at hk
      split at hk
      · simp only [Bool.and_eq_true] at hk; exact keepsF_of b hk.2
      · exact hk
  | .label l', l, hk, Q, ρ, H, h => by
    simp only [CodeFr] at h ⊢
    split at h
    · exact ⟨trivial, h⟩
    · exact h.elim
  | .skip, _, _, _, _, _, h => by simp only [CodeFr] at h
  | .region .., _, _, _, _, _, h => by simp only [CodeFr] at h
  | .cond .., _, _, _, _, _, h => by simp only [CodeFr] at h
  | .block .., _, _, _, _, _, h => by simp only [CodeFr] at h
  | .loop .., _, _, _, _, _, h => by simp only [CodeFr] at h
  | .rangeFunc .., _, _, _, _, _, h => by simp only [CodeFr] at h
  | .exit .., _, _, _, _, _, h => by simp only [CodeFr] at h
  | .scope .., _, _, _, _, _, h => by simp only [CodeFr] at h
  | .goto .., _, _, _, _, _, h => by simp only [CodeFr] at h
  | .ret, _, _, _, _, _, h => by simp only [CodeFr] at h
  | .refuse .., _, _, _, _, _, h => by simp only [CodeFr] at h
theorem CodeBe.keeps {P : Program} {plan : Plan} {f : Tmp} : ∀ (c : Code) (l : Nat), keepsB plan f c = true → ∀ {Q : Post} (ρ : Env) (H : Heap), CodeBe P plan c l ρ H Q → CodeBe P plan c l ρ H fun e ρ' H' => ρ' f = ρ f ∧ Q e ρ' H'
  | .seq a b, l, hk, Q, ρ, H, h => by
    simp only [keepsB, Bool.and_eq_true] at hk
    simp only [CodeBe] at h ⊢
    split at h
    · exact CodeBe.keeps a l hk.1 ρ H h
    · refine CodeW.mono a (fun e ρ' H' h => ?_) ρ H (CodeW.keeps a hk.1 ρ H h)
      cases e with
      | normal => exact CodeBe.mono b l (fun e ρ'' H'' h' => ⟨h'.1.trans h.1, h'.2⟩) ρ' H' (CodeBe.keeps b l hk.2 ρ' H' h.2)
      | _ => exact ⟨h.1, h.2⟩
  | .label l', l, hk, Q, ρ, H, h => by
    simp only [CodeBe] at h ⊢
    split at h
    · exact ⟨trivial, h⟩
    · exact h.elim
  | .skip, _, _, _, _, _, h => by simp only [CodeBe] at h
  | .region .., _, _, _, _, _, h => by simp only [CodeBe] at h
  | .cond .., _, _, _, _, _, h => by simp only [CodeBe] at h
  | .block .., _, _, _, _, _, h => by simp only [CodeBe] at h
  | .loop .., _, _, _, _, _, h => by simp only [CodeBe] at h
  | .rangeFunc .., _, _, _, _, _, h => by simp only [CodeBe] at h
  | .exit .., _, _, _, _, _, h => by simp only [CodeBe] at h
  | .scope .., _, _, _, _, _, h => by simp only [CodeBe] at h
  | .goto .., _, _, _, _, _, h => by simp only [CodeBe] at h
  | .ret, _, _, _, _, _, h => by simp only [CodeBe] at h
  | .refuse .., _, _, _, _, _, h => by simp only [CodeBe] at h
end

theorem CodeW.keepsAll {P : Program} {plan : Plan} {c : Code} : ∀ (fs : List Tmp), (fs.all fun f => keepsB plan f c) = true → ∀ {Q : Post} (ρ : Env) (H : Heap), CodeW P plan c ρ H Q → CodeW P plan c ρ H fun e ρ' H' => (∀ f ∈ fs, ρ' f = ρ f) ∧ Q e ρ' H'
  | [], _, _, ρ, H, h => CodeW.mono c (fun _ _ _ h => ⟨by simp, h⟩) ρ H h
  | f :: fs, hk, Q, ρ, H, h => by
    simp only [List.all_cons, Bool.and_eq_true] at hk
    refine CodeW.mono c (fun e ρ' H' h => ⟨fun f' hf' => ?_, h.2.2⟩) ρ H (CodeW.keeps c hk.1 ρ H (CodeW.keepsAll fs hk.2 ρ H h))
    rcases List.mem_cons.1 hf' with rfl | hf'
    · exact h.1
    · exact h.2.1 f' hf'

def codeOk (P : Program) (n : Nat) (plan : Plan) (r : Option Nat) : Code → Bool
  | .region id ops draw => ops.toList.all (opIn n ops) && (match draw with
    | true => (match treeOf id plan.trees with
      | some t => treeOk P (planC id plan.regs) ops t.a (t.pre0 ++ t.pre1) t.post t.zs t.Y
      | none => (match planOf id plan.regs with
        | none => drawOk P [] ops (List.range ops.size)
        | some (l, []) => drawOk P [] ops l
        | some (l, c :: C) => (match Nat.beq c lateMk with
          | true => drawOk P C ops l && storesLate ops C
          | false => drawOk P (c :: C) ops l)))
    | false => true)
  | .seq a b => codeOk P n plan r a && codeOk P n plan r b
  | .cond c x y => opdIn n c && codeOk P n plan r x && codeOk P n plan r y
  | .block _ c => codeOk P n plan r c
  | .loop c => codeOk P n plan r c && (match unrOf (firstRegion c) plan.unr with
    | some _ => true
    | none => (match loopOf (firstRegion c) plan.loops with
      | some (_, _, fixed) => fixed.all fun f => keepsB plan f c
      | none => false))
  | .scope c => r.isNone && codeOk P n plan r c && (match loopLbl plan c with
    | some l => hasLbl c l && (match loopOf (lblKey l) plan.loops with
      | some (_, _, fixed) => fixed.all fun f => keepsF plan f c
      | none => false)
    | none => true)
  | .rangeFunc g ps assign body => r.isNone && opdIn n g && ps.toList.all (Nat.blt · n) && codeOk P n plan (some 0) assign && codeOk P n plan (some 0) body
  | _ => true
theorem codeOk_some {P : Program} {n : Nat} {plan : Plan} (l l' : Nat) : ∀ c : Code, codeOk P n plan (some l) c = codeOk P n plan (some l') c
  | .region .. => by simp only [codeOk]
  | .seq a b => by simp only [codeOk, codeOk_some l l' a, codeOk_some l l' b]
  | .cond c a b => by simp only [codeOk, codeOk_some l l' a, codeOk_some l l' b]
  | .block _ c => by simp only [codeOk, codeOk_some l l' c]
  | .loop c => by simp only [codeOk, codeOk_some l l' c]
  | .scope c => by simp only [codeOk, Option.isNone_some, Bool.false_and]
  | .rangeFunc .. => by simp only [codeOk, Option.isNone_some, Bool.false_and]
  | .skip => rfl
  | .label _ => rfl
  | .exit _ => rfl
  | .goto _ => rfl
  | .ret => rfl
  | .refuse _ => rfl

/-- The marks of the loops over functions that a frame has been through. -/
def Marks (D : List Deferred) (ws : World × List Deferred) (w : World) : Prop := ws.1.heap.size ≤ w.heap.size ∧ ∃ rs : List Nat, D = rs.map (fun r => { target := .collected r, args := #[] }) ++ ws.2 ∧ rs.Nodup ∧ ∀ r ∈ rs, ws.1.heap[r]? = none ∧ w.heap[r]? = some (.deferred (some []))
theorem Marks.rest {D : List Deferred} {ws : World × List Deferred} {w w' : World} (h : Marks D ws w) (r : Rest w w') : Marks D ws w' := by
  obtain ⟨h0, rs, h1, h2, h3⟩ := h
  exact ⟨Nat.le_trans h0 r.size, rs, h1, h2, fun x hx => ⟨(h3 x hx).1, r.dfr _ _ (h3 x hx).2⟩⟩
theorem Marks.nil (w : World) : Marks [] (w, []) w := ⟨Nat.le_refl _, [], rfl, .nil, by simp⟩
theorem Marks.tail (w : World) (T : List Deferred) : Marks T (w, T) w := ⟨Nat.le_refl _, [], rfl, .nil, by simp⟩

/-- A post over environments, read over frames. -/
def Lift (n : Nat) (ws : World × List Deferred) (w0 : World) (Q : Post) : Exit → Act → World → Prop := fun e a w => ∃ ρ D, Fits n D ρ a ∧ Q e ρ (hp w) ∧ Rest w0 w ∧ Marks D ws w

theorem opsAt_range (all : Array Oper) : opsAt all (List.range all.size) = all.toList := by
  unfold opsAt
  apply List.ext_getElem?
  intro k
  have h : (List.range all.size).filterMap (fun i => all.toList[i]?) = all.toList := by
    have : ∀ l : List Oper, (List.range l.length).filterMap (fun i => l[i]?) = l := by
      intro l
      induction l with
      | nil => rfl
      | cons x xs ih =>
        rw [List.length_cons, List.range_succ_eq_map, List.filterMap_cons]
        simp only [List.getElem?_cons_zero, List.filterMap_map]
        congr 1
    simpa using this all.toList
  rw [h]

theorem range_get (all : Array Oper) (k : Nat) : ((List.range all.size)[k]?).bind (fun i => all[i]?) = all.toList[k]? := by
  by_cases h : k < all.size
  · simp [h]
  · have h1 : (List.range all.size)[k]? = none := by simp; omega
    rw [h1]
    simp
    omega

theorem region_of {r : Option Nat} {D : List Deferred} {ws : World × List Deferred} {P : Program} (hm : P.follows .mixedOrders = true) {plan : Plan} {n id : Nat} {ops : Array Oper} {draw : Bool} {Q : Post} {ρ : Env} {a : Act} {w : World}
    (hok : codeOk P n plan r (.region id ops draw) = true) (hf : Fits n D ρ a) (hmk : Marks D ws w) (h : CodeW P plan (.region id ops draw) ρ (hp w) Q) : (Code.region id ops draw).wpIn (Fw r) 0 P (Lift n ws w Q) a w := by
  simp only [codeOk, Bool.and_eq_true] at hok
  obtain ⟨hin, hdr⟩ := hok
  cases draw with
  | false =>
    simp only [CodeW] at h
    refine wpIn_region ?_
    exact wpOps_of (soundOp P) (w0 := w) hin (fun ρ' a' w' hf' _ hk hr => ⟨ρ', D, hf', hk, hr, hmk.rest hr⟩) _ _ (range_get ops) (by simp) ρ a w hf trivial (.refl w) (OpsL.plain (niceOp P) _ _ _ h)
  | true =>
    simp only [CodeW, DrawW] at h
    simp only at hdr
    have c0 : rankC P [] = rank P := by funext o; unfold rankC inC; cases o.dst <;> rfl
    split at h
    · rename_i t htr
      rw [htr] at hdr
      simp only at hdr
      split at h
      · rename_i hC
        rw [hC] at hdr
        exact wp_tree (I := fun _ => True) (C := []) (soundOp P) (by rw [c0]; exact rankedOp P) hm hin hdr hf trivial (OpsT.plain (niceOp P) (fun ρ H h => OpsL.plain (niceOp P) _ _ _ h) _ _ _ h) (fun ρ' a' w' hf' hk hr => ⟨ρ', D, hf', hk, hr, hmk.rest hr⟩)
      · rename_i c C hC
        rw [hC] at hdr
        obtain ⟨bs, hbs, h⟩ := h
        have hR := rankedKept P (c :: C) bs (hp w)
        exact wp_tree (soundKept P (c :: C) bs (hp w)) hR hm hin hdr hf (fun b hb => ⟨hbs b hb, rfl⟩) (OpsT.plain hR.toNice (fun ρ H h => OpsL.plain (niceOp P) _ _ _ h) _ _ _ h) (fun ρ' a' w' hf' hk hr => ⟨ρ', D, hf', hk, hr, hmk.rest hr⟩)
    rename_i htr
    rw [htr] at hdr
    simp only at hdr
    split at h
    · rename_i hp'
      rw [hp'] at hdr
      refine wp_draw_of (I := fun _ => True) (C := []) (soundOp P) (by rw [c0]; exact rankedOp P) hm hin hdr hf trivial (K := fun ρ' H' => Q .normal ρ' H') ?_ (fun ρ' a' w' hf' _ hk hr => ⟨ρ', D, hf', hk, hr, hmk.rest hr⟩)
      rw [opsAt_range]
      exact OpsL.plain (niceOp P) _ _ _ h
    · rename_i l hp'
      rw [hp'] at hdr
      exact wp_draw_of (I := fun _ => True) (C := []) (soundOp P) (by rw [c0]; exact rankedOp P) hm hin hdr hf trivial (OpsL.plain (niceOp P) _ _ _ h) (fun ρ' a' w' hf' _ hk hr => ⟨ρ', D, hf', hk, hr, hmk.rest hr⟩)
    · rename_i l c C hp'
      rw [hp'] at hdr
      simp only at hdr
      split at h
      · rename_i hmk2
        rw [hmk2] at hdr
        simp only [Bool.and_eq_true] at hdr
        obtain ⟨bs, hbs, h⟩ := h
        have hR := rankedLate P C bs (hp w)
        exact wp_draw_late (soundLate P C bs (hp w)) hR hdr.2 hm hin hdr.1 hf (fun b hb => ⟨hbs b hb, rfl⟩) (OpsL.plain hR.toNice _ _ _ h) (fun ρ' a' w' hf' hk hr => ⟨ρ', D, hf', hk, hr, hmk.rest hr⟩)
      rename_i hmk2
      rw [hmk2] at hdr
      obtain ⟨bs, hbs, h⟩ := h
      have hR := rankedKept P (c :: C) bs (hp w)
      exact wp_draw_tail (soundKept P (c :: C) bs (hp w)) hR hm hin hdr hf (fun b hb => ⟨hbs b hb, rfl⟩) (OpsL.plain hR.toNice _ _ _ (OpsL.mono hR.toNice (fun ρ H h => OpsL.plain (niceOp P) _ _ _ h) _ _ _ h)) (fun ρ' a' w' hf' hk hr => ⟨ρ', D, hf', hk, hr, hmk.rest hr⟩)

theorem wpIn_loop' {F : Fence} {m : Nat} {P : Program} {c : Code} {Q : Exit → Act → World → Prop} (Inv : Nat → Act → World → Prop)
    (round : ∀ k a w, Inv k a w → c.wpIn F m P (Exit.then (fun a' w' => ∃ k', k' < k ∧ Inv k' a' w') Q) a w) {k : Nat} {a : Act} {w : World} (h₀ : Inv k a w) : (Code.loop c).wpIn F m P Q a w := by
  intro b kk cs hro hb hr
  have key : ∀ k a w, Inv k a w → ∃ e a' w', Q e a' w' ∧ ArrivesIn (Machine.fenced P F) P (lone (b.atR a (.code c :: .inLoop c :: kk)) cs w) b kk cs e a' w' := by
    intro k
    induction k using Nat.strongRecOn with
    | _ k ih =>
      intro a w hI
      obtain ⟨e, a₁, w₁, hq, harr⟩ := round k a w hI b (.inLoop c :: kk) cs hro hb hr
      cases e with
      | normal =>
        obtain ⟨k', hlt, hI₁⟩ := hq
        obtain ⟨e₂, a₂, w₂, hq₂, harr₂⟩ := ih k' hlt a₁ w₁ hI₁
        exact ⟨e₂, a₂, w₂, hq₂, .of_steps (StepsIn.trans harr (.one (fenced_calm hb hr rfl) stepR_inLoop)) harr₂⟩
      | exit id => exact ⟨_, a₁, w₁, hq, .pass (x := .inLoop c) rfl (fun _ _ => .inl (by simp)) harr⟩
      | goto l => exact ⟨_, a₁, w₁, hq, .pass (x := .inLoop c) rfl (fun _ _ => .inl (by simp)) harr⟩
      | ret => exact ⟨_, a₁, w₁, hq, .pass (x := .inLoop c) rfl (fun _ _ => .inl (by simp)) harr⟩
      | panic ch => exact ⟨_, a₁, w₁, hq, .pass (x := .inLoop c) rfl (fun _ _ => .inl (by simp)) harr⟩
      | outgrown => exact ⟨_, a₁, w₁, hq, .pass (x := .inLoop c) rfl (fun _ _ => .inl (by simp)) harr⟩
  obtain ⟨e, a', w', hq, harr⟩ := key k a w h₀
  exact ⟨e, a', w', hq, .of_steps (.one (fenced_calm hb hr rfl) stepR_loop) harr⟩

/-- A loop's rounds, from its head on: whatever holds of what it ends in. -/
theorem loopC_head {plan : Plan} {key : Nat} {B : Env → Heap → Post → Prop} {nx : Exit → Bool} {ρ : Env} {H : Heap} {Q : Post} (hM : ∀ {Q Q' : Post}, (∀ e ρ H, Q e ρ H → Q' e ρ H) → ∀ ρ H, B ρ H Q → B ρ H Q')
    (hB : ∀ f, (match loopOf key plan.loops with | some (_, _, fixed) => memB f fixed | none => false) = true → ∀ {Q : Post} ρ H, B ρ H Q → B ρ H fun e ρ' H' => ρ' f = ρ f ∧ Q e ρ' H') (h : LoopC plan key B nx ρ H Q) :
    ∃ J : Nat → Env → Heap → Prop, (∃ k, J k ρ H) ∧ ∀ k ρ' H', J k ρ' H' → B ρ' H' (nextK nx (fun ρ'' H'' => ∃ k', k' < k ∧ J k' ρ'' H'') Q) := by
  unfold LoopC at h
  split at h
  case h_2 => exact h.elim
  rename_i slots ks fixed hl
  split at h
  case h_2 => exact h.elim
  rename_i x0 hx0
  obtain ⟨I, k0, h0, hround⟩ := h
  refine ⟨fun k ρ' H' => ∃ x, (∀ f ∈ fixed, ρ' f = ρ f) ∧ slots.map ρ' = enc ks x ∧ I k x H', ⟨k0, x0, fun _ _ => rfl, (enc_dec _ _ _ hx0).symm, h0⟩, fun k ρ' H' hJ => ?_⟩
  obtain ⟨x, hfx, hsl, hI⟩ := hJ
  have hb := hround k x _ hI ρ'
  have e1 : bindE slots (enc ks x) (keepE fixed ρ ρ') = ρ' := by
    rw [keepE_same fixed ρ ρ' hfx]
    exact bindE_same _ _ _ hsl
  rw [e1] at hb
  have all : ∀ (fs : List Tmp), (∀ f ∈ fs, f ∈ fixed) → ∀ {Q : Post}, B ρ' H' Q → B ρ' H' fun e ρ'' H'' => (∀ f ∈ fs, ρ'' f = ρ' f) ∧ Q e ρ'' H'' := by
    intro fs
    induction fs with
    | nil => exact fun _ _ h => hM (fun _ _ _ h => ⟨by simp, h⟩) _ _ h
    | cons f fs ih =>
      intro hfs Q h
      have h1 := ih (fun f hf => hfs f (List.mem_cons_of_mem _ hf)) h
      have h2 := hB f (by rw [hl]; exact memB_iff.2 (hfs f List.mem_cons_self)) ρ' H' h1
      refine hM (fun e ρ'' H'' h => ⟨fun g hg => ?_, h.2.2⟩) _ _ h2
      rcases List.mem_cons.1 hg with rfl | hg
      · exact h.1
      · exact h.2.1 g hg
  refine hM (fun e ρ'' H'' h => ?_) _ _ (all fixed (fun _ h => h) hb)
  obtain ⟨hkp, hq⟩ := h
  unfold nextK at hq ⊢
  split at hq
  · split at hq
    · rename_i x' hx'
      obtain ⟨k', hlt, hI'⟩ := hq
      exact ⟨k', hlt, x', fun f hf => (hkp f hf).trans (hfx f hf), (enc_dec _ _ _ hx').symm, hI'⟩
    · exact hq.elim
  · exact hq

/-- Up to a label, and from there on. -/
theorem be_code {P : Program} {plan : Plan} : ∀ (c : Code) (l : Nat) {Q1 Q : Post} (_ : ∀ e ρ H, e ≠ .normal → Q1 e ρ H → Q e ρ H) (ρ : Env) (H : Heap), CodeBe P plan c l ρ H Q1 → (∀ ρ' H', Q1 .normal ρ' H' → CodeFr P plan c l ρ' H' Q) → CodeW P plan c ρ H Q
  | .seq a b, l, Q1, Q, hq, ρ, H, h, hk => by
    simp only [CodeBe] at h
    simp only [CodeW]
    split at h
    · rename_i hl
      refine be_code a l (Q1 := Q1) (fun e ρ H he h => ?_) ρ H h (fun ρ' H' h' => ?_)
      · have := hq e ρ H he h
        cases e <;> first | exact this | exact absurd rfl he
      · have := hk ρ' H' h'
        simp only [CodeFr, hl] at this
        exact this
    · rename_i hl
      refine CodeW.mono a (fun e ρ' H' h => ?_) ρ H h
      cases e with
      | normal =>
        refine be_code b l hq ρ' H' h fun ρ' H' h' => ?_
        have := hk ρ' H' h'
        simp only [CodeFr, hl] at this
        exact this
      | _ => exact hq _ _ _ (by simp) h
  | .label l', l, Q1, Q, hq, ρ, H, h, hk => by
    simp only [CodeBe] at h
    simp only [CodeW]
    split at h
    · rename_i hl
      have := hk ρ H h
      simp only [CodeFr, hl] at this
      exact this
    · exact h.elim
  | .skip, _, _, _, _, _, _, h, _ => by simp only [CodeBe] at h
  | .region .., _, _, _, _, _, _, h, _ => by simp only [CodeBe] at h
  | .cond .., _, _, _, _, _, _, h, _ => by simp only [CodeBe] at h
  | .block .., _, _, _, _, _, _, h, _ => by simp only [CodeBe] at h
  | .loop .., _, _, _, _, _, _, h, _ => by simp only [CodeBe] at h
  | .rangeFunc .., _, _, _, _, _, _, h, _ => by simp only [CodeBe] at h
  | .exit .., _, _, _, _, _, _, h, _ => by simp only [CodeBe] at h
  | .scope .., _, _, _, _, _, _, h, _ => by simp only [CodeBe] at h
  | .goto .., _, _, _, _, _, _, h, _ => by simp only [CodeBe] at h
  | .ret, _, _, _, _, _, _, h, _ => by simp only [CodeBe] at h
  | .refuse .., _, _, _, _, _, _, h, _ => by simp only [CodeBe] at h

theorem hasLbl_find : ∀ (c : Code) (l : Nat), hasLbl c l = (findLabel c l).isSome
  | .seq a b, l => by
    simp only [hasLbl, findLabel]
    rw [hasLbl_find a l, hasLbl_find b l]
    cases findLabel a l <;> simp
  | .label l', l => by
    simp only [hasLbl, findLabel]
    cases h : Nat.beq l' l with
    | true => rw [if_pos (by have := Nat.eq_of_beq_eq_true h; simp [this])]; rfl
    | false => rw [if_neg (by intro e; have : l' = l := by simpa using e
                              subst this; rw [Nat.beq_refl] at h; cases h)]; rfl
  | .skip, _ => rfl
  | .region .., _ => rfl
  | .cond .., _ => rfl
  | .block .., _ => rfl
  | .loop .., _ => rfl
  | .rangeFunc .., _ => rfl
  | .exit .., _ => rfl
  | .scope .., _ => rfl
  | .goto .., _ => rfl
  | .ret, _ => rfl
  | .refuse .., _ => rfl


theorem fits_of {n : Nat} {ρ : Env} {D : List Deferred} {a : Act} (h : Fits n D ρ a) : TmpsOf n ρ a.tmps := ⟨h.size, h.tmp⟩
theorem bind_fits {n : Nat} : ∀ (ts : List Tmp) (vs : List Value) {ρ : Env} {a : Array Value}, ts.all (Nat.blt · n) = true → TmpsOf n ρ a → TmpsOf n (bindR ts vs ρ) (bindT ts vs a)
  | [], _, _, _, _, h => h
  | _ :: _, [], _, _, _, h => h
  | t :: ts, v :: vs, ρ, a, ht, h => by
    simp only [List.all_cons, Bool.and_eq_true] at ht
    simp only [bindR, bindT]
    refine bind_fits ts vs ht.2 ?_
    have h1 : Fits n [] ρ { tmps := a, defers := [] } := ⟨h.size, h.tmp, rfl⟩
    have h2 := h1.put (some t) v ht.1
    exact ⟨h2.size, h2.tmp⟩
theorem run_getLoop {P : Program} {w : World} {l : Nat} {r : Loop} (h : w.heap[l]? = some (.loop r)) : (Instr.getLoop l).run P w = .ok r w := by
  unfold Instr.getLoop
  simp [Sem.run_bind, getObj, Sem.run, h]
theorem run_setObj {P : Program} {w : World} {l : Nat} {o o0 : Obj} (h : w.heap[l]? = some o0) (hc : isC o0 = false) : (setObj l o).run P w = .ok () { w with heap := w.heap.setIfInBounds l o } := by
  unfold setObj
  cases o0 <;> first | (cases hc; done) | simp [Sem.run, h]
/-- A round, out of its code. -/
theorem round_of {P : Program} {n : Nat} {l : Nat} {fn : FuncId} {tmps : Array Value} {assign body : Code} {A B : Env → Heap → Post → Prop} {ρ : Env} {H : Heap} {K : Value → Heap → Prop} (hT : TmpsOf n ρ tmps)
    (hA : ∀ {ρ : Env} {D : List Deferred} {a : Act} {ws : World × List Deferred} {w : World} {Q : Post}, Fits n D ρ a → Marks D ws w → A ρ (hp w) Q → assign.wpIn (Fw (some l)) 0 P (Lift n ws w Q) a w)
    (hB : ∀ {ρ : Env} {D : List Deferred} {a : Act} {ws : World × List Deferred} {w : World} {Q : Post}, Fits n D ρ a → Marks D ws w → B ρ (hp w) Q → body.wpIn (Fw (some l)) 0 P (Lift n ws w Q) a w)
    (h : RoundC l A B ρ H K) : RndW P l fn tmps assign body H K := by
  rintro w rfl
  refine roundIn_of_wpIn (F := Fence.wide) trivial ?_
  have hf : Fits n [] ρ { tmps := tmps, defers := [] } := ⟨hT.size, hT.tmp, rfl⟩
  refine wpIn_mono (hA hf (Marks.nil w) h) fun e a1 w1 hq => ?_
  obtain ⟨ρ1, D1, hf1, hq, hr1, hm1⟩ := hq
  cases e <;> simp only at hq <;> simp only [Exit.then] <;> first | exact hq.elim | skip
  obtain ⟨r, hl, hst, hb⟩ := hq
  have hl : w1.heap[l]? = some (.loop r) := hl
  refine ⟨{ w1 with heap := w1.heap.setIfInBounds l (.loop { r with state := .busy }) }, ?_, ?_⟩
  · unfold Instr.beginRound
    simp only [Sem.run_bind, run_getLoop hl, Result.andThen_ok, run_setObj hl rfl, hst]
    rfl
  · rw [← hp_setObj w1 l _ _ hl] at hb
    have hr2 := rest_setObj w1 l (.loop { r with state := .busy }) _ hl rfl
    refine wpIn_mono (hB hf1 (hm1.rest hr2) hb) fun e a2 w2 hq => ?_
    obtain ⟨ρ2, D2, hf2, ⟨r', hl', hq⟩, hr3, _⟩ := hq
    have hl' : w2.heap[l]? = some (.loop r') := hl'
    have fin : ∀ j : Option Code, K (.bool j.isNone) ((hp w2).upd l (.loop { r' with state := if j.isNone then .ready else .done, pending := j })) → ∃ v w', (Instr.endRound l j).run P w2 = .ok v w' ∧ ∃ u, Ending.returned v = .returned u ∧ K u (hp w') ∧ Rest w w' := by
      intro j hk
      refine ⟨.bool j.isNone, { w2 with heap := w2.heap.setIfInBounds l (.loop { r' with state := if j.isNone then .ready else .done, pending := j }) }, ?_, _, rfl, ?_, ((hr1.trans hr2).trans hr3).trans (rest_setObj w2 l _ _ hl' rfl)⟩
      · unfold Instr.endRound
        simp only [Sem.run_bind, run_getLoop hl', Result.andThen_ok, run_setObj hl' rfl]
        rfl
      · rw [hp_setObj w2 l _ _ hl']; exact hk
    cases e <;> simp only [jumpOf] at hq <;> simp only [roundPost] <;> first | exact hq.elim | exact fin _ hq

/-- A range over a function. -/
theorem range_of {P : Program} {n : Nat} {plan : Plan} {ws : World × List Deferred} {g : Operand} {ps : Array Tmp} {assign body : Code} {Q : Post} {ρ : Env} {D : List Deferred} {a : Act} {w : World}
    (hok : codeOk P n plan none (.rangeFunc g ps assign body) = true) (hf : Fits n D ρ a) (hmk : Marks D ws w) (h : CodeW P plan (.rangeFunc g ps assign body) ρ (hp w) Q)
    (hA : ∀ (l : Nat) {Q : Post} {ρ : Env} {D : List Deferred} {a : Act} {w : World} {ws : World × List Deferred}, codeOk P n plan (some l) assign = true → Fits n D ρ a → Marks D ws w → CodeW P plan assign ρ (hp w) Q → assign.wpIn (Fw (some l)) 0 P (Lift n ws w Q) a w)
    (hB : ∀ (l : Nat) {Q : Post} {ρ : Env} {D : List Deferred} {a : Act} {w : World} {ws : World × List Deferred}, codeOk P n plan (some l) body = true → Fits n D ρ a → Marks D ws w → CodeW P plan body ρ (hp w) Q → body.wpIn (Fw (some l)) 0 P (Lift n ws w Q) a w) :
    (Code.rangeFunc g ps assign body).wpIn (Fw none) 0 P (Lift n ws w Q) a w := by
  simp only [codeOk, Option.isNone_none, Bool.true_and, Bool.and_eq_true] at hok
  obtain ⟨⟨⟨hg, hps⟩, hokA⟩, hokB⟩ := hok
  have he : a.eval g = ev ρ g := eval_ev hf g fun t ht => by rw [ht] at hg; simpa [opdIn] using hg
  simp only [CodeW] at h
  split at h
  case h_2 => exact h.elim
  rename_i f first caps hv
  obtain ⟨rfl, h⟩ := h
  have hadd : ∀ n0 : Nat, n0 = w.heap.size → hp w n0 = none := fun n0 e => by subst e; exact hp_size w
  refine wpIn_rangeFunc fun fn _ => ?_
  let lr : Loop := { state := .ready, pending := none, fn, tmps := a.tmps, params := ps, assign, body, defers := w.heap.size }
  let w1 : World := { w with heap := (w.heap.push (.deferred (some []))).push (.loop lr) }
  have hF := h n w.heap.size (w.heap.size + 1) lr (hp_size w) (by simp [hp]) (by omega) rfl rfl rfl rfl rfl (fits_of hf) (fun vs H1 K hvl hr => ?_)
  · have hw1 : hp w1 = ((hp w).upd w.heap.size (.deferred (some []))).upd (w.heap.size + 1) (.loop lr) := by
      have e1 := hp_push w (.deferred (some []))
      have e2 := hp_push { w with heap := w.heap.push (.deferred (some [])) } (.loop lr)
      rw [e1] at e2
      have e3 : (w.heap.push (Obj.deferred (some []))).size = w.heap.size + 1 := by simp
      rw [← e3]; exact e2
    have hr1 : Rest w w1 := (rest_push w (.deferred (some []))).trans (rest_push { w with heap := w.heap.push (.deferred (some [])) } (.loop lr))
    refine ⟨w.heap.size + 1, [{ target := .collected w.heap.size, args := #[] }], w1, { target := .fn (.func f) caps, args := #[.func (.yield (w.heap.size + 1)) #[] #[]] }, w1, f, #[.func (.yield (w.heap.size + 1)) #[] #[]] ++ caps, w1, ?_, ?_, fun _ _ => trivial, ?_, fun h => (by cases h), ?_⟩
    · simp [Instr.enterLoop, newObj, Sem.run_bind, Sem.run, Fw, Fence.wide, w1, lr, Result.andThen]
      exact ⟨rfl, rfl, rfl⟩
    · have : resolve a.eval (rangeCall g (w.heap.size + 1)) 0 = (pure { target := .fn (.func f) caps, args := #[.func (.yield (w.heap.size + 1)) #[] #[]] } : Sem Deferred) := by
        unfold resolve rangeCall
        simp only [he, hv, Deferred.ofValue]
        simp [Act.eval]
      rw [this]; rfl
    · obtain ⟨fn', hf', hn', hb'⟩ := hF.1
      have : (callFunc f (#[.func (.yield (w.heap.size + 1)) #[] #[]] ++ caps)).run P w1 = .ok (.enter f (#[.func (.yield (w.heap.size + 1)) #[] #[]] ++ caps)) w1 := by
        have h1 : fn'.name ≠ "runtime.NumGoroutine" := by simpa using hn'
        cases hbb : fn'.body with
        | none => rw [hbb] at hb'; cases hb'
        | some c0 => simp [callFunc, hf', h1, hbb, mark, program, Sem.run_bind, Sem.run]
      exact this
    · refine (calls_fw none (hF.2 w1 hw1)).mono ?_
      rintro e w3 ⟨v, rfl, hE, hr3⟩
      obtain ⟨r, hl, hst, hq⟩ := hE
      have hl : w3.heap[w.heap.size + 1]? = some (.loop r) := hl
      obtain ⟨w4, hw4⟩ : ∃ w4 : World, w4 = { w3 with heap := w3.heap.setIfInBounds (w.heap.size + 1) (.loop { r with state := .exhausted }) } := ⟨_, rfl⟩
      have hr4 : Rest w3 w4 := by rw [hw4]; exact rest_setObj w3 (w.heap.size + 1) (.loop { r with state := .exhausted }) _ hl rfl
      have hall := (hr1.trans hr3).trans hr4
      refine ⟨r.pending, w4, ?_, ?_⟩
      · unfold Instr.endLoop
        have hb : (r.state == .busy) = false := by cases hs : r.state <;> first | rfl | exact absurd hs hst
        simp only [Sem.run_bind, run_getLoop hl, Result.andThen_ok, hb, Bool.false_eq_true, if_false, Sem.run_pure, run_setObj hl rfl, hw4]
      · rw [← hp_setObj w3 _ _ _ hl, ← hw4] at hq
        have hm2 : Marks ([{ target := .collected w.heap.size, args := #[] }] ++ D) ws w4 := by
          obtain ⟨h0, rs, h1, h2, h3⟩ := hmk
          refine ⟨Nat.le_trans h0 hall.size, w.heap.size :: rs, by rw [h1]; rfl, List.nodup_cons.2 ⟨fun hc => ?_, h2⟩, fun x hx => ?_⟩
          · have := (h3 _ hc).2
            simp at this
          · rcases List.mem_cons.1 hx with rfl | hx
            · refine ⟨by simp; omega, (hr3.trans hr4).dfr _ _ ?_⟩
              show ((w.heap.push (Obj.deferred (some []))).push (.loop lr))[w.heap.size]? = _
              rw [Array.getElem?_push, if_neg (by simp), Array.getElem?_push, if_pos rfl]
            · exact ⟨(h3 x hx).1, hall.dfr _ _ (h3 x hx).2⟩
        have hf2 : Fits n ([{ target := .collected w.heap.size, args := #[] }] ++ D) ρ { a with defers := [{ target := .collected w.heap.size, args := #[] }] ++ a.defers } := ⟨hf.size, hf.tmp, by rw [hf.defers]⟩
        split at hq
        · rename_i hp0
          rw [hp0]
          exact ⟨ρ, _, hf2, hq, hall, hm2⟩
        · rename_i hp0
          rw [hp0]
          exact wpIn_ret ⟨ρ, _, hf2, hq, hall, hm2⟩
        · rename_i hp0
          rw [hp0]
          exact wpIn_exit ⟨ρ, _, hf2, hq, hall, hm2⟩
        · rename_i hp0
          rw [hp0]
          exact wpIn_goto ⟨ρ, _, hf2, hq, hall, hm2⟩
        · exact hq.elim
  · exact round_of (n := n) (bind_fits ps.toList vs hps (fits_of hf)) (fun {ρ D a ws w' Q} hf hm h => hA (w.heap.size + 1) (by rw [codeOk_some _ 0]; exact hokA) hf hm h) (fun {ρ D a ws w' Q} hf hm h => hB (w.heap.size + 1) (by rw [codeOk_some _ 0]; exact hokB) hf hm h) hr

mutual
theorem code_of {P : Program} (hm : P.follows .mixedOrders = true) {plan : Plan} {n : Nat} : ∀ (r : Option Nat) (c : Code) {Q : Post} {ρ : Env} {D : List Deferred} {a : Act} {ws : World × List Deferred} {w : World},
    codeOk P n plan r c = true → Fits n D ρ a → Marks D ws w → CodeW P plan c ρ (hp w) Q → c.wpIn (Fw r) 0 P (Lift n ws w Q) a w
  | r, .skip, Q, ρ, D, a, ws, w, _, hf, hmk, h => by simp only [CodeW] at h; exact wpIn_skip ⟨ρ, D, hf, h, .refl w, hmk⟩
  | r, .label _, Q, ρ, D, a, ws, w, _, hf, hmk, h => by simp only [CodeW] at h; exact wpIn_label ⟨ρ, D, hf, h, .refl w, hmk⟩
  | r, .region id ops draw, Q, ρ, D, a, ws, w, hok, hf, hmk, h => region_of hm hok hf hmk h
  | r, .seq x y, Q, ρ, D, a, ws, w, hok, hf, hmk, h => by
    simp only [codeOk, Bool.and_eq_true] at hok
    simp only [CodeW] at h
    refine wpIn_seq (wpIn_mono (code_of hm r x hok.1 hf hmk h) fun e a' w' hq => ?_)
    obtain ⟨ρ', D', hf', hq, hr, hmk'⟩ := hq
    cases e with
    | normal => exact wpIn_mono (code_of hm r y hok.2 hf' hmk' hq) fun e a'' w'' ⟨ρ'', D'', hf'', hq'', hr'', hmk''⟩ => ⟨ρ'', D'', hf'', hq'', hr.trans hr'', hmk''⟩
    | _ => exact ⟨ρ', D', hf', hq, hr, hmk'⟩
  | r, .cond c x y, Q, ρ, D, a, ws, w, hok, hf, hmk, h => by
    simp only [codeOk, Bool.and_eq_true] at hok
    have he : a.eval c = ev ρ c := eval_ev hf c fun t ht => by have := hok.1.1; rw [ht] at this; simpa [opdIn] using this
    simp only [CodeW] at h
    split at h
    · rename_i t ht
      rw [ht] at he
      rcases IfB.elim h with ⟨rfl, h⟩ | ⟨rfl, h⟩
      · exact wpIn_cond_true he (code_of hm r x hok.1.2 hf hmk h)
      · exact wpIn_cond_false he (code_of hm r y hok.2 hf hmk h)
    · exact h.elim
  | r, .block id c, Q, ρ, D, a, ws, w, hok, hf, hmk, h => by
    simp only [codeOk] at hok
    simp only [CodeW] at h
    refine wpIn_block (wpIn_mono (code_of hm r c hok hf hmk h) fun e a' w' hq => ?_)
    obtain ⟨ρ', D', hf', hq, hr, hmk'⟩ := hq
    cases e with
    | exit i =>
      simp only [blockK] at hq
      simp only [Exit.inBlock]
      cases hb : Nat.beq i id with
      | true =>
        rw [hb] at hq
        rw [if_pos (Nat.eq_of_beq_eq_true hb)]
        exact ⟨ρ', D', hf', hq, hr, hmk'⟩
      | false =>
        rw [hb] at hq
        rw [if_neg (fun e => by subst e; rw [Nat.beq_refl] at hb; cases hb)]
        exact ⟨ρ', D', hf', hq, hr, hmk'⟩
    | _ => exact ⟨ρ', D', hf', hq, hr, hmk'⟩
  | r, .loop c, Q, ρ, D, a, ws, w, hok, hf, hmk, h => by
    simp only [codeOk, Bool.and_eq_true] at hok
    obtain ⟨hok, hfix⟩ := hok
    simp only [CodeW] at h
    cases hu : unrOf (firstRegion c) plan.unr with
    | some m =>
      simp only [hu] at h
      refine wpIn_loop' (fun m a1 w1 => ∃ ρ D, Fits n D ρ a1 ∧ Marks D ws w1 ∧ Rest w w1 ∧ unrollC (fun ρ H Q => CodeW P plan c ρ H Q) m ρ (hp w1) Q) (fun m a1 w1 hI => ?_) ⟨ρ, D, hf, hmk, .refl w, h⟩
      obtain ⟨ρ1, D1, hf1, hmk1, hr1, h1⟩ := hI
      cases m with
      | zero => exact h1.elim
      | succ m =>
        refine wpIn_mono (code_of hm r c hok hf1 hmk1 h1) fun e a2 w2 hq => ?_
        obtain ⟨ρ2, D2, hf2, hq, hr2, hmk2⟩ := hq
        cases e <;> simp only [nextK, isNorm] at hq <;> simp only [Exit.then]
        case normal => exact ⟨m, Nat.lt_succ_self m, ρ2, D2, hf2, hmk2, hr1.trans hr2, hq⟩
        all_goals exact ⟨ρ2, D2, hf2, hq, hr1.trans hr2, hmk2⟩
    | none =>
    simp only [hu] at h hfix
    obtain ⟨J, ⟨k, h0⟩, hJ⟩ := loopC_head (fun hq => CodeW.mono c hq) (fun f hf' {Q} ρ H h => CodeW.keeps c (by
      split at hf'
      · rename_i hl'
        rw [hl'] at hfix
        exact List.all_eq_true.1 hfix f (memB_iff.1 hf')
      · cases hf') ρ H h) h
    refine wpIn_loop' (fun k a' w' => ∃ ρ' D', Fits n D' ρ' a' ∧ J k ρ' (hp w') ∧ Rest w w' ∧ Marks D' ws w') (fun k a' w' hI => ?_) ⟨ρ, D, hf, h0, .refl w, hmk⟩
    obtain ⟨ρ', D', hf', hI, hr, hmk'⟩ := hI
    refine wpIn_mono (code_of hm r c hok hf' hmk' (hJ k ρ' _ hI)) fun e a'' w'' hq => ?_
    obtain ⟨ρ'', D'', hf'', hq, hr'', hmk''⟩ := hq
    unfold nextK at hq
    cases e <;> simp only [isNorm] at hq <;> simp only [Exit.then]
    case normal =>
      obtain ⟨k', hlt, hI'⟩ := hq
      exact ⟨k', hlt, ρ'', D'', hf'', hI', hr.trans hr'', hmk''⟩
    all_goals exact ⟨ρ'', D'', hf'', hq, hr.trans hr'', hmk''⟩
  | some l0, .scope c, Q, ρ, D, a, ws, w, hok, hf, hmk, h => by simp only [codeOk, Option.isNone_some, Bool.false_and] at hok; cases hok
  | none, .scope c, Q, ρ, D, a, ws, w, hok, hf, hmk, h => by
    simp only [codeOk, Option.isNone_none, Bool.true_and, Bool.and_eq_true] at hok
    obtain ⟨hok, hfix⟩ := hok
    refine (wpIn_wide (n := 0)).2 ?_
    intro b kk cs
    let Ft : Env → Act → World → Prop := fun ρ' a1 w1 => ∃ D', Fits n D' ρ' a1 ∧ Marks D' ws w1
    have mk : ∀ {e : Exit} {ρ' : Env} {a1 : Act} {w1 : World}, Ft ρ' a1 w1 → Q e ρ' (hp w1) → Rest w w1 → Lift n ws w Q e a1 w1 := fun {e ρ' a1 w1} ⟨D', h1, h2⟩ h3 h4 => ⟨ρ', D', h1, h3, h4, h2⟩
    -- what an end of the code inside ends in
    let Fin : Exit → Act → World → Prop := fun e a1 w1 => ∀ X, Arrives P X b (.inScope c :: kk) cs e a1 w1 → ∃ e' a' w', Lift n ws w Q e' a' w' ∧ Arrives P X b kk cs e' a' w'
    have out : ∀ (e : Exit) ρ' a1 w1, (∀ l, e = .goto l → hasLbl c l = false) → Ft ρ' a1 w1 → Rest w w1 → Q e ρ' (hp w1) → Fin e a1 w1 := by
      intro e ρ' a1 w1 hl hf1 hr hq X hX
      cases e with
      | normal => exact ⟨.normal, a1, w1, mk hf1 hq hr, Steps.trans hX (.one step_inScope)⟩
      | exit id => exact ⟨.exit id, a1, w1, mk hf1 hq hr, fun k' hk => hX k' (by simp [exitTo, hk])⟩
      | goto l =>
        refine ⟨.goto l, a1, w1, mk hf1 hq hr, fun k' hk => hX k' ?_⟩
        have : findLabel c l = none := by
          have := hl l rfl
          rw [hasLbl_find] at this
          cases hfl : findLabel c l with
          | none => rfl
          | some _ => rw [hfl] at this; cases this
        simp [gotoIn, this, hk]
      | ret => exact ⟨_, a1, w1, mk hf1 hq hr, hX⟩
      | panic ch => exact ⟨_, a1, w1, mk hf1 hq hr, hX⟩
      | outgrown => exact ⟨_, a1, w1, mk hf1 hq hr, hX⟩
    -- a jump to a label inside
    have jump : ∀ (l : Nat) (Q' : Post) ρ' a1 w1, Ft ρ' a1 w1 → Rest w w1 → CodeFr P plan c l ρ' (hp w1) Q' → (∀ e ρ'' a2 w2, Ft ρ'' a2 w2 → Rest w w2 → Q' e ρ'' (hp w2) → Fin e a2 w2) → Fin (.goto l) a1 w1 := by
      intro l Q' ρ' a1 w1 hf1 hr h1 hfin X hX
      obtain ⟨D1, hf1, hm1⟩ := hf1
      obtain ⟨rest, hrest, hwp⟩ := fr_of hm c l hok hf1 hm1 h1
      have hwp := (wpIn_wide (n := 0)).1 hwp
      have hX := hX (.code rest :: .inScope c :: kk) (by simp [gotoIn, hrest])
      obtain ⟨e2, a2, w2, ⟨ρ2, D2, hf2, hq2, hr2, hm2⟩, harr⟩ := hwp b (.inScope c :: kk) cs
      exact hfin e2 ρ2 a2 w2 ⟨D2, hf2, hm2⟩ (hr.trans hr2) hq2 X (.of_steps hX harr)
    have gfin : ∀ (L : Nat → Bool) (Q0 : Post), (∀ (e : Exit) ρ' a1 w1, (∀ l, e = .goto l → L l = false) → Ft ρ' a1 w1 → Rest w w1 → Q0 e ρ' (hp w1) → Fin e a1 w1) →
        ∀ m (e : Exit) ρ' a1 w1, Ft ρ' a1 w1 → Rest w w1 → gotoK (fun l ρ H Q => CodeFr P plan c l ρ H Q) L m Q0 e ρ' (hp w1) → Fin e a1 w1 := by
      intro L Q0 h0 m
      induction m with
      | zero =>
        intro e ρ' a1 w1 hf1 hr h1
        rcases goto_cases e with ⟨l, rfl⟩ | he
        · cases hl : L l with
          | true => rw [gotoK_zero hl] at h1; exact h1.elim
          | false => rw [gotoK_no hl] at h1; exact h0 _ _ _ _ (fun l' e => by cases e; exact hl) hf1 hr h1
        · rw [gotoK_else he] at h1; exact h0 _ _ _ _ (fun l e => absurd e (he l)) hf1 hr h1
      | succ m ih =>
        intro e ρ' a1 w1 hf1 hr h1
        rcases goto_cases e with ⟨l, rfl⟩ | he
        · cases hl : L l with
          | true => rw [gotoK_yes hl] at h1; exact jump l _ ρ' a1 w1 hf1 hr h1 ih
          | false => rw [gotoK_no hl] at h1; exact h0 _ _ _ _ (fun l' e => by cases e; exact hl) hf1 hr h1
        · rw [gotoK_else he] at h1; exact h0 _ _ _ _ (fun l e => absurd e (he l)) hf1 hr h1
    have close : ∀ (Q2 : Post), (∀ e ρ' a1 w1, Ft ρ' a1 w1 → Rest w w1 → Q2 e ρ' (hp w1) → Fin e a1 w1) → CodeW P plan c ρ (hp w) Q2 → ∃ e a' w', Lift n ws w Q e a' w' ∧ Arrives P (lone (b.at a (.code (.scope c) :: kk)) cs w) b kk cs e a' w' := by
      intro Q2 h2 hc
      obtain ⟨e, a1, w1, ⟨ρ1, D1, hf1, hq1, hr1, hm1⟩, harr⟩ := (wpIn_wide (n := 0)).1 (code_of hm none c hok hf hmk hc) b (.inScope c :: kk) cs
      exact h2 e ρ1 a1 w1 ⟨D1, hf1, hm1⟩ hr1 hq1 _ (.of_steps (.one step_scope) harr)
    simp only [CodeW] at h
    split at h
    · exact close _ (fun e ρ' a1 w1 => gfin (hasLbl c) Q out _ e ρ' a1 w1) h
    · rename_i l hl
      rw [hl] at hfix
      simp only [Bool.and_eq_true] at hfix
      obtain ⟨hlab, hfix⟩ := hfix
      have hfix : ∀ f, (match loopOf (lblKey l) plan.loops with | some (_, _, fixed) => memB f fixed | none => false) = true → keepsF plan f c = true := by
        intro f hf'
        split at hf'
        · rename_i hl'
          rw [hl'] at hfix
          exact List.all_eq_true.1 hfix f (memB_iff.1 hf')
        · cases hf'
      -- the loop's head
      have base : ∀ (J : Env → Heap → Prop), (∀ ρ' a1 w1, Ft ρ' a1 w1 → Rest w w1 → J ρ' (hp w1) → Fin (.goto l) a1 w1) → ∀ (e : Exit) ρ' a1 w1, (∀ l', e = .goto l' → others c l l' = false) → Ft ρ' a1 w1 → Rest w w1 → nextK (isGoto l) J Q e ρ' (hp w1) → Fin e a1 w1 := by
        intro J hJ e ρ' a1 w1 he hf1 hr h1
        unfold nextK at h1
        split at h1
        · rename_i hg
          have : e = .goto l := by
            cases e <;> simp only [isGoto] at hg <;> first | (cases hg; done) | (rw [Nat.eq_of_beq_eq_true hg])
          subst this
          exact hJ ρ' a1 w1 hf1 hr h1
        · rename_i hg
          refine out e ρ' a1 w1 (fun l' e' => ?_) hf1 hr h1
          subst e'
          simp only [isGoto] at hg
          have := he l' rfl
          simpa [others, hg] using this
      have gk := fun (l : Nat) {Q Q' : Post} (hq : ∀ e ρ H, Q e ρ H → Q' e ρ H) => CodeFr.mono (P := P) (plan := plan) c l hq
      have head : ∀ ρ' a1 w1, Ft ρ' a1 w1 → Rest w w1 → LoopC plan (lblKey l) (fun ρ H Q => CodeFr P plan c l ρ H (gotoK (fun l ρ H Q => CodeFr P plan c l ρ H Q) (others c l) (nLbl c) Q)) (isGoto l) ρ' (hp w1) Q →
          ∃ J : Nat → Env → Heap → Prop, (∃ k, J k ρ' (hp w1)) ∧ (∀ k ρ'' H'', J k ρ'' H'' → CodeFr P plan c l ρ'' H'' (gotoK (fun l ρ H Q => CodeFr P plan c l ρ H Q) (others c l) (nLbl c) (nextK (isGoto l) (fun ρ3 H3 => ∃ k', k' < k ∧ J k' ρ3 H3) Q))) ∧
            ∀ k ρ'' a2 w2, Ft ρ'' a2 w2 → Rest w w2 → J k ρ'' (hp w2) → Fin (.goto l) a2 w2 := by
        intro ρ' a1 w1 hf1 hr h1
        obtain ⟨J, h0, hJ⟩ := loopC_head (fun hq => CodeFr.mono c l (gotoK.mono gk _ hq)) (fun f hf' {Q} ρ H h => CodeFr.mono c l (fun e ρ' H' h => gotoK.keeps (v := ρ f) (fun l _ ρ H h => CodeFr.keeps c l (hfix f hf') ρ H h) gk (nLbl c) e ρ' H' h.1 h.2) ρ H (CodeFr.keeps c l (hfix f hf') ρ H h)) h1
        refine ⟨J, h0, hJ, fun k => ?_⟩
        induction k using Nat.strongRecOn with
        | _ k ih =>
          intro ρ'' a2 w2 hf2 hr2 hJ2
          refine jump l _ ρ'' a2 w2 hf2 hr2 (hJ k ρ'' _ hJ2) fun e ρ3 a3 w3 hf3 hr3 h3 => ?_
          refine gfin (others c l) _ (base _ fun ρ4 a4 w4 hf4 hr4 h4 => ?_) _ e ρ3 a3 w3 hf3 hr3 h3
          obtain ⟨k', hlt, h4⟩ := h4
          exact ih k' hlt ρ4 a4 w4 hf4 hr4 h4
      have headF : ∀ ρ' a1 w1, Ft ρ' a1 w1 → Rest w w1 → LoopC plan (lblKey l) (fun ρ H Q => CodeFr P plan c l ρ H (gotoK (fun l ρ H Q => CodeFr P plan c l ρ H Q) (others c l) (nLbl c) Q)) (isGoto l) ρ' (hp w1) Q → Fin (.goto l) a1 w1 := by
        intro ρ' a1 w1 hf1 hr h1
        obtain ⟨J, ⟨k, h0⟩, _, hJ⟩ := head ρ' a1 w1 hf1 hr h1
        exact hJ k ρ' a1 w1 hf1 hr h0
      refine close (fun e ρ' H' => ∀ a1 w1, H' = hp w1 → Ft ρ' a1 w1 → Rest w w1 → Fin e a1 w1) (fun e ρ' a1 w1 hf1 hr h1 => h1 a1 w1 rfl hf1 hr) ?_
      refine be_code c l (fun e ρ' H' he h1 a1 w1 hH hf1 hr => ?_) ρ (hp w) h (fun ρ' H' h1 => ?_)
      · subst hH
        have hn : isNorm e = false := by cases e <;> first | rfl | exact absurd rfl he
        rw [nextK_no hn] at h1
        exact gfin (others c l) _ (base _ headF) _ e ρ' a1 w1 hf1 hr h1
      · -- from the label on, for whatever frame
        have h1 : LoopC plan (lblKey l) (fun ρ H Q => CodeFr P plan c l ρ H (gotoK (fun l ρ H Q => CodeFr P plan c l ρ H Q) (others c l) (nLbl c) Q)) (isGoto l) ρ' H' Q := h1
        obtain ⟨J, ⟨k, h0⟩, hJ⟩ := loopC_head (fun hq => CodeFr.mono c l (gotoK.mono gk _ hq)) (fun f hf' {Q} ρ H h => CodeFr.mono c l (fun e ρ' H' h => gotoK.keeps (v := ρ f) (fun l _ ρ H h => CodeFr.keeps c l (hfix f hf') ρ H h) gk (nLbl c) e ρ' H' h.1 h.2) ρ H (CodeFr.keeps c l (hfix f hf') ρ H h)) h1
        have hJF : ∀ k ρ'' a2 w2, Ft ρ'' a2 w2 → Rest w w2 → J k ρ'' (hp w2) → Fin (.goto l) a2 w2 := by
          intro k
          induction k using Nat.strongRecOn with
          | _ k ih =>
            intro ρ'' a2 w2 hf2 hr2 hJ2
            refine jump l _ ρ'' a2 w2 hf2 hr2 (hJ k ρ'' _ hJ2) fun e ρ3 a3 w3 hf3 hr3 h3 => ?_
            refine gfin (others c l) _ (base _ fun ρ4 a4 w4 hf4 hr4 h4 => ?_) _ e ρ3 a3 w3 hf3 hr3 h3
            obtain ⟨k', hlt, h4⟩ := h4
            exact ih k' hlt ρ4 a4 w4 hf4 hr4 h4
        refine CodeFr.mono c l (fun e ρ'' H'' h2 a2 w2 hH hf2 hr2 => ?_) ρ' H' (hJ k ρ' H' h0)
        subst hH
        exact gfin (others c l) _ (base _ fun ρ4 a4 w4 hf4 hr4 ⟨k', _, h4⟩ => hJF k' ρ4 a4 w4 hf4 hr4 h4) _ e ρ'' a2 w2 hf2 hr2 h2
  | r, .exit id, Q, ρ, D, a, ws, w, _, hf, hmk, h => by simp only [CodeW] at h; exact wpIn_exit ⟨ρ, D, hf, h, .refl w, hmk⟩
  | r, .ret, Q, ρ, D, a, ws, w, _, hf, hmk, h => by simp only [CodeW] at h; exact wpIn_ret ⟨ρ, D, hf, h, .refl w, hmk⟩
  | some l0, .rangeFunc g ps assign body, Q, ρ, D, a, ws, w, hok, hf, hmk, h => by simp only [codeOk, Option.isNone_some, Bool.false_and] at hok; cases hok
  | none, .rangeFunc g ps assign body, Q, ρ, D, a, ws, w, hok, hf, hmk, h => range_of hok hf hmk h (fun l {Q ρ D a w ws} hA hF hM hW => code_of hm (some l) assign hA hF hM hW) (fun l {Q ρ D a w ws} hB hF hM hW => code_of hm (some l) body hB hF hM hW)
  | r, .goto l, Q, ρ, D, a, ws, w, _, hf, hmk, h => by
    simp only [CodeW] at h
    exact wpIn_goto ⟨ρ, D, hf, h, .refl w, hmk⟩
  | r, .refuse _, _, _, _, _, _, _, _, _, _, h => by simp only [CodeW] at h
theorem fr_of {P : Program} (hm : P.follows .mixedOrders = true) {plan : Plan} {n : Nat} : ∀ (c : Code) (l : Nat) {Q : Post} {ρ : Env} {D : List Deferred} {a : Act} {ws : World × List Deferred} {w : World},
    codeOk P n plan none c = true → Fits n D ρ a → Marks D ws w → CodeFr P plan c l ρ (hp w) Q → ∃ rest, findLabel c l = some rest ∧ rest.wpIn (Fw none) 0 P (Lift n ws w Q) a w
  | .seq x y, l, Q, ρ, D, a, ws, w, hok, hf, hmk, h => by
    simp only [codeOk, Bool.and_eq_true] at hok
    simp only [CodeFr] at h
    split at h
    · obtain ⟨rest, hr, hwp⟩ := fr_of hm x l hok.1 hf hmk h
      refine ⟨.seq rest y, by simp [findLabel, hr], wpIn_seq (wpIn_mono hwp fun e a' w' hq => ?_)⟩
      obtain ⟨ρ', D', hf', hq, hr, hmk'⟩ := hq
      cases e with
      | normal => exact wpIn_mono (code_of hm none y hok.2 hf' hmk' hq) fun e a'' w'' ⟨ρ'', D'', hf'', hq'', hr'', hmk''⟩ => ⟨ρ'', D'', hf'', hq'', hr.trans hr'', hmk''⟩
      | _ => exact ⟨ρ', D', hf', hq, hr, hmk'⟩
    · rename_i hl
      obtain ⟨rest, hr, hwp⟩ := fr_of hm y l hok.2 hf hmk h
      have : findLabel x l = none := by
        rw [hasLbl_find] at hl
        cases hfl : findLabel x l with
        | none => rfl
        | some _ => rw [hfl] at hl; cases hl
      exact ⟨rest, by simp [findLabel, this, hr], hwp⟩
  | .label l', l, Q, ρ, D, a, ws, w, _, hf, hmk, h => by
    simp only [CodeFr] at h
    split at h
    · rename_i hl
      exact ⟨.skip, by simp [findLabel, Nat.eq_of_beq_eq_true hl], wpIn_skip ⟨ρ, D, hf, h, .refl w, hmk⟩⟩
    · exact h.elim
  | .skip, _, _, _, _, _, _, _, _, _, _, h => by simp only [CodeFr] at h
  | .region .., _, _, _, _, _, _, _, _, _, _, h => by simp only [CodeFr] at h
  | .cond .., _, _, _, _, _, _, _, _, _, _, h => by simp only [CodeFr] at h
  | .block .., _, _, _, _, _, _, _, _, _, _, h => by simp only [CodeFr] at h
  | .loop .., _, _, _, _, _, _, _, _, _, _, h => by simp only [CodeFr] at h
  | .rangeFunc .., _, _, _, _, _, _, _, _, _, _, h => by simp only [CodeFr] at h
  | .exit .., _, _, _, _, _, _, _, _, _, _, h => by simp only [CodeFr] at h
  | .scope .., _, _, _, _, _, _, _, _, _, _, h => by simp only [CodeFr] at h
  | .goto .., _, _, _, _, _, _, _, _, _, _, h => by simp only [CodeFr] at h
  | .ret, _, _, _, _, _, _, _, _, _, _, h => by simp only [CodeFr] at h
  | .refuse .., _, _, _, _, _, _, _, _, _, _, h => by simp only [CodeFr] at h
end


/-- What a function hands back. -/
def ResW (P : Program) (ρ : Env) (H : Heap) : List ResultVar → List Value → (Value → Prop) → Prop
  | [], acc, R => R (match acc with | [v] => v | vs => .tuple ⟨vs⟩)
  | .tmp t :: rs, acc, R => ResW P ρ H rs (acc ++ [ρ t]) R
  | .cell a t :: rs, acc, R => LoadW P t (ρ a) H fun v _ => ResW P ρ H rs (acc ++ [v]) R

def RetW (P : Program) (rs : List ResultVar) (R : Value → Heap → Prop) : Post := fun e ρ H => match e with
  | .normal => ResW P ρ H rs [] fun v => R v H
  | .ret => ResW P ρ H rs [] fun v => R v H
  | _ => False

theorem run_loadCellsFrom {P : Program} {w : World} {a : Addr} : ∀ (n i : Nat) (acc : Array Value) (vs : List Value), vs.length = n →
    (∀ j, j < vs.length → w.cell? (a.add (i + j)) = vs[j]?) → (loadCellsFrom a i n acc).run P w = .ok ⟨acc.toList ++ vs⟩ w := by
  intro n
  induction n with
  | zero =>
    intro i acc vs hl _
    obtain rfl : vs = [] := by simpa using hl
    simp [loadCellsFrom]
  | succ n ih =>
    intro i acc vs hl hc
    cases vs with
    | nil => simp at hl
    | cons v vs =>
      have h0 := hc 0 (by simp)
      simp only [Nat.add_zero, List.getElem?_cons_zero] at h0
      have hr : (load (a.add i)).run P w = .ok v w := by simp [load, Sem.run, h0]
      have := ih (i + 1) (acc.push v) vs (by simpa using hl) (fun j hj => by
        have := hc (j + 1) (by simpa using hj)
        simpa [Nat.add_assoc, Nat.add_comm 1 j] using this)
      simp only [loadCellsFrom, Sem.run_bind, hr, Result.andThen_ok, this]
      simp

theorem run_isAggB {P : Program} {t : TypeId} {b : Bool} (w : World) (h : isAggB P t = some b) : (isAgg t).run P w = .ok b w := by
  unfold isAggB at h
  cases hu : P.underlying t with
  | none => rw [hu] at h; cases h
  | some d =>
    rw [hu] at h
    unfold isAgg
    rw [Sem.run_bind, run_underlying hu]
    cases d <;> simp at h <;> subst h <;> rfl

theorem run_sizeOf' {P : Program} {t : TypeId} {i : TypeInfo} (w : World) (h : P.info? t = some i) : (sizeOf t).run P w = .ok i.size w := by
  simp [sizeOf, typeInfo, h]

theorem LoadW.run {P : Program} {t : TypeId} {v : Value} {w : World} {K : Value → Heap → Prop} (h : LoadW P t v (hp w) K) : ∃ a x, v = .pointer (some a) ∧ (loadVar t a).run P w = .ok x w ∧ K x (hp w) := by
  unfold LoadW at h
  split at h
  · rename_i a
    refine ⟨a, ?_⟩
    split at h
    · rename_i hb
      obtain ⟨v, hv, hk⟩ := leafEx.elim h
      rw [hp_cell] at hv
      refine ⟨v, rfl, ?_, hk⟩
      unfold loadVar
      rw [Sem.run_bind, run_isAggB w hb]
      simp [load, Sem.run, hv]
    · rename_i hb
      obtain ⟨i, hi⟩ := info_of_isAgg hb
      have hs : P.cellsOf t = i.size := by simp [Program.cellsOf, hi]
      rw [hs] at h
      have key : ∃ cs : List Value, cs.length = i.size ∧ (∀ j, j < cs.length → (hp w).cell (a.add j) = cs[j]?) ∧ K (.agg ⟨cs⟩) (hp w) := by
        split at h
        · rename_i hc
          obtain ⟨vs, hl, hcs, hk⟩ := ldCells.elim _ _ _ h
          refine ⟨vs, ?_, fun j hj => by simpa using hcs j hj, by simpa using hk⟩
          rw [hl]
          simp only [Bool.and_eq_true] at hc
          exact Nat.eq_of_beq_eq_true hc.2
        · exact h
      obtain ⟨cs, hl, hc, hk⟩ := key
      refine ⟨.agg ⟨cs⟩, rfl, ?_, hk⟩
      unfold loadVar
      rw [Sem.run_bind, run_isAggB w hb]
      have := run_loadCellsFrom (P := P) (w := w) (a := a) i.size 0 #[] cs hl (fun j hj => by have := hc j hj; rw [hp_cell] at this; simpa using this)
      simp only [Result.andThen_ok, if_true, Sem.run_bind, run_sizeOf' w hi, loadCells, this]
      simp
    · exact h.elim
  · exact h.elim

def resOp (tmps : Array Value) (r : ResultVar) : Sem Value := match r with
  | .tmp t => pure (tmps.getD t undef)
  | .cell b t => do loadVar t (← asAddr (tmps.getD b undef))

theorem results_eq (fn : Func) (tmps : Array Value) : results fn tmps = (do let vs ← fn.results.mapM (resOp tmps); pure (if h : vs.size = 1 then vs[0] else .tuple vs)) := rfl

theorem run_results {D : List Deferred} {P : Program} {fn : Func} {n : Nat} {ρ : Env} {a : Act} {w : World} {R : Value → Prop} (hf : Fits n D ρ a)
    (hin : fn.results.toList.all (fun r => match r with | .tmp t => Nat.blt t n | .cell t _ => Nat.blt t n) = true) (h : ResW P ρ (hp w) fn.results.toList [] R) :
    ∃ v, (results fn a.tmps).run P w = .ok v w ∧ R v := by
  have key : ∀ (rs : List ResultVar) (acc : List Value), rs.all (fun r => match r with | .tmp t => Nat.blt t n | .cell t _ => Nat.blt t n) = true → ResW P ρ (hp w) rs acc R →
      ∃ vs, (rs.mapM (resOp a.tmps)).run P w = .ok vs w ∧ R (match acc ++ vs with | [v] => v | vs => .tuple ⟨vs⟩) := by
    intro rs
    induction rs with
    | nil => intro acc _ h; exact ⟨[], by simp, by rw [List.append_nil]; exact h⟩
    | cons r rs ih =>
      intro acc hin h
      simp only [List.all_cons, Bool.and_eq_true] at hin
      cases r with
      | tmp t =>
        obtain ⟨vs, hvs, hR⟩ := ih _ hin.2 h
        have ht : t < n := by simpa using hin.1
        refine ⟨ρ t :: vs, ?_, by simpa using hR⟩
        rw [List.mapM_cons, Sem.run_bind]
        simp only [resOp, hf.tmp t ht, Sem.run_pure, Result.andThen_ok, Sem.run_bind, hvs]
      | cell b t =>
        have hb : b < n := by simpa using hin.1
        simp only [ResW] at h
        obtain ⟨ad, x, hx, hr, hk⟩ := LoadW.run h
        obtain ⟨vs, hvs, hR⟩ := ih _ hin.2 hk
        refine ⟨x :: vs, ?_, by simpa using hR⟩
        rw [List.mapM_cons, Sem.run_bind]
        have : (do loadVar t (← asAddr (a.tmps.getD b undef)) : Sem Value).run P w = .ok x w := by
          rw [hf.tmp b hb, hx, Sem.run_bind]
          simp [asAddr, hr]
        change ((do loadVar t (← asAddr (a.tmps.getD b undef)) : Sem Value).run P w).andThen _ = _
        simp only [this, Result.andThen_ok, Sem.run_bind, hvs, Sem.run_pure]
  obtain ⟨vs, hvs, hR⟩ := key _ [] hin h
  refine ⟨_, ?_, hR⟩
  rw [results_eq, Array.mapM_eq_mapM_toList]
  simp only [Sem.run_bind, map_eq_pure_bind, hvs, Result.andThen_ok, Sem.run_pure]
  congr 1
  cases vs with
  | nil => rfl
  | cons v vs =>
    cases vs with
    | nil => rfl
    | cons => rfl

def env0 (args : List Value) : Env := fun i => args.getD i undef

/-- What is to be seen of a function's text, once. -/
structure Known (P : Program) (f : FuncId) (fn : Func) (plan : Plan) (c : Code) : Prop where
  isF : P.funcs[f]? = some fn
  body : fn.body = some c
  name : (fn.name == "runtime.NumGoroutine") = false
  mixed : P.follows .mixedOrders = true
  ok : codeOk P fn.ntmps plan none c = true
  res : fn.results.toList.all (fun r => match r with | .tmp t => Nat.blt t fn.ntmps | .cell t _ => Nat.blt t fn.ntmps) = true

/-- The marks of a frame that leaves are taken; the blocks are shut. -/
def Shut (H0 H H' : Heap) : Prop := ∀ b : Nat, H' b = H b ∨ (H0 b = none ∧ H b = some (.deferred (some [])) ∧ H' b = some (.deferred none))
theorem Shut.refl (H0 H : Heap) : Shut H0 H H := fun _ => .inl rfl
theorem Shut.cell {H0 H H' : Heap} (h : Shut H0 H H') (a : Addr) : H'.cell a = H.cell a := by
  unfold Heap.cell
  rcases h a.block with e | ⟨_, e1, e2⟩
  · rw [e]
  · rw [e1, e2]
theorem resW_shut {P : Program} {ρ : Env} {H0 H H' : Heap} (hs : Shut H0 H H') {R : Value → Prop} : ∀ {rs : List ResultVar} {acc : List Value}, ResW P ρ H rs acc R → ResW P ρ H' rs acc R
  | [], _, h => h
  | .tmp t :: rs, acc, h => by simp only [ResW] at h ⊢; exact resW_shut hs h
  | .cell a t :: rs, acc, h => by
    simp only [ResW] at h ⊢
    obtain ⟨v, hk, hl⟩ := LoadW.read h
    exact hl H' _ (fun _ _ p _ v hv => by rw [hs.cell]; exact hv) (resW_shut hs hk)
theorem run_takeDeferred {P : Program} {w : World} {r : Nat} (h : w.heap[r]? = some (.deferred (some []))) : (Instr.takeDeferred r).run P w = .ok [] { w with heap := w.heap.setIfInBounds r (.deferred none) } := by
  unfold Instr.takeDeferred
  simp [Sem.run_bind, getObj, setObj, Sem.run, h]
theorem leaves_to {P : Program} {fn : Func} {tmps : Array Value} {R : Ending → World → Prop} {ws : World} {T : List Deferred} : ∀ (rs : List Nat) (w : World), rs.Nodup → (∀ r ∈ rs, ws.heap[r]? = none ∧ w.heap[r]? = some (.deferred (some []))) →
    (∀ w', Shut (hp ws) (hp w) (hp w') → w'.os = w.os → w'.tape = w.tape → w'.output = w.output → w'.heap.size = w.heap.size → LeavesInM Fence.wide 0 P fn tmps R T .returning w') →
    LeavesInM Fence.wide 0 P fn tmps R (rs.map (fun r => { target := .collected r, args := #[] }) ++ T) .returning w
  | [], w, _, _, h => h w (Shut.refl _ _) rfl rfl rfl rfl
  | r :: rs, w, hn, hr, h => by
    simp only [List.map_cons, List.cons_append, LeavesInM]
    obtain ⟨h0, h1⟩ := hr r (by simp)
    refine ⟨(fun h => by cases h), .inl ⟨r, _, rfl, run_takeDeferred h1, ?_⟩⟩
    have hq := hp_setObj w r (.deferred none) _ h1
    refine leaves_to rs _ (List.nodup_cons.1 hn).2 (fun x hx => ⟨(hr x (by simp [hx])).1, ?_⟩) fun w' hs e1 e2 e3 e4 => h w' (fun b => ?_) e1 e2 e3 (by rw [e4]; simp)
    · have hne : r ≠ x := fun e => (List.nodup_cons.1 hn).1 (e ▸ hx)
      show (w.heap.setIfInBounds r (Obj.deferred none))[x]? = _
      rw [Array.getElem?_setIfInBounds, if_neg hne]
      exact (hr x (by simp [hx])).2
    · by_cases e : b = r
      · subst e
        have h2 : (hp { w with heap := w.heap.setIfInBounds b (.deferred none) }) b = some (.deferred none) := by rw [hq]; simp [Heap.upd]
        rcases hs b with h3 | ⟨_, h3, _⟩
        · exact .inr ⟨h0, h1, h3.trans h2⟩
        · rw [h2] at h3; cases h3
      · have h2 : (hp { w with heap := w.heap.setIfInBounds r (.deferred none) }) b = hp w b := by rw [hq]; simp [Heap.upd, e]
        rcases hs b with h3 | ⟨h3, h4, h5⟩
        · exact .inl (h3.trans h2)
        · exact .inr ⟨h3, h2 ▸ h4, h5⟩

/-- An environment that holds what is handed in; what it says of temporaries that there are not is free. -/
def EnvOf (n : Nat) (args : List Value) (ρ : Env) : Prop := ∀ t, t < n → ρ t = env0 args t
theorem FnW.of_env {P : Program} {f : FuncId} {fn : Func} {plan : Plan} {c : Code} (k : Known P f fn plan c) {args : List Value} (hlen : Nat.ble args.length fn.ntmps = true) {H : Heap} {ρ : Env} (hρ : EnvOf fn.ntmps args ρ) {R : Value → Heap → Prop}
    (h : CodeW P plan c ρ H (RetW P fn.results.toList fun v H' => ∀ H'', Shut H H' H'' → R v H'')) : FnW P f ⟨args⟩ H R := by
  refine ⟨⟨fn, k.isF, k.name, by rw [k.body]; rfl⟩, ?_⟩
  rintro w rfl
  have hlen' := Nat.le_of_ble_eq_true hlen
  refine callsIn_wide.1 (callsIn_of_wp_marks (n := 0) k.isF k.body trivial ?_)
  have hf : Fits fn.ntmps [] ρ { tmps := (⟨args⟩ : Array Value) ++ Array.replicate (fn.ntmps - (⟨args⟩ : Array Value).size) undef, defers := [] } := by
    refine ⟨by simp; omega, fun t ht => ?_, rfl⟩
    rw [hρ t ht]
    simp only [env0, Array.getD_eq_getD_getElem?, List.getD_eq_getElem?_getD]
    rw [Array.getElem?_append]
    by_cases hlt : t < args.length
    · simp [hlt]
    · rw [if_neg (by simpa using hlt)]
      have : args[t]? = none := by simp; omega
      rw [this]
      simp only [Array.getElem?_replicate]
      split <;> rfl
  refine wpIn_mono (code_of k.mixed none c k.ok hf (Marks.nil w) h) fun e a w' hq => ?_
  obtain ⟨ρ', D, hf', hq, hr, h0, rs, rfl, hn, hm⟩ := hq
  have fin : ResW P ρ' (hp w') fn.results.toList [] (fun v => ∀ H'', Shut (hp w) (hp w') H'' → R v H'') → LeavesInM Fence.wide 0 P fn a.tmps (fun e w' => ∃ v, e = .returned v ∧ R v (hp w') ∧ Rest w w') a.defers .returning w' := fun hq => by
    rw [hf'.defers]
    refine leaves_to (ws := w) rs w' hn hm fun w'' hs e1 e2 e3 e4 => ?_
    show ∃ v, (results fn a.tmps).run P w'' = .ok v w'' ∧ _
    obtain ⟨v, hv, hR⟩ := run_results (w := w'') hf' k.res (resW_shut hs hq)
    refine ⟨v, hv, v, rfl, hR _ hs, ⟨e1.trans hr.os, e2.trans hr.tape, e3.trans hr.output, fun b ds hb => ?_, by rw [e4]; exact hr.size⟩⟩
    have h1 := hr.dfr b ds hb
    rcases hs b with h2 | ⟨h2, _, _⟩
    · have h2' : w''.heap[b]? = w'.heap[b]? := h2
      rw [h2']; exact h1
    · have h2' : w.heap[b]? = none := h2
      rw [h2'] at hb; cases hb
  cases e with
  | normal => exact fin hq
  | ret => exact fin hq
  | _ => exact hq.elim
theorem FnW.of_code {P : Program} {f : FuncId} {fn : Func} {plan : Plan} {c : Code} (k : Known P f fn plan c) {args : List Value} (hlen : Nat.ble args.length fn.ntmps = true) {H : Heap} {R : Value → Heap → Prop}
    (h : CodeW P plan c (env0 args) H (RetW P fn.results.toList fun v H' => ∀ H'', Shut H H' H'' → R v H'')) : FnW P f ⟨args⟩ H R := FnW.of_env k hlen (fun _ _ => rfl) h

end Go.Sh
