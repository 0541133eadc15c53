/-
  Code, loops, functions.
-/
import Derived.Test.YtinilfhnplfhoaaSh10
namespace Go.Sh

/-- What a temporary may hold at a loop's head. -/
inductive Kind where
  | int (k : IntKind) | bool | str | ptr | slice | any

def Tup : List Kind → Type
  | [] => Unit
  | .int _ :: ks => Int × Tup ks
  | .bool :: ks => Bool × Tup ks
  | .str :: ks => ByteArray × Tup ks
  | .ptr :: ks => Option Addr × Tup ks
  | .slice :: ks => (Option Addr × Nat × Nat) × Tup ks
  | .any :: ks => Value × Tup ks

def enc : (ks : List Kind) → Tup ks → List Value
  | [], _ => []
  | .int k :: ks, x => .int k x.1 :: enc ks x.2
  | .bool :: ks, x => .bool x.1 :: enc ks x.2
  | .str :: ks, x => .string x.1 :: enc ks x.2
  | .ptr :: ks, x => .pointer x.1 :: enc ks x.2
  | .slice :: ks, x => .slice x.1.1 x.1.2.1 x.1.2.2 :: enc ks x.2
  | .any :: ks, x => x.1 :: enc ks x.2

def dec : (ks : List Kind) → List Value → Option (Tup ks)
  | [], [] => some ()
  | .int k :: ks, .int k' n :: vs => match decide (k = k') with
    | true => match dec ks vs with | some x => some (n, x) | none => none
    | false => none
  | .bool :: ks, .bool b :: vs => match dec ks vs with | some x => some (b, x) | none => none
  | .str :: ks, .string b :: vs => match dec ks vs with | some x => some (b, x) | none => none
  | .ptr :: ks, .pointer b :: vs => match dec ks vs with | some x => some (b, x) | none => none
  | .slice :: ks, .slice a n c :: vs => match dec ks vs with | some x => some ((a, n, c), x) | none => none
  | .any :: ks, v :: vs => match dec ks vs with | some x => some (v, x) | none => none
  | _, _ => none

theorem enc_dec : ∀ (ks : List Kind) (vs : List Value) (x : Tup ks), dec ks vs = some x → enc ks x = vs
  | [], vs, x, h => by
    cases vs with
    | nil => rfl
    | cons v vs => simp [dec] at h
  | k :: ks, [], x, h => by cases k <;> simp [dec] at h
  | .int k :: ks, v :: vs, x, h => by
    cases v <;> simp only [dec] at h <;> first | (cases h; done) | skip
    split at h
    · rename_i hk
      split at h
      · rename_i y hy
        cases h
        have := enc_dec ks vs y hy
        simp only [enc, this, of_decide_eq_true hk]
      · cases h
    · cases h
  | .bool :: ks, v :: vs, x, h => by
    cases v <;> simp only [dec] at h <;> first | (cases h; done) | skip
    split at h
    · rename_i y hy; cases h; simp only [enc, enc_dec ks vs y hy]
    · cases h
  | .str :: ks, v :: vs, x, h => by
    cases v <;> simp only [dec] at h <;> first | (cases h; done) | skip
    split at h
    · rename_i y hy; cases h; simp only [enc, enc_dec ks vs y hy]
    · cases h
  | .ptr :: ks, v :: vs, x, h => by
    cases v <;> simp only [dec] at h <;> first | (cases h; done) | skip
    split at h
    · rename_i y hy; cases h; simp only [enc, enc_dec ks vs y hy]
    · cases h
  | .slice :: ks, v :: vs, x, h => by
    cases v <;> simp only [dec] at h <;> first | (cases h; done) | skip
    split at h
    · rename_i y hy; cases h; simp only [enc, enc_dec ks vs y hy]
    · cases h
  | .any :: ks, v :: vs, x, h => by
    simp only [dec] at h
    split at h
    · rename_i y hy; cases h; simp only [enc, enc_dec ks vs y hy]
    · cases h

def bindE : List Tmp → List Value → Env → Env
  | t :: ts, v :: vs, g => put (bindE ts vs g) (some t) v
  | _, _, g => g
def keepE : List Tmp → Env → Env → Env
  | [], _, g => g
  | t :: ts, ρ, g => put (keepE ts ρ g) (some t) (ρ t)

theorem bindE_same : ∀ (ts : List Tmp) (vs : List Value) (ρ : Env), ts.map ρ = vs → bindE ts vs ρ = ρ
  | [], _, ρ, _ => rfl
  | t :: ts, [], ρ, h => by simp at h
  | t :: ts, v :: vs, ρ, h => by
    simp only [List.map_cons, List.cons.injEq] at h
    rw [bindE, bindE_same ts vs ρ h.2]
    exact put_same h.1
theorem keepE_same : ∀ (ts : List Tmp) (ρ0 ρ : Env), (∀ f ∈ ts, ρ f = ρ0 f) → keepE ts ρ0 ρ = ρ
  | [], _, _, _ => rfl
  | t :: ts, ρ0, ρ, h => by
    rw [keepE, keepE_same ts ρ0 ρ (fun f hf => h f (List.mem_cons_of_mem _ hf))]
    exact put_same (h t List.mem_cons_self)

/-- For some regions an order that stands for all, and the loads that are done of kept blocks; for each loop (named by the first region in it) what its rounds hand on, and what they leave alone. -/
structure Plan where
  regs : List (Nat × List Nat × List Tmp)
  loops : List (Nat × List Tmp × List Kind × List Tmp)

def planOf (id : Nat) : List (Nat × List Nat × List Tmp) → Option (List Nat × List Tmp)
  | [] => none
  | (k, r) :: l => match Nat.beq id k with | true => some r | false => planOf id l
def loopOf (id : Nat) : List (Nat × List Tmp × List Kind × List Tmp) → Option (List Tmp × List Kind × List Tmp)
  | [] => none
  | (k, r) :: l => match Nat.beq id k with | true => some r | false => loopOf id l
def firstRegion : Code → Nat
  | .region id _ _ => id
  | .seq a _ => firstRegion a
  | .block _ c => firstRegion c
  | .loop c => firstRegion c
  | _ => 1000000

def DrawW (P : Program) (plan : Plan) (id : Nat) (ops : Array Oper) (ρ : Env) (H : Heap) (K : Env → Heap → Prop) : Prop :=
  match planOf id plan.regs with
  | none => OpsL ops (OpW P) ops.toList ρ H K
  | some (l, []) => OpsL ops (OpW P) (opsAt ops l) ρ H K
  | some (l, c :: C) => ∃ bs : List Nat, (∀ b ∈ bs, ∃ o, H b = some o) ∧ OpsL ops (KeptS P (c :: C) bs H) (opsAt ops (l.take (headN ops l))) ρ H fun ρ' H' => OpsL ops (OpW P) (opsAt ops (l.drop (headN ops l))) ρ' H' K

abbrev Post := Exit → Env → Heap → Prop

def thenK (K : Env → Heap → Prop) (Q : Post) : Post := fun e ρ H => match e with
  | .normal => K ρ H
  | e => Q e ρ H
def blockK (id : Nat) (Q : Post) : Post := fun e ρ H => match e with
  | .exit i => match Nat.beq i id with | true => Q .normal ρ H | false => Q (.exit i) ρ H
  | e => Q e ρ H

/-- A loop: what holds at the head of each round, which goes down. -/
def LoopI (T : Type) (x0 : T) (H : Heap) (body : T → Heap → (T → Heap → Prop) → Prop) : Prop :=
  ∃ (I : Nat → T → Heap → Prop) (k : Nat), I k x0 H ∧ ∀ k x H, I k x H → body x H fun x' H' => ∃ k', k' < k ∧ I k' x' H'

def CodeW (P : Program) (plan : Plan) : Code → Env → Heap → Post → Prop
  | .skip, ρ, H, Q => Q .normal ρ H
  | .label _, ρ, H, Q => Q .normal ρ H
  | .region id ops draw, ρ, H, Q => match draw with
    | true => DrawW P plan id ops ρ H fun ρ' H' => Q .normal ρ' H'
    | false => OpsL ops (OpW P) ops.toList ρ H fun ρ' H' => Q .normal ρ' H'
  | .seq a b, ρ, H, Q => CodeW P plan a ρ H (thenK (fun ρ' H' => CodeW P plan b ρ' H' Q) Q)
  | .cond c x y, ρ, H, Q => match ev ρ c with
    | .bool t => IfB t (CodeW P plan x ρ H Q) (CodeW P plan y ρ H Q)
    | _ => False
  | .block id c, ρ, H, Q => CodeW P plan c ρ H (blockK id Q)
  | .loop c, ρ, H, Q => match loopOf (firstRegion c) plan.loops with
    | some (slots, ks, fixed) => match dec ks (slots.map ρ) with
      | some x0 => LoopI (Tup ks) x0 H fun x H next => ∀ g : Env, CodeW P plan c (bindE slots (enc ks x) (keepE fixed ρ g)) H
          (thenK (fun ρ' H' => match dec ks (slots.map ρ') with | some x' => next x' H' | none => False) Q)
      | none => False
    | none => False
  | .exit id, ρ, H, Q => Q (.exit id) ρ H
  | .ret, ρ, H, Q => Q .ret ρ H
  | _, _, _, _ => False

def opdIn (n : Nat) : Operand → Bool
  | .tmp t => Nat.blt t n
  | _ => true

/-- The code leaves the temporary alone. -/
def keepsB (plan : Plan) (f : Tmp) : Code → Bool
  | .region _ ops _ => ops.toList.all fun o => match o.dst with | some d => !(Nat.beq d f) | none => true
  | .seq a b => keepsB plan f a && keepsB plan f b
  | .cond _ a b => keepsB plan f a && keepsB plan f b
  | .block _ c => keepsB plan f c
  | .loop c => keepsB plan f c && (match loopOf (firstRegion c) plan.loops with
    | some (slots, _, fixed) => memB f fixed && !(memB f slots)
    | none => false)
  | _ => true

theorem beq_false_of {d f : Nat} (h : (!(Nat.beq d f)) = true) : d ≠ f := fun e => by subst e; rw [Nat.beq_refl] at h; cases h

theorem OpG.keeps {all : Array Oper} {S} (N : Nice S) {o : Oper} {f : Tmp} (hd : ∀ d, o.dst = some d → d ≠ f) {ρ : Env} {H : Heap} {K : Env → Heap → Prop} (h : OpG all S o ρ H K) :
    OpG all S o ρ H fun ρ' H' => ρ' f = ρ f ∧ K ρ' H' := by
  have pf : ∀ (ρ' : Env) v, put ρ' o.dst v f = ρ' f := fun ρ' v => put_get hd
  unfold OpG at *
  split at h
  · exact N.mono _ _ _ _ _ (fun v H' h => ⟨pf _ _, h⟩) h
  · split at h
    · split at h
      · rename_i want _ _ d _ _ b hr
        cases b with
        | true =>
          simp only [IfB] at h ⊢
          rw [put_same hr] at h ⊢
          cases want with
          | true => exact N.mono _ _ _ _ _ (fun v H' h => ⟨pf _ _, h⟩) h
          | false => exact ⟨pf _ _, h⟩
        | false =>
          simp only [IfB] at h ⊢
          rw [put_same hr] at h ⊢
          cases want with
          | false => exact N.mono _ _ _ _ _ (fun v H' h => ⟨pf _ _, h⟩) h
          | true => exact ⟨pf _ _, h⟩
      · exact ⟨pf _ _, h⟩
    · exact ⟨pf _ _, h⟩

theorem OpG.mono {all : Array Oper} {S} (N : Nice S) {o : Oper} {ρ : Env} {H : Heap} {K K' : Env → Heap → Prop} (hk : ∀ ρ H, K ρ H → K' ρ H) (h : OpG all S o ρ H K) : OpG all S o ρ H K' := by
  unfold OpG at *
  split at h
  · exact N.mono _ _ _ _ _ (fun v H' h => hk _ _ h) h
  · split at h
    · split at h
      · refine IfB.mono h (fun h => ?_) (fun h => ?_)
        · split at h
          · exact N.mono _ _ _ _ _ (fun v H' h => hk _ _ h) h
          · exact hk _ _ h
        · split at h
          · exact N.mono _ _ _ _ _ (fun v H' h => hk _ _ h) h
          · exact hk _ _ h
      · exact hk _ _ h
    · exact hk _ _ h

theorem OpsL.mono {all : Array Oper} {S} (N : Nice S) {K K' : Env → Heap → Prop} (hk : ∀ ρ H, K ρ H → K' ρ H) : ∀ (l : List Oper) (ρ : Env) (H : Heap), OpsL all S l ρ H K → OpsL all S l ρ H K' := by
  intro l
  induction l with
  | nil => exact fun ρ H h => hk _ _ h
  | cons o os ih => exact fun ρ H h => OpG.mono N (fun ρ H h => ih ρ H h) h

theorem OpsL.keeps {all : Array Oper} {S} (N : Nice S) {f : Tmp} {K : Env → Heap → Prop} : ∀ (l : List Oper), (∀ o ∈ l, ∀ d, o.dst = some d → d ≠ f) → ∀ (ρ : Env) (H : Heap), OpsL all S l ρ H K → OpsL all S l ρ H fun ρ' H' => ρ' f = ρ f ∧ K ρ' H' := by
  intro l
  induction l with
  | nil => exact fun _ ρ H h => ⟨rfl, h⟩
  | cons o os ih =>
    intro hd ρ H h
    refine OpG.mono N (fun ρ1 H1 ⟨h1, h2⟩ => ?_) (OpG.keeps N (hd o List.mem_cons_self) h)
    refine OpsL.mono N (fun ρ2 H2 ⟨h3, h4⟩ => ⟨h3.trans h1, h4⟩) _ _ _ (ih (fun o ho => hd o (List.mem_cons_of_mem _ ho)) ρ1 H1 h2)

theorem CodeW.mono {P : Program} {plan : Plan} : ∀ (c : Code) {Q Q' : Post} (_ : ∀ e ρ H, Q e ρ H → Q' e ρ H) (ρ : Env) (H : Heap), CodeW P plan c ρ H Q → CodeW P plan c ρ H Q'
  | .skip, _, _, hq, _, _, h => hq _ _ _ h
  | .label _, _, _, hq, _, _, h => hq _ _ _ h
  | .region id ops draw, Q, Q', hq, ρ, H, h => by
    cases draw with
    | false => exact OpsL.mono (niceOp P) (fun ρ H h => hq _ _ _ h) _ _ _ h
    | true =>
      simp only [CodeW, DrawW] at h ⊢
      split at h
      · exact OpsL.mono (niceOp P) (fun ρ H h => hq _ _ _ h) _ _ _ h
      · exact OpsL.mono (niceOp P) (fun ρ H h => hq _ _ _ h) _ _ _ h
      · rename_i l c C hp'
        obtain ⟨bs, hbs, h⟩ := h
        exact ⟨bs, hbs, OpsL.mono (rankedKept P (c :: C) bs H).toNice (fun ρ H h => OpsL.mono (niceOp P) (fun ρ H h => hq _ _ _ h) _ _ _ h) _ _ _ h⟩
  | .seq a b, Q, Q', hq, ρ, H, h => by
    refine CodeW.mono a (fun e ρ' H' h => ?_) ρ H h
    cases e with
    | normal => exact CodeW.mono b hq ρ' H' h
    | _ => exact hq _ _ _ h
  | .cond c x y, Q, Q', hq, ρ, H, h => by
    simp only [CodeW] at h ⊢
    split at h
    · exact IfB.mono h (CodeW.mono x hq ρ H) (CodeW.mono y hq ρ H)
    · exact h.elim
  | .block id c, Q, Q', hq, ρ, H, h => by
    refine CodeW.mono c (fun e ρ' H' h => ?_) ρ H h
    cases e with
    | exit i =>
      simp only [blockK] at h ⊢
      split at h
      · exact hq _ _ _ h
      · exact hq _ _ _ h
    | _ => exact hq _ _ _ h
  | .loop c, Q, Q', hq, ρ, H, h => by
    simp only [CodeW] at h ⊢
    split at h
    · split at h
      · obtain ⟨I, k, h0, hr⟩ := h
        refine ⟨I, k, h0, fun k x H hI g => CodeW.mono c (fun e ρ' H' h => ?_) _ _ (hr k x H hI g)⟩
        cases e with
        | normal => exact h
        | _ => exact hq _ _ _ h
      · exact h.elim
    · exact h.elim
  | .exit id, _, _, hq, _, _, h => hq _ _ _ h
  | .ret, _, _, hq, _, _, h => hq _ _ _ h
  | .rangeFunc _ _ _ _, _, _, _, _, _, h => h.elim
  | .scope _, _, _, _, _, _, h => h.elim
  | .goto _, _, _, _, _, _, h => h.elim
  | .refuse _, _, _, _, _, _, h => h.elim

theorem bindE_get {f : Tmp} : ∀ (ts : List Tmp) (vs : List Value) (g : Env), memB f ts = false → bindE ts vs g f = g f
  | [], _, _, _ => rfl
  | _ :: _, [], _, _ => rfl
  | t :: ts, v :: vs, g, h => by
    simp only [memB] at h
    split at h
    · cases h
    · rename_i hb
      rw [bindE, put_get (fun e he heq => by cases he; subst heq; rw [Nat.beq_refl] at hb; cases hb)]
      exact bindE_get ts vs g h
theorem keepE_get {f : Tmp} : ∀ (ts : List Tmp) (ρ g : Env), memB f ts = true → keepE ts ρ g f = ρ f
  | [], _, _, h => by cases h
  | t :: ts, ρ, g, h => by
    simp only [memB] at h
    rw [keepE]
    split at h
    · rename_i hb
      have := Nat.eq_of_beq_eq_true hb
      subst this
      simp [put]
    · rename_i hb
      rw [put_get (fun e he heq => by cases he; subst heq; rw [Nat.beq_refl] at hb; cases hb)]
      exact keepE_get ts ρ g h

theorem CodeW.keeps {P : Program} {plan : Plan} {f : Tmp} : ∀ (c : Code), keepsB plan f c = true → ∀ {Q : Post} (ρ : Env) (H : Heap), CodeW P plan c ρ H Q → CodeW P plan c ρ H fun e ρ' H' => ρ' f = ρ f ∧ Q e ρ' H'
  | .skip, _, _, _, _, h => ⟨rfl, h⟩
  | .label _, _, _, _, _, h => ⟨rfl, h⟩
  | .region id ops draw, hk, Q, ρ, H, h => by
    simp only [keepsB] at hk
    have hd : ∀ o ∈ ops.toList, ∀ d, o.dst = some d → d ≠ f := fun o ho d hd => by
      have := List.all_eq_true.1 hk o ho
      rw [hd] at this
      exact beq_false_of this
    have hd2 : ∀ l, ∀ o ∈ opsAt ops l, ∀ d, o.dst = some d → d ≠ f := fun l o ho => by
      simp only [opsAt, List.mem_filterMap] at ho
      obtain ⟨i, _, hi⟩ := ho
      exact hd o (List.mem_of_getElem? hi)
    cases draw with
    | false => exact OpsL.keeps (niceOp P) _ hd _ _ h
    | true =>
      simp only [CodeW, DrawW] at h ⊢
      split at h
      · exact OpsL.keeps (niceOp P) _ hd _ _ h
      · exact OpsL.keeps (niceOp P) _ (hd2 _) _ _ h
      · rename_i l c C hp'
        obtain ⟨bs, hbs, h⟩ := h
        exact ⟨bs, hbs, OpsL.mono (rankedKept P (c :: C) bs H).toNice (fun ρ' H' h => OpsL.mono (niceOp P) (fun ρ'' H'' h' => ⟨h'.1.trans h.1, h'.2⟩) _ _ _ (OpsL.keeps (niceOp P) _ (hd2 _) _ _ h.2)) _ _ _ (OpsL.keeps (rankedKept P (c :: C) bs H).toNice _ (hd2 _) _ _ h)⟩
  | .seq a b, hk, Q, ρ, H, h => by
    simp only [keepsB, Bool.and_eq_true] at hk
    refine CodeW.mono a (fun e ρ' H' h => ?_) ρ H (CodeW.keeps a hk.1 ρ H h)
    cases e with
    | normal => exact CodeW.mono b (fun e ρ'' H'' h' => ⟨h'.1.trans h.1, h'.2⟩) ρ' H' (CodeW.keeps b hk.2 ρ' H' h.2)
    | _ => exact ⟨h.1, h.2⟩
  | .cond c x y, hk, Q, ρ, H, h => by
    simp only [keepsB, Bool.and_eq_true] at hk
    simp only [CodeW] at h ⊢
    split at h
    · exact IfB.mono h (CodeW.keeps x hk.1 ρ H) (CodeW.keeps y hk.2 ρ H)
    · exact h.elim
  | .block id c, hk, Q, ρ, H, h => by
    simp only [keepsB] at hk
    refine CodeW.mono c (fun e ρ' H' h => ?_) ρ H (CodeW.keeps c hk ρ H h)
    cases e with
    | exit i =>
      obtain ⟨h1, h⟩ := h
      simp only [blockK] at h ⊢
      split at h
      · exact ⟨h1, h⟩
      · exact ⟨h1, h⟩
    | _ => exact h
  | .loop c, hk, Q, ρ, H, h => by
    simp only [keepsB, Bool.and_eq_true] at hk
    obtain ⟨hk1, hk2⟩ := hk
    simp only [CodeW] at h ⊢
    split at h
    · rename_i slots ks fixed hl
      rw [hl] at hk2
      simp only [Bool.and_eq_true, Bool.not_eq_true'] at hk2
      split at h
      · obtain ⟨I, k, h0, hr⟩ := h
        refine ⟨I, k, h0, fun k x H hI g => CodeW.mono c (fun e ρ' H' h => ?_) _ _ (CodeW.keeps c hk1 _ _ (hr k x H hI g))⟩
        obtain ⟨h1, h⟩ := h
        rw [bindE_get _ _ _ hk2.2, keepE_get _ _ _ hk2.1] at h1
        cases e with
        | normal => exact h
        | _ => exact ⟨h1, h⟩
      · exact h.elim
    · exact h.elim
  | .exit id, _, _, _, _, h => ⟨rfl, h⟩
  | .ret, _, _, _, _, h => ⟨rfl, h⟩
  | .rangeFunc _ _ _ _, _, _, _, _, h => h.elim
  | .scope _, _, _, _, _, h => h.elim
  | .goto _, _, _, _, _, h => h.elim
  | .refuse _, _, _, _, _, h => h.elim

theorem CodeW.keepsAll {P : Program} {plan : Plan} {c : Code} : ∀ (fs : List Tmp), (fs.all fun f => keepsB plan f c) = true → ∀ {Q : Post} (ρ : Env) (H : Heap), CodeW P plan c ρ H Q → CodeW P plan c ρ H fun e ρ' H' => (∀ f ∈ fs, ρ' f = ρ f) ∧ Q e ρ' H'
  | [], _, _, ρ, H, h => CodeW.mono c (fun _ _ _ h => ⟨by simp, h⟩) ρ H h
  | f :: fs, hk, Q, ρ, H, h => by
    simp only [List.all_cons, Bool.and_eq_true] at hk
    refine CodeW.mono c (fun e ρ' H' h => ⟨fun f' hf' => ?_, h.2.2⟩) ρ H (CodeW.keeps c hk.1 ρ H (CodeW.keepsAll fs hk.2 ρ H h))
    rcases List.mem_cons.1 hf' with rfl | hf'
    · exact h.1
    · exact h.2.1 f' hf'

def codeOk (P : Program) (n : Nat) (plan : Plan) : Code → Bool
  | .region id ops draw => ops.toList.all (opIn n ops) && (match draw with
    | true => (match planOf id plan.regs with
      | none => drawOk P [] ops (List.range ops.size)
      | some (l, C) => drawOk P C ops l)
    | false => true)
  | .seq a b => codeOk P n plan a && codeOk P n plan b
  | .cond c x y => opdIn n c && codeOk P n plan x && codeOk P n plan y
  | .block _ c => codeOk P n plan c
  | .loop c => codeOk P n plan c && (match loopOf (firstRegion c) plan.loops with
    | some (_, _, fixed) => fixed.all fun f => keepsB plan f c
    | none => false)
  | _ => true

/-- A post over environments, read over frames. -/
def Lift (n : Nat) (w0 : World) (Q : Post) : Exit → Act → World → Prop := fun e a w => ∃ ρ, Fits n ρ a ∧ Q e ρ (hp w) ∧ Rest w0 w

theorem opsAt_range (all : Array Oper) : opsAt all (List.range all.size) = all.toList := by
  unfold opsAt
  apply List.ext_getElem?
  intro k
  have h : (List.range all.size).filterMap (fun i => all.toList[i]?) = all.toList := by
    have : ∀ l : List Oper, (List.range l.length).filterMap (fun i => l[i]?) = l := by
      intro l
      induction l with
      | nil => rfl
      | cons x xs ih =>
        rw [List.length_cons, List.range_succ_eq_map, List.filterMap_cons]
        simp only [List.getElem?_cons_zero, List.filterMap_map]
        congr 1
    simpa using this all.toList
  rw [h]

theorem range_get (all : Array Oper) (k : Nat) : ((List.range all.size)[k]?).bind (fun i => all[i]?) = all.toList[k]? := by
  by_cases h : k < all.size
  · simp [h]
  · have h1 : (List.range all.size)[k]? = none := by simp; omega
    rw [h1]
    simp
    omega

theorem region_of {P : Program} (hm : P.follows .mixedOrders = true) {plan : Plan} {n id : Nat} {ops : Array Oper} {draw : Bool} {Q : Post} {ρ : Env} {a : Act} {w : World}
    (hok : codeOk P n plan (.region id ops draw) = true) (hf : Fits n ρ a) (h : CodeW P plan (.region id ops draw) ρ (hp w) Q) : (Code.region id ops draw).wp P (Lift n w Q) a w := by
  simp only [codeOk, Bool.and_eq_true] at hok
  obtain ⟨hin, hdr⟩ := hok
  cases draw with
  | false =>
    simp only [CodeW] at h
    refine wp_region ?_
    exact wpOps_of (soundOp P) (w0 := w) hin (fun ρ' a' w' hf' _ hk hr => ⟨ρ', hf', hk, hr⟩) _ _ (range_get ops) (by simp) ρ a w hf trivial (.refl w) (OpsL.plain (niceOp P) _ _ _ h)
  | true =>
    simp only [CodeW, DrawW] at h
    simp only at hdr
    have c0 : rankC P [] = rank P := by funext o; unfold rankC inC; cases o.dst <;> rfl
    split at h
    · rename_i hp'
      rw [hp'] at hdr
      refine wp_draw_of (I := fun _ => True) (C := []) (soundOp P) (by rw [c0]; exact rankedOp P) hm hin hdr hf trivial (K := fun ρ' H' => Q .normal ρ' H') ?_ (fun ρ' a' w' hf' _ hk hr => ⟨ρ', hf', hk, hr⟩)
      rw [opsAt_range]
      exact OpsL.plain (niceOp P) _ _ _ h
    · rename_i l hp'
      rw [hp'] at hdr
      exact wp_draw_of (I := fun _ => True) (C := []) (soundOp P) (by rw [c0]; exact rankedOp P) hm hin hdr hf trivial (OpsL.plain (niceOp P) _ _ _ h) (fun ρ' a' w' hf' _ hk hr => ⟨ρ', hf', hk, hr⟩)
    · rename_i l c C hp'
      rw [hp'] at hdr
      obtain ⟨bs, hbs, h⟩ := h
      have hR := rankedKept P (c :: C) bs (hp w)
      exact wp_draw_tail (soundKept P (c :: C) bs (hp w)) hR hm hin hdr hf (fun b hb => ⟨hbs b hb, rfl⟩) (OpsL.plain hR.toNice _ _ _ (OpsL.mono hR.toNice (fun ρ H h => OpsL.plain (niceOp P) _ _ _ h) _ _ _ h)) (fun ρ' a' w' hf' hk hr => ⟨ρ', hf', hk, hr⟩)

theorem wp_loop' {P : Program} {c : Code} {Q : Exit → Act → World → Prop} (Inv : Nat → Act → World → Prop)
    (round : ∀ k a w, Inv k a w → c.wp P (Exit.then (fun a' w' => ∃ k', k' < k ∧ Inv k' a' w') Q) a w) {k : Nat} {a : Act} {w : World} (h₀ : Inv k a w) : (Code.loop c).wp P Q a w := by
  intro b kk cs
  have key : ∀ k a w, Inv k a w → ∃ e a' w', Q e a' w' ∧ Arrives P (lone (b.at a (.code c :: .inLoop c :: kk)) cs w) b kk cs e a' w' := by
    intro k
    induction k using Nat.strongRecOn with
    | _ k ih =>
      intro a w hI
      obtain ⟨e, a₁, w₁, hq, harr⟩ := round k a w hI b (.inLoop c :: kk) cs
      cases e with
      | normal =>
        obtain ⟨k', hlt, hI₁⟩ := hq
        obtain ⟨e₂, a₂, w₂, hq₂, harr₂⟩ := ih k' hlt a₁ w₁ hI₁
        exact ⟨e₂, a₂, w₂, hq₂, .of_steps (Steps.trans harr (.one step_inLoop)) harr₂⟩
      | exit id => exact ⟨_, a₁, w₁, hq, .pass (x := .inLoop c) rfl (fun _ _ => .inl (by simp)) harr⟩
      | goto l => exact ⟨_, a₁, w₁, hq, .pass (x := .inLoop c) rfl (fun _ _ => .inl (by simp)) harr⟩
      | ret => exact ⟨_, a₁, w₁, hq, .pass (x := .inLoop c) rfl (fun _ _ => .inl (by simp)) harr⟩
      | panic ch => exact ⟨_, a₁, w₁, hq, .pass (x := .inLoop c) rfl (fun _ _ => .inl (by simp)) harr⟩
      | outgrown => exact ⟨_, a₁, w₁, hq, .pass (x := .inLoop c) rfl (fun _ _ => .inl (by simp)) harr⟩
  obtain ⟨e, a', w', hq, harr⟩ := key k a w h₀
  exact ⟨e, a', w', hq, .of_steps (.one step_loop) harr⟩

theorem code_of {P : Program} (hm : P.follows .mixedOrders = true) {plan : Plan} {n : Nat} : ∀ (c : Code) {Q : Post} {ρ : Env} {a : Act} {w : World},
    codeOk P n plan c = true → Fits n ρ a → CodeW P plan c ρ (hp w) Q → c.wp P (Lift n w Q) a w
  | .skip, Q, ρ, a, w, _, hf, h => wp_skip ⟨ρ, hf, h, .refl w⟩
  | .label _, Q, ρ, a, w, _, hf, h => wp_label ⟨ρ, hf, h, .refl w⟩
  | .region id ops draw, Q, ρ, a, w, hok, hf, h => region_of hm hok hf h
  | .seq x y, Q, ρ, a, w, hok, hf, h => by
    simp only [codeOk, Bool.and_eq_true] at hok
    refine wp_seq (wp_mono (code_of hm x hok.1 hf h) fun e a' w' hq => ?_)
    obtain ⟨ρ', hf', hq, hr⟩ := hq
    cases e with
    | normal => exact wp_mono (code_of hm y hok.2 hf' hq) fun e a'' w'' ⟨ρ'', hf'', hq'', hr''⟩ => ⟨ρ'', hf'', hq'', hr.trans hr''⟩
    | _ => exact ⟨ρ', hf', hq, hr⟩
  | .cond c x y, Q, ρ, a, w, hok, hf, h => by
    simp only [codeOk, Bool.and_eq_true] at hok
    have he : a.eval c = ev ρ c := eval_ev hf c fun t ht => by have := hok.1.1; rw [ht] at this; simpa [opdIn] using this
    simp only [CodeW] at h
    split at h
    · rename_i t ht
      rw [ht] at he
      rcases IfB.elim h with ⟨rfl, h⟩ | ⟨rfl, h⟩
      · exact wp_cond_true he (code_of hm x hok.1.2 hf h)
      · exact wp_cond_false he (code_of hm y hok.2 hf h)
    · exact h.elim
  | .block id c, Q, ρ, a, w, hok, hf, h => by
    simp only [codeOk] at hok
    refine wp_block (wp_mono (code_of hm c hok hf h) fun e a' w' hq => ?_)
    obtain ⟨ρ', hf', hq, hr⟩ := hq
    cases e with
    | exit i =>
      simp only [blockK] at hq
      simp only [Exit.inBlock]
      cases hb : Nat.beq i id with
      | true =>
        rw [hb] at hq
        rw [if_pos (Nat.eq_of_beq_eq_true hb)]
        exact ⟨ρ', hf', hq, hr⟩
      | false =>
        rw [hb] at hq
        rw [if_neg (fun e => by subst e; rw [Nat.beq_refl] at hb; cases hb)]
        exact ⟨ρ', hf', hq, hr⟩
    | _ => exact ⟨ρ', hf', hq, hr⟩
  | .loop c, Q, ρ, a, w, hok, hf, h => by
    simp only [codeOk, Bool.and_eq_true] at hok
    obtain ⟨hok, hfix⟩ := hok
    simp only [CodeW] at h
    split at h
    · rename_i slots ks fixed hl
      rw [hl] at hfix
      split at h
      · rename_i x0 hx0
        obtain ⟨I, k, h0, hround⟩ := h
        refine wp_loop' (fun k a' w' => ∃ ρ' x, Fits n ρ' a' ∧ (∀ f ∈ fixed, ρ' f = ρ f) ∧ slots.map ρ' = enc ks x ∧ I k x (hp w') ∧ Rest w w') (fun k a' w' hI => ?_) ⟨ρ, x0, hf, fun _ _ => rfl, (enc_dec _ _ _ hx0).symm, h0, .refl w⟩
        obtain ⟨ρ', x, hf', hfx, hsl, hI, hr⟩ := hI
        have hb := hround k x _ hI ρ'
        have e1 : bindE slots (enc ks x) (keepE fixed ρ ρ') = ρ' := by
          rw [keepE_same fixed ρ ρ' hfx]
          exact bindE_same _ _ _ hsl
        rw [e1] at hb
        have hb2 := CodeW.keepsAll fixed hfix _ _ hb
        refine wp_mono (code_of hm c hok hf' hb2) fun e a'' w'' hq => ?_
        obtain ⟨ρ'', hf'', ⟨hkp, hq⟩, hr''⟩ := hq
        cases e with
        | normal =>
          simp only [thenK] at hq
          simp only [Exit.then]
          split at hq
          · rename_i x' hx'
            obtain ⟨k', hlt, hI'⟩ := hq
            exact ⟨k', hlt, ρ'', x', hf'', fun f hff => (hkp f hff).trans (hfx f hff), (enc_dec _ _ _ hx').symm, hI', hr.trans hr''⟩
          · exact hq.elim
        | _ => exact ⟨ρ'', hf'', hq, hr.trans hr''⟩
      · exact h.elim
    · exact h.elim
  | .exit id, Q, ρ, a, w, _, hf, h => wp_exit ⟨ρ, hf, h, .refl w⟩
  | .ret, Q, ρ, a, w, _, hf, h => wp_ret ⟨ρ, hf, h, .refl w⟩
  | .rangeFunc _ _ _ _, _, _, _, _, _, _, h => h.elim
  | .scope _, _, _, _, _, _, _, h => h.elim
  | .goto _, _, _, _, _, _, _, h => h.elim
  | .refuse _, _, _, _, _, _, _, h => h.elim

/-- What a function hands back. -/
def ResW (P : Program) (ρ : Env) (H : Heap) : List ResultVar → List Value → (Value → Prop) → Prop
  | [], acc, R => R (match acc with | [v] => v | vs => .tuple ⟨vs⟩)
  | .tmp t :: rs, acc, R => ResW P ρ H rs (acc ++ [ρ t]) R
  | .cell a t :: rs, acc, R => LoadW P t (ρ a) H fun v _ => ResW P ρ H rs (acc ++ [v]) R

def RetW (P : Program) (rs : List ResultVar) (R : Value → Heap → Prop) : Post := fun e ρ H => match e with
  | .normal => ResW P ρ H rs [] fun v => R v H
  | .ret => ResW P ρ H rs [] fun v => R v H
  | _ => False

theorem run_loadCellsFrom {P : Program} {w : World} {a : Addr} : ∀ (n i : Nat) (acc : Array Value) (vs : List Value), vs.length = n →
    (∀ j, j < vs.length → w.cell? (a.add (i + j)) = vs[j]?) → (loadCellsFrom a i n acc).run P w = .ok ⟨acc.toList ++ vs⟩ w := by
  intro n
  induction n with
  | zero =>
    intro i acc vs hl _
    obtain rfl : vs = [] := by simpa using hl
    simp [loadCellsFrom]
  | succ n ih =>
    intro i acc vs hl hc
    cases vs with
    | nil => simp at hl
    | cons v vs =>
      have h0 := hc 0 (by simp)
      simp only [Nat.add_zero, List.getElem?_cons_zero] at h0
      have hr : (load (a.add i)).run P w = .ok v w := by simp [load, Sem.run, h0]
      have := ih (i + 1) (acc.push v) vs (by simpa using hl) (fun j hj => by
        have := hc (j + 1) (by simpa using hj)
        simpa [Nat.add_assoc, Nat.add_comm 1 j] using this)
      simp only [loadCellsFrom, Sem.run_bind, hr, Result.andThen_ok, this]
      simp

theorem run_isAggB {P : Program} {t : TypeId} {b : Bool} (w : World) (h : isAggB P t = some b) : (isAgg t).run P w = .ok b w := by
  unfold isAggB at h
  cases hu : P.underlying t with
  | none => rw [hu] at h; cases h
  | some d =>
    rw [hu] at h
    unfold isAgg
    rw [Sem.run_bind, run_underlying hu]
    cases d <;> simp at h <;> subst h <;> rfl

theorem run_sizeOf' {P : Program} {t : TypeId} {i : TypeInfo} (w : World) (h : P.info? t = some i) : (sizeOf t).run P w = .ok i.size w := by
  simp [sizeOf, typeInfo, h]

theorem LoadW.run {P : Program} {t : TypeId} {v : Value} {w : World} {K : Value → Heap → Prop} (h : LoadW P t v (hp w) K) : ∃ a x, v = .pointer (some a) ∧ (loadVar t a).run P w = .ok x w ∧ K x (hp w) := by
  unfold LoadW at h
  split at h
  · rename_i a
    refine ⟨a, ?_⟩
    split at h
    · rename_i hb
      obtain ⟨v, hv, hk⟩ := leafEx.elim h
      rw [hp_cell] at hv
      refine ⟨v, rfl, ?_, hk⟩
      unfold loadVar
      rw [Sem.run_bind, run_isAggB w hb]
      simp [load, Sem.run, hv]
    · rename_i hb
      obtain ⟨i, hi⟩ := info_of_isAgg hb
      have hs : P.cellsOf t = i.size := by simp [Program.cellsOf, hi]
      rw [hs] at h
      have key : ∃ cs : List Value, cs.length = i.size ∧ (∀ j, j < cs.length → (hp w).cell (a.add j) = cs[j]?) ∧ K (.agg ⟨cs⟩) (hp w) := by
        split at h
        · rename_i hc
          obtain ⟨vs, hl, hcs, hk⟩ := ldCells.elim _ _ _ h
          refine ⟨vs, ?_, fun j hj => by simpa using hcs j hj, by simpa using hk⟩
          rw [hl]
          simp only [Bool.and_eq_true] at hc
          exact Nat.eq_of_beq_eq_true hc.2
        · exact h
      obtain ⟨cs, hl, hc, hk⟩ := key
      refine ⟨.agg ⟨cs⟩, rfl, ?_, hk⟩
      unfold loadVar
      rw [Sem.run_bind, run_isAggB w hb]
      have := run_loadCellsFrom (P := P) (w := w) (a := a) i.size 0 #[] cs hl (fun j hj => by have := hc j hj; rw [hp_cell] at this; simpa using this)
      simp only [Result.andThen_ok, if_true, Sem.run_bind, run_sizeOf' w hi, loadCells, this]
      simp
    · exact h.elim
  · exact h.elim

def resOp (tmps : Array Value) (r : ResultVar) : Sem Value := match r with
  | .tmp t => pure (tmps.getD t undef)
  | .cell b t => do loadVar t (← asAddr (tmps.getD b undef))

theorem results_eq (fn : Func) (tmps : Array Value) : results fn tmps = (do let vs ← fn.results.mapM (resOp tmps); pure (if h : vs.size = 1 then vs[0] else .tuple vs)) := rfl

theorem run_results {P : Program} {fn : Func} {n : Nat} {ρ : Env} {a : Act} {w : World} {R : Value → Prop} (hf : Fits n ρ a)
    (hin : fn.results.toList.all (fun r => match r with | .tmp t => Nat.blt t n | .cell t _ => Nat.blt t n) = true) (h : ResW P ρ (hp w) fn.results.toList [] R) :
    ∃ v, (results fn a.tmps).run P w = .ok v w ∧ R v := by
  have key : ∀ (rs : List ResultVar) (acc : List Value), rs.all (fun r => match r with | .tmp t => Nat.blt t n | .cell t _ => Nat.blt t n) = true → ResW P ρ (hp w) rs acc R →
      ∃ vs, (rs.mapM (resOp a.tmps)).run P w = .ok vs w ∧ R (match acc ++ vs with | [v] => v | vs => .tuple ⟨vs⟩) := by
    intro rs
    induction rs with
    | nil => intro acc _ h; exact ⟨[], by simp, by rw [List.append_nil]; exact h⟩
    | cons r rs ih =>
      intro acc hin h
      simp only [List.all_cons, Bool.and_eq_true] at hin
      cases r with
      | tmp t =>
        obtain ⟨vs, hvs, hR⟩ := ih _ hin.2 h
        have ht : t < n := by simpa using hin.1
        refine ⟨ρ t :: vs, ?_, by simpa using hR⟩
        rw [List.mapM_cons, Sem.run_bind]
        simp only [resOp, hf.tmp t ht, Sem.run_pure, Result.andThen_ok, Sem.run_bind, hvs]
      | cell b t =>
        have hb : b < n := by simpa using hin.1
        simp only [ResW] at h
        obtain ⟨ad, x, hx, hr, hk⟩ := LoadW.run h
        obtain ⟨vs, hvs, hR⟩ := ih _ hin.2 hk
        refine ⟨x :: vs, ?_, by simpa using hR⟩
        rw [List.mapM_cons, Sem.run_bind]
        have : (do loadVar t (← asAddr (a.tmps.getD b undef)) : Sem Value).run P w = .ok x w := by
          rw [hf.tmp b hb, hx, Sem.run_bind]
          simp [asAddr, hr]
        change ((do loadVar t (← asAddr (a.tmps.getD b undef)) : Sem Value).run P w).andThen _ = _
        simp only [this, Result.andThen_ok, Sem.run_bind, hvs, Sem.run_pure]
  obtain ⟨vs, hvs, hR⟩ := key _ [] hin h
  refine ⟨_, ?_, hR⟩
  rw [results_eq, Array.mapM_eq_mapM_toList]
  simp only [Sem.run_bind, map_eq_pure_bind, hvs, Result.andThen_ok, Sem.run_pure]
  congr 1
  cases vs with
  | nil => rfl
  | cons v vs =>
    cases vs with
    | nil => rfl
    | cons => rfl

def env0 (args : List Value) : Env := fun i => args.getD i undef

/-- What is to be seen of a function's text, once. -/
structure Known (P : Program) (f : FuncId) (fn : Func) (plan : Plan) (c : Code) : Prop where
  isF : P.funcs[f]? = some fn
  body : fn.body = some c
  name : (fn.name == "runtime.NumGoroutine") = false
  mixed : P.follows .mixedOrders = true
  ok : codeOk P fn.ntmps plan c = true
  res : fn.results.toList.all (fun r => match r with | .tmp t => Nat.blt t fn.ntmps | .cell t _ => Nat.blt t fn.ntmps) = true

theorem FnW.of_code {P : Program} {f : FuncId} {fn : Func} {plan : Plan} {c : Code} (k : Known P f fn plan c) {args : List Value} (hlen : Nat.ble args.length fn.ntmps = true) {H : Heap} {R : Value → Heap → Prop}
    (h : CodeW P plan c (env0 args) H (RetW P fn.results.toList R)) : FnW P f ⟨args⟩ H R := by
  refine ⟨⟨fn, k.isF, k.name, by rw [k.body]; rfl⟩, ?_⟩
  rintro w rfl
  have hlen' := Nat.le_of_ble_eq_true hlen
  refine calls_of_wp k.isF k.body ?_
  have hf : Fits fn.ntmps (env0 args) { tmps := (⟨args⟩ : Array Value) ++ Array.replicate (fn.ntmps - (⟨args⟩ : Array Value).size) undef, defers := [] } := by
    refine ⟨by simp; omega, fun t ht => ?_, rfl⟩
    simp only [env0, Array.getD_eq_getD_getElem?, List.getD_eq_getElem?_getD]
    rw [Array.getElem?_append]
    by_cases hlt : t < args.length
    · simp [hlt]
    · rw [if_neg (by simpa using hlt)]
      have : args[t]? = none := by simp; omega
      rw [this]
      simp only [Array.getElem?_replicate]
      split <;> rfl
  refine wp_mono (code_of k.mixed c k.ok hf h) fun e a w' hq => ?_
  obtain ⟨ρ, hf', hq, hr⟩ := hq
  cases e with
  | normal =>
    obtain ⟨v, hv, hR⟩ := run_results hf' k.res hq
    exact ⟨hf'.defers, v, hv, v, rfl, hR, hr⟩
  | ret =>
    obtain ⟨v, hv, hR⟩ := run_results hf' k.res hq
    exact ⟨hf'.defers, v, hv, v, rfl, hR, hr⟩
  | _ => exact hq.elim

end Go.Sh
