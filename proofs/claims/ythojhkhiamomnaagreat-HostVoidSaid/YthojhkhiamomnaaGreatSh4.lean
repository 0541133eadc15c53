/-
  One operation, said of the heap alone; it implies the model's own run of it.
-/
import Derived.Test.YthojhkhiamomnaaGreatSh3
namespace Go.Sh

def bindT : List Tmp → List Value → Array Value → Array Value
  | t :: ts, v :: vs, a => bindT ts vs (a.setIfInBounds t v)
  | _, _, a => a
theorem bindT_fold : ∀ (ts : List Tmp) (vs : List Value) (a : Array Value), ts.length = vs.length → (ts.zip vs).foldl (fun tmps (x : Tmp × Value) => tmps.setIfInBounds x.1 x.2) a = bindT ts vs a
  | [], [], _, _ => rfl
  | [], _ :: _, _, h => by simp at h
  | _ :: _, [], _, h => by simp at h
  | t :: ts, v :: vs, a, h => by
    simp only [List.zip_cons_cons, List.foldl_cons, bindT]
    exact bindT_fold ts vs _ (by simpa using h)

/-- A round of a range over a function, said of the heap alone. -/
def RndW (P : Program) (l : Nat) (fn : FuncId) (tmps : Array Value) (assign body : Code) (H : Heap) (R : Value → Heap → Prop) : Prop :=
  ∀ w, hp w = H → RoundIn Fence.wide 0 P l fn tmps assign body w fun e w' => ∃ v, e = .returned v ∧ R v (hp w') ∧ Rest w w'
theorem RndW.mono {P : Program} {l : Nat} {fn : FuncId} {tmps : Array Value} {assign body : Code} {H : Heap} {R R' : Value → Heap → Prop} (h : RndW P l fn tmps assign body H R) (hr : ∀ v H', R v H' → R' v H') : RndW P l fn tmps assign body H R' :=
  fun w hw => (h w hw).mono fun _ _ ⟨v, he, hv, hrest⟩ => ⟨v, he, hr _ _ hv, hrest⟩

/-- A call of what is handed to a function that is looped over. -/
def YieldW (P : Program) (l : Nat) (vs : List Value) (H : Heap) (K : Value → Heap → Prop) : Prop :=
  ∃ r : Loop, H l = some (.loop r) ∧ r.state = .ready ∧ vs.length = r.params.size ∧ RndW P l r.fn (bindT r.params.toList vs r.tmps) r.assign r.body H K
theorem YieldW.mono {P : Program} {l : Nat} {vs : List Value} {H : Heap} {R R' : Value → Heap → Prop} (hr : ∀ v H', R v H' → R' v H') (h : YieldW P l vs H R) : YieldW P l vs H R' := by
  obtain ⟨r, h1, h2, h3, h4⟩ := h
  exact ⟨r, h1, h2, h3, h4.mono hr⟩
/-- What a function's value calls. -/
inductive Cal where
  | yield (l : Nat) | fn (f : FuncId) (caps : List Value) | bnd (f : FuncId) (first caps : List Value) | other
def calOf : Value → Cal
  | .func (.yield l) ⟨[]⟩ _ => .yield l
  | .func (.func f) ⟨[]⟩ ⟨caps⟩ => .fn f caps
  | .func (.func f) ⟨d :: ds⟩ ⟨caps⟩ => .bnd f (d :: ds) caps
  | _ => .other

/-- What one op may end in. -/
def NextW (P : Program) (K : Value → Heap → Prop) : Next → Heap → Prop
  | .value v, H => K v H
  | .skip, H => K undef H
  | .enter f args, H => FnW P f args H K
  | .round l fn tmps assign body, H => RndW P l fn tmps assign body H K
  | _, _ => False

/-- Equality, where it needs no memory and draws nothing. -/
def eqFs (eq : TypeId → Value → Value → Option Bool) (isA : TypeId → Option Bool) (sz : TypeId → Option Nat) : List Field → List Value → List Value → Option Bool
  | [], _, _ => some true
  | f :: fs, xs, ys =>
    match isA f.type with
    | some false => match xs[f.offset]?, ys[f.offset]? with
      | some x, some y => match eq f.type x y, eqFs eq isA sz fs xs ys with
        | some b, some r => some (b && r)
        | _, _ => none
      | _, _ => none
    | some true => match sz f.type with
      | some s => match eq f.type (.agg ⟨(xs.drop f.offset).take s⟩) (.agg ⟨(ys.drop f.offset).take s⟩), eqFs eq isA sz fs xs ys with
        | some b, some r => some (b && r)
        | _, _ => none
      | none => none
    | none => none

def eqAs (eq : Value → Value → Option Bool) (s : Nat) (xs ys : List Value) : List Nat → Option Bool
  | [] => some true
  | i :: is => match xs[i * s]?, ys[i * s]? with
    | some x, some y => match eq x y, eqAs eq s xs ys is with
      | some b, some r => some (b && r)
      | _, _ => none
    | _, _ => none

def eqPure (P : Program) : Nat → TypeId → Value → Value → Option Bool
  | 0, _, _, _ => none
  | d + 1, t, x, y =>
    match P.underlying t, x, y with
    | some .bool, .bool a, .bool b => some (a == b)
    | some (.int _), .int k a, .int k' b => match decide (k = k') with | true => some (a == b) | false => none
    | some .string, .string a, .string b => some (a == b)
    | some (.pointer _), .pointer p, .pointer none => some p.isNone
    | some (.pointer _), .pointer none, .pointer p => some p.isNone
    | some (.pointer e), .pointer (some a), .pointer (some b) => match szOf P e, Nat.beq a.block b.block with
      | some (_ + 1), true => some (a == b)
      | _, _ => none
    | some (.slice _), .slice p _ _, .slice none _ _ => some p.isNone
    | some (.interface _), .nilIface, .nilIface => some true
    | some (.interface _), .iface _ _, .nilIface => some false
    | some (.map _ _), .map p, .map none => some p.isNone
    | some (.map _ _), .map none, .map p => some p.isNone
    | some (.func _ _ _), .nilFunc, .nilFunc => some true
    | some (.func _ _ _), .func _ _ _, .nilFunc => some false
    | some (.struct fs), .agg xs, .agg ys =>
      match P.stoodInHeld t, fs.toList.all fun f => f.name != "_" with
      | false, true => eqFs (eqPure P d) (isAggB P) (szOf P) fs.toList xs.toList ys.toList
      | _, _ => none
    | some (.array n e), .agg xs, .agg ys =>
      match isAggB P e, szOf P e with
      | some false, some s => eqAs (eqPure P d e) s xs.toList ys.toList (List.range' 0 n)
      | _, _ => none
    | _, _, _ => none

theorem semW_eqFs {P : Program} {d : Nat} {eq : TypeId → Value → Value → Option Bool} (heq : ∀ t x y b (H : Heap) (K : Bool → Heap → Prop), eq t x y = some b → K b H → SemW P (Op.equalIn d t x y) H K) (xs ys : Array Value) :
    ∀ (fs : List Field), (fs.all fun f => f.name != "_") = true → ∀ (b : Bool) (H : Heap) (K : Bool → Heap → Prop), eqFs eq (isAggB P) (szOf P) fs xs.toList ys.toList = some b → K b H →
    SemW P (do
      let r ← forIn fs ((none, ()) : Option Bool × Unit) fun f _ => do
        if f.name ≠ "_" then
          if (!(← Op.equalIn d f.type (← part f.type xs f.offset) (← part f.type ys f.offset))) = true then pure (ForInStep.done (some false, ())) else pure (ForInStep.yield (none, ()))
        else pure (ForInStep.yield (none, ()))
      match r.fst with
        | some a => pure a
        | none => pure true) H K := by
  intro fs
  induction fs with
  | nil => intro _ b H K h hk; simp only [eqFs, Option.some.injEq] at h; subst h; exact hk
  | cons f fs ih =>
    intro hn b H K h hk
    simp only [List.all_cons, Bool.and_eq_true] at hn
    obtain ⟨hn1, hn2⟩ := hn
    have hne : f.name ≠ "_" := by simpa using hn1
    have step : ∀ x y b1 r, eq f.type x y = some b1 → eqFs eq (isAggB P) (szOf P) fs xs.toList ys.toList = some r → b = (b1 && r) →
        (∀ K' : Value → Heap → Prop, K' x H → SemW P (part f.type xs f.offset) H K') → (∀ K' : Value → Heap → Prop, K' y H → SemW P (part f.type ys f.offset) H K') →
        SemW P (do
      let r ← forIn (f :: fs) ((none, ()) : Option Bool × Unit) fun f _ => do
        if f.name ≠ "_" then
          if (!(← Op.equalIn d f.type (← part f.type xs f.offset) (← part f.type ys f.offset))) = true then pure (ForInStep.done (some false, ())) else pure (ForInStep.yield (none, ()))
        else pure (ForInStep.yield (none, ()))
      match r.fst with
        | some a => pure a
        | none => pure true) H K := by
      intro x y b1 r h1 h2 hb hx hy
      rw [List.forIn_cons]
      rw [if_pos hne]
      refine (SemW.bind _ _ _ _).2 ?_
      refine (SemW.bind _ _ _ _).2 ?_
      refine (SemW.bind _ _ _ _).2 (hx _ ?_)
      refine (SemW.bind _ _ _ _).2 (hy _ ?_)
      refine (SemW.bind _ _ _ _).2 (heq _ _ _ _ _ _ h1 ?_)
      cases b1 with
      | false =>
        simp only [Bool.not_false, if_true]
        subst hb
        exact hk
      | true =>
        simp only [Bool.not_true, Bool.false_eq_true, if_false]
        have := ih hn2 b H K (by rw [hb]; simpa using h2) hk
        exact (SemW.bind (forIn fs _ _) _ _ _).1 this
    simp only [eqFs] at h
    split at h
    · rename_i hA
      split at h
      · rename_i x y hx hy
        split at h
        · rename_i b1 r h1 h2
          simp only [Option.some.injEq] at h
          exact step x y b1 r h1 h2 h.symm (fun K' hk' => semW_part (.inr ⟨x, hA, hx, hk'⟩)) (fun K' hk' => semW_part (.inr ⟨y, hA, hy, hk'⟩))
        · cases h
      · cases h
    · rename_i hA
      split at h
      · rename_i s hs
        split at h
        · rename_i b1 r h1 h2
          simp only [Option.some.injEq] at h
          exact step _ _ b1 r h1 h2 h.symm (fun K' hk' => semW_part (.inl ⟨s, hA, hs, hk'⟩)) (fun K' hk' => semW_part (.inl ⟨s, hA, hs, hk'⟩))
        · cases h
      · cases h
    · cases h

theorem semW_eqAs {P : Program} {d : Nat} {e : TypeId} {eq : Value → Value → Option Bool} (he : isAggB P e = some false) {s : Nat}
    (heq : ∀ x y b (H : Heap) (K : Bool → Heap → Prop), eq x y = some b → K b H → SemW P (Op.equalIn d e x y) H K) (xs ys : Array Value) :
    ∀ (l : List Nat) (b : Bool) (H : Heap) (K : Bool → Heap → Prop), eqAs eq s xs.toList ys.toList l = some b → K b H →
    SemW P (do
      let r ← forIn l ((none, ()) : Option Bool × Unit) fun i _ => do
        if (!(← Op.equalIn d e (← part e xs (i * s)) (← part e ys (i * s)))) = true then pure (ForInStep.done (some false, ())) else pure (ForInStep.yield (none, ()))
      match r.fst with
        | some a => pure a
        | none => pure true) H K := by
  intro l
  induction l with
  | nil => intro b H K h hk; simp only [eqAs, Option.some.injEq] at h; subst h; exact hk
  | cons i l ih =>
    intro b H K h hk
    simp only [eqAs] at h
    split at h
    · rename_i x y hx hy
      split at h
      · rename_i b1 r h1 h2
        simp only [Option.some.injEq] at h
        rw [List.forIn_cons]
        refine (SemW.bind _ _ _ _).2 ?_
        refine (SemW.bind _ _ _ _).2 ?_
        refine (SemW.bind _ _ _ _).2 (semW_part (.inr ⟨x, he, hx, ?_⟩))
        refine (SemW.bind _ _ _ _).2 (semW_part (.inr ⟨y, he, hy, ?_⟩))
        refine (SemW.bind _ _ _ _).2 (heq _ _ _ _ _ h1 ?_)
        cases b1 with
        | false =>
          simp only [Bool.not_false, if_true]
          subst h
          exact hk
        | true =>
          simp only [Bool.not_true, Bool.false_eq_true, if_false]
          have := ih b H K (by rw [← h]; simpa using h2) hk
          exact (SemW.bind (forIn l _ _) _ _ _).1 this
      · cases h
    · cases h

theorem semW_eqPure {P : Program} : ∀ (d d' : Nat), d ≤ d' → ∀ (t : TypeId) (x y : Value) (b : Bool) (H : Heap) (K : Bool → Heap → Prop), eqPure P d t x y = some b → K b H → SemW P (Op.equalIn d' t x y) H K := by
  intro d
  induction d with
  | zero => intro d' _ t x y b H K h; cases h
  | succ d ih =>
    intro d' hd t x y b H K h hk
    obtain ⟨d', rfl⟩ : ∃ e, d' = e + 1 := ⟨d' - 1, by omega⟩
    simp only [eqPure] at h
    unfold Op.equalIn
    split at h
    · rename_i a c hu
      refine (SemW.bind _ _ _ _).2 (semW_underlying hu ?_)
      simp only [Option.some.injEq] at h; subst h; exact hk
    · rename_i k0 k a k' c hu
      refine (SemW.bind _ _ _ _).2 (semW_underlying hu ?_)
      by_cases e : k = k'
      · rw [decide_eq_true e] at h
        simp only [Option.some.injEq] at h; subst h
        change SemW P (if k = k' then pure (a == c) else _) H K
        rw [if_pos e]; exact hk
      · rw [decide_eq_false e] at h; cases h
    · rename_i a c hu
      refine (SemW.bind _ _ _ _).2 (semW_underlying hu ?_)
      simp only [Option.some.injEq] at h; subst h; exact hk
    · rename_i e p hu
      refine (SemW.bind _ _ _ _).2 (semW_underlying hu ?_)
      simp only [Option.some.injEq] at h; subst h
      cases p <;> exact hk
    · rename_i e p hu
      refine (SemW.bind _ _ _ _).2 (semW_underlying hu ?_)
      simp only [Option.some.injEq] at h; subst h
      exact hk
    · rename_i e a c hu
      refine (SemW.bind _ _ _ _).2 (semW_underlying hu ?_)
      split at h
      · rename_i n hs hb
        simp only [Option.some.injEq] at h; subst h
        show SemW P (sizeOf e >>= _) H K
        refine (SemW.bind _ _ _ _).2 (semW_szOf hs ?_)
        show SemW P (if n + 1 ≠ 0 then sameAddr a c else _) H K
        rw [if_pos (by omega)]
        unfold sameAddr
        show SemW P (if (a.block == c.block) = true then _ else _) H K
        rw [if_pos (by rw [Nat.eq_of_beq_eq_true hb]; simp)]
        exact hk
      · cases h
    · rename_i e p _ _ _ _ hu
      refine (SemW.bind _ _ _ _).2 (semW_underlying hu ?_)
      simp only [Option.some.injEq] at h; subst h
      cases p <;> exact hk
    · rename_i ms hu
      refine (SemW.bind _ _ _ _).2 (semW_underlying hu ?_)
      simp only [Option.some.injEq] at h; subst h
      exact hk
    · rename_i ms _ _ hu
      refine (SemW.bind _ _ _ _).2 (semW_underlying hu ?_)
      simp only [Option.some.injEq] at h; subst h
      exact hk
    · rename_i p hu
      refine (SemW.bind _ _ _ _).2 (semW_underlying hu ?_)
      simp only [Option.some.injEq] at h; subst h
      cases p <;> exact hk
    · rename_i p _ hu
      refine (SemW.bind _ _ _ _).2 (semW_underlying hu ?_)
      simp only [Option.some.injEq] at h; subst h
      exact hk
    · rename_i hu
      refine (SemW.bind _ _ _ _).2 (semW_underlying hu ?_)
      simp only [Option.some.injEq] at h; subst h
      exact hk
    · rename_i hu
      refine (SemW.bind _ _ _ _).2 (semW_underlying hu ?_)
      simp only [Option.some.injEq] at h; subst h
      exact hk
    · rename_i fs xs ys hu
      refine (SemW.bind _ _ _ _).2 (semW_underlying hu ?_)
      split at h
      · rename_i hst hall
        refine (SemW.bind _ _ _ _).2 ?_
        change SemW P (if P.stoodInHeld t = true then _ else _) H K
        rw [hst, if_neg (by simp)]
        have := semW_eqFs (d := d') (eq := eqPure P d) (fun t x y b H K h hk => ih d' (by omega) t x y b H K h hk) xs ys fs.toList hall b H K h hk
        simp only [← Array.forIn_toList]
        refine (SemW.bind _ _ _ _).2 (SemW.mono _ _ _ _ (fun a H' h => ?_) ((SemW.bind _ _ _ _).1 this))
        obtain ⟨a, u⟩ := a
        cases a <;> exact h
      · cases h
    · rename_i n e xs ys hu
      refine (SemW.bind _ _ _ _).2 (semW_underlying hu ?_)
      split at h
      · rename_i s he hs
        refine (SemW.bind _ _ _ _).2 (semW_szOf hs ?_)
        have := semW_eqAs (d := d') (eq := eqPure P d e) he (fun x y b H K h hk => ih d' (by omega) e x y b H K h hk) xs ys _ b H K h hk
        rw [Std.Legacy.Range.forIn_eq_forIn_range']
        simp only [Std.Legacy.Range.size, Nat.sub_zero, Nat.add_sub_cancel, Nat.div_one]
        refine (SemW.bind _ _ _ _).2 (SemW.mono _ _ _ _ (fun a H' h => ?_) ((SemW.bind _ _ _ _).1 this))
        obtain ⟨a, u⟩ := a
        cases a <;> exact h
      · cases h
    · cases h

end Go.Sh
