/-
  One operation, and a row of operations.
-/
import Derived.Test.YthojhkhiamomnaaGreatSh4
namespace Go.Sh

/-- A store of one cell: the block is there, the cell lies in it and may be written. -/
def StCell (H : Heap) (a : Addr) (v : Value) (K : Heap → Prop) : Prop :=
  match plainC v, a.spot with
  | true, none => ∃ c T lo hi, H a.block = some (.cells c T (lo, hi)) ∧ a.off < c.size ∧ (decide (lo ≤ a.off) && decide (a.off < hi)) = false ∧ K (H.upd a.block (.cells (c.setIfInBounds a.off v) T (lo, hi)))
  | _, _ => False

def StCells (a : Addr) : Nat → List Value → Heap → (Heap → Prop) → Prop
  | _, [], H, K => K H
  | i, v :: vs, H, K => StCell H (padd a i) v fun H' => StCells a (i + 1) vs H' K

theorem StCell.elim {H : Heap} {a : Addr} {v : Value} {K : Heap → Prop} (h : StCell H a v K) : plainC v = true ∧ (∃ u, H.cell a = some u) ∧ H.frozen a = false ∧ K (H.set a v) := by
  unfold StCell at h
  split at h
  · rename_i hp hs
    obtain ⟨c, T, lo, hi, hb, hlt, hf, hk⟩ := h
    refine ⟨hp, ⟨c[a.off], ?_⟩, ?_, ?_⟩
    · simp only [Heap.cell, hb, hs]
      simp [hlt]
    · simp only [Heap.frozen, hb]
      exact hf
    · have : H.set a v = H.upd a.block (.cells (c.setIfInBounds a.off v) T (lo, hi)) := by
        refine Heap.ext fun b => ?_
        simp only [Heap.set, Heap.alter, Heap.upd]
        by_cases e : b = a.block
        · subst e; simp only [if_true, hb, Option.map_some, Heap.setO, hs]; rfl
        · rw [if_neg e, if_neg e]
      rw [this]; exact hk
  · exact h.elim

theorem StCells.sem {P : Program} {a : Addr} {K : Unit → Heap → Prop} : ∀ (vs : List Value) (i : Nat) (H : Heap), StCells a i vs H (K ()) → SemW P (storeCells a vs i) H K := by
  intro vs
  induction vs with
  | nil => intro i H h; exact h
  | cons v vs ih =>
    intro i H h
    obtain ⟨h1, h2, h3, h4⟩ := StCell.elim h
    unfold storeCells
    refine (SemW.bind _ _ _ _).2 ?_
    rw [padd_eq] at h2 h3 h4
    exact ⟨h1, h2, h3, ih (i + 1) _ h4⟩

def StoreW (P : Program) (t : TypeId) (a v : Value) (H : Heap) (K : Value → Heap → Prop) : Prop :=
  match a with
  | .pointer (some a) => sizeK P t fun s => match Nat.beq v.cells.toList.length s with
    | true => StCells a 0 v.cells.toList H fun H' => K undef H'
    | false => False
  | _ => False

theorem StoreW.sem {P : Program} {t : TypeId} {a v : Value} {H : Heap} {K : Value → Heap → Prop} (h : StoreW P t a v H K) : SemW P (Instr.storeAt t a v) H (fun _ H' => K undef H') := by
  unfold StoreW at h
  split at h
  · rename_i a
    obtain ⟨s, hs, h⟩ := sizeK.elim h
    split at h
    · rename_i hl
      have hl' := Nat.eq_of_beq_eq_true hl
      change SemW P (storeVar t a v) H _
      unfold storeVar
      refine (SemW.bind _ _ _ _).2 (semW_szOf hs ?_)
      rw [if_neg (by simpa using hl')]
      exact StCells.sem _ _ _ h
    · exact h.elim
  · exact h.elim

/-- The address of a field. -/
def FieldAddrW (P : Program) (s : TypeId) (x : Value) (f : Nat) (H : Heap) (K : Value → Heap → Prop) : Prop :=
  match P.underlying s, x with
  | some (.struct fs), .pointer (some a) => match fs.toList[f]? with
    | some f => sizeK P f.type fun n => match n with
      | 0 => False
      | _ + 1 => K (.pointer (some (padd a f.offset))) H
    | none => False
  | _, _ => False

theorem FieldAddrW.sem {P : Program} {s : TypeId} {x : Value} {f : Nat} {H : Heap} {K : Value → Heap → Prop} (h : FieldAddrW P s x f H K) : SemW P (Instr.fieldAt s x f) H K := by
  unfold FieldAddrW at h
  split at h
  · rename_i fs a hu
    split at h
    · rename_i fl hf
      obtain ⟨n, hn, h⟩ := sizeK.elim h
      have hf' : fs[f]? = some fl := by simpa using hf
      unfold Instr.fieldAt
      refine (SemW.bind _ _ _ _).2 (semW_underlying hu ?_)
      change SemW P (match fs[f]? with | some f => _ | _ => _) H K
      rw [hf']
      change SemW P (fieldPlace a fl >>= fun p => pure (.pointer (some p))) H K
      refine (SemW.bind _ _ _ _).2 ?_
      unfold fieldPlace
      refine (SemW.bind _ _ _ _).2 (semW_szOf hn ?_)
      cases n with
      | zero => exact h.elim
      | succ n =>
        rw [if_neg (by simp)]
        rw [padd_eq] at h
        exact h
    · exact h.elim
  · exact h.elim

def FieldW (P : Program) (t : TypeId) (x : Value) (f : Nat) (H : Heap) (K : Value → Heap → Prop) : Prop :=
  match P.underlying t, x with
  | some (.struct fs), .agg cs => match fs.toList[f]? with
    | some f => match isAggB P f.type with
      | some true => sizeK P f.type fun s => K (.agg ⟨(cs.toList.drop f.offset).take s⟩) H
      | some false => match cs.toList[f.offset]? with
        | some v => K v H
        | none => False
      | none => False
    | none => False
  | _, _ => False

theorem FieldW.sem {P : Program} {t : TypeId} {x : Value} {f : Nat} {H : Heap} {K : Value → Heap → Prop} (h : FieldW P t x f H K) : SemW P (Instr.field t x f) H K := by
  unfold FieldW at h
  split at h
  · rename_i fs cs hu
    split at h
    · rename_i fl hf
      have hf' : fs[f]? = some fl := by simpa using hf
      unfold Instr.field
      refine (SemW.bind _ _ _ _).2 (semW_underlying hu ?_)
      change SemW P (match fs[f]? with | some f => _ | none => _) H K
      rw [hf']
      change SemW P (part fl.type cs fl.offset) H K
      split at h
      · rename_i hA
        obtain ⟨s, hs, h⟩ := sizeK.elim h
        exact semW_part (.inl ⟨s, hA, hs, h⟩)
      · rename_i hA
        split at h
        · rename_i v hv
          exact semW_part (.inr ⟨v, hA, hv, h⟩)
        · exact h.elim
      · exact h.elim
    · exact h.elim
  · exact h.elim

/-- A binary operation. -/
def isDiv : BinOp → Bool | .quo | .rem => true | _ => false
def isShift : BinOp → Bool | .shl | .shr => true | _ => false
def isEq : BinOp → Bool | .eql | .neq => true | _ => false
def EqW (P : Program) (op : BinOp) (t : TypeId) (x y : Value) (H : Heap) (K : Value → Heap → Prop) : Prop :=
  match eqPure P 6 t x y with
  | some b => match op with
    | .eql => K (.bool b) H
    | _ => K (.bool (!b)) H
  | none => False
/-- Whether two values are the same, where that is known without a look at memory. -/
def EqB (P : Program) (t : TypeId) (x y : Value) (K : Bool → Prop) : Prop :=
  match eqPure P 6 t x y with
  | some b => K b
  | none => False
/-- Two strings, one behind the other. -/
def CatK (a b : ByteArray) (k : ByteArray → Prop) : Prop := ((a.size + b.size : Nat) : Int) ≤ IntKind.i64.max ∧ k (a ++ b)
def isLit : Operand → Bool
  | .const _ => true
  | _ => false
def BinW (P : Program) (lit : Bool) (op : BinOp) (t : TypeId) (x y : Value) (H : Heap) (K : Value → Heap → Prop) : Prop :=
  match x, y with
  | .int k a, .int k' b => match decide (k = k'), isShift op with
    | _, true => 0 ≤ b ∧ SemW P (match op with | .shl => pure (.int k (k.wrap (a * 2 ^ (min b.toNat k.bits)))) | _ => pure (.int k (a.fdiv (2 ^ (min b.toNat k.bits))))) H K
    | true, false => match isDiv op with
      | true => b ≠ 0 ∧ SemW P (match op with | .quo => pure (.int k (k.wrap (a.tdiv b))) | _ => pure (.int k (a.tmod b))) H K
      | false => SemW P (match op with | .add | .sub | .mul => Op.intArith op k a b | .and | .or | .xor | .andNot => Op.intBits op k a b | _ => Op.intCmp op a b) H K
    | false, false => False
  | .string a, .string b => match op with
    | .add => CatK a b fun s => K (.string s) H
    | _ => SemW P (Op.stringOp op a b) H K
  | .agg _, .agg _ => match isEq op with
    | true => P.eqGuardType P.depth t = false ∧ EqW P op t x y H K
    | false => False
  | .pointer _, .pointer _ => match isEq op with
    | true => EqW P op t x y H K
    | false => False
  | .slice _ _ _, .slice _ _ _ => match isEq op with
    | true => EqW P op t x y H K
    | false => False
  | .bool _, .bool _ => match isEq op with
    | true => EqW P op t x y H K
    | false => False
  | .iface _ _, .nilIface => match isEq op with
    | true => EqW P op t x y H K
    | false => False
  | .map _, .map _ => match isEq op with
    | true => EqW P op t x y H K
    | false => False
  | .nilFunc, .nilFunc => match isEq op with
    | true => EqW P op t x y H K
    | false => False
  | .func _ _ _, .nilFunc => match isEq op with
    | true => EqW P op t x y H K
    | false => False
  | .nilIface, .nilIface => match isEq op with
    | true => lit = true ∧ EqW P op t x y H K
    | false => False
  | _, _ => False

theorem EqW.sem {P : Program} {op : BinOp} {t : TypeId} {x y : Value} {H : Heap} {K : Value → Heap → Prop} (he : isEq op = true) (h : EqW P op t x y H K) :
    SemW P (match op with | .eql => do pure (.bool (← Op.equal t x y)) | _ => do pure (.bool (!(← Op.equal t x y)))) H K := by
  unfold EqW at h
  split at h
  · rename_i b hb
    have key : ∀ K' : Bool → Heap → Prop, K' b H → SemW P (Op.equal t x y) H K' := fun K' hk => semW_eqPure 6 Op.maxDepth (by unfold Op.maxDepth; omega) t x y b H K' hb hk
    cases op <;> simp [isEq] at he
    · exact (SemW.bind _ _ _ _).2 (key _ h)
    · exact (SemW.bind _ _ _ _).2 (key _ h)
  · exact h.elim

def noGuard : Value → Value → Bool
  | .nilIface, .nilIface => false
  | .agg _, .agg _ => false
  | _, _ => true
theorem semW_guard {P : Program} {op : BinOp} {t : TypeId} {ox oy : Operand} {x y : Value} {H : Heap} {K : Value → Heap → Prop} {s : Sem Value} (hm : noGuard x y = true) (hs : SemW P s H K) :
    SemW P (do eqGuard op t ox oy x y; s) H K := by
  unfold eqGuard
  cases op <;> first | exact hs | (cases x <;> cases y <;> first | exact hs | cases hm)

theorem BinW.sem {P : Program} {op : BinOp} {t : TypeId} {ox oy : Operand} {x y : Value} {H : Heap} {K : Value → Heap → Prop} (h : BinW P (isLit oy) op t x y H K) :
    SemW P (do eqGuard op t ox oy x y; binOp op t x y) H K := by
  have guard : ∀ (s : Sem Value), noGuard x y = true → SemW P s H K → SemW P (do eqGuard op t ox oy x y; s) H K := fun s hm hs => semW_guard hm hs
  unfold BinW at h
  split at h
  · rename_i k a k' b
    refine guard _ rfl ?_
    split at h
    · rename_i hs
      obtain ⟨h0, h⟩ := h
      cases op <;> simp [isShift] at hs
      · change SemW P (if b < 0 then _ else _) H K
        rw [if_neg (by omega)]; exact h
      · change SemW P (if b < 0 then _ else _) H K
        rw [if_neg (by omega)]; exact h
    · rename_i hk hs
      have hkk : k = k' := of_decide_eq_true hk
      subst hkk
      split at h
      · rename_i hd
        obtain ⟨h0, h⟩ := h
        cases op <;> simp [isDiv] at hd
        · change SemW P (if k ≠ k then _ else (if b = 0 then _ else _)) H K
          rw [if_neg (by simp), if_neg h0]; exact h
        · change SemW P (if k ≠ k then _ else (if b = 0 then _ else _)) H K
          rw [if_neg (by simp), if_neg h0]; exact h
      · rename_i hd
        cases op <;> first | (simp [isShift] at hs; done) | (simp [isDiv] at hd; done) | (change SemW P (if k ≠ k then _ else _) H K; rw [if_neg (by simp)]; exact h)
    · exact h.elim
  · refine guard _ rfl ?_
    cases op <;> first | exact h | skip
    rename_i a b
    change SemW P (if ((a.size + b.size : Nat) : Int) > IntKind.i64.max then _ else _) H K
    rw [if_neg (by have := h.1; omega)]
    exact h.2
  · rename_i xs ys
    split at h
    · rename_i he
      obtain ⟨hg, h⟩ := h
      have h2 := EqW.sem he h
      have : ∀ s, SemW P s H K → SemW P (do eqGuard op t ox oy (.agg xs) (.agg ys); s) H K := by
        intro s hs
        unfold eqGuard
        cases op <;> simp [isEq] at he
        · refine (SemW.bind _ _ _ _).2 ?_
          change SemW P (if (!P.eqGuardType P.depth t) = true then _ else _) H _
          rw [hg]; exact hs
        · refine (SemW.bind _ _ _ _).2 ?_
          change SemW P (if (!P.eqGuardType P.depth t) = true then _ else _) H _
          rw [hg]; exact hs
      refine this _ ?_
      cases op <;> simp [isEq] at he <;> exact h2
    · exact h.elim
  · split at h
    · rename_i he
      have h2 := EqW.sem he h
      refine guard _ rfl ?_
      cases op <;> simp [isEq] at he <;> exact h2
    · exact h.elim
  · split at h
    · rename_i he
      have h2 := EqW.sem he h
      refine guard _ rfl ?_
      cases op <;> simp [isEq] at he <;> exact h2
    · exact h.elim
  · split at h
    · rename_i he
      have h2 := EqW.sem he h
      refine guard _ rfl ?_
      cases op <;> simp [isEq] at he <;> exact h2
    · exact h.elim
  · split at h
    · rename_i he
      have h2 := EqW.sem he h
      refine guard _ rfl ?_
      cases op <;> simp [isEq] at he <;> exact h2
    · exact h.elim
  · split at h
    · rename_i he
      have h2 := EqW.sem he h
      refine guard _ rfl ?_
      cases op <;> simp [isEq] at he <;> exact h2
    · exact h.elim
  · split at h
    · rename_i he
      have h2 := EqW.sem he h
      refine guard _ rfl ?_
      cases op <;> simp [isEq] at he <;> exact h2
    · exact h.elim
  · split at h
    · rename_i he
      have h2 := EqW.sem he h
      refine guard _ rfl ?_
      cases op <;> simp [isEq] at he <;> exact h2
    · exact h.elim
  · split at h
    · rename_i he
      obtain ⟨hl, h⟩ := h
      have h2 := EqW.sem he h
      cases oy with
      | tmp _ => simp [isLit] at hl
      | global _ => simp [isLit] at hl
      | func _ => simp [isLit] at hl
      | const v =>
        have : ∀ s, SemW P s H K → SemW P (do eqGuard op t ox (.const v) .nilIface .nilIface; s) H K := by
          intro s hs
          unfold eqGuard
          cases op <;> simp [isEq] at he
          · cases ox <;> exact hs
          · cases ox <;> exact hs
        refine this _ ?_
        cases op <;> simp [isEq] at he <;> exact h2
    · exact h.elim
  · exact h.elim

/-- The leaves of a value, one by one. -/
def leafL : List Leaf → List Value → (List Value → Prop) → Prop
  | [], acc, r => r acc
  | l :: ls, acc, r => leafEx l fun v => leafL ls (acc ++ [v]) r
theorem leafL.elim {r : List Value → Prop} : ∀ (ls : List Leaf) (acc : List Value), leafL ls acc r → ∃ vs, r vs
  | [], acc, h => ⟨acc, h⟩
  | l :: ls, acc, h => by obtain ⟨v, h⟩ := leafEx.elim h; exact leafL.elim ls _ h
theorem leafL.mono {r r' : List Value → Prop} (hr : ∀ v, r v → r' v) : ∀ (ls : List Leaf) (acc : List Value), leafL ls acc r → leafL ls acc r'
  | [], _, h => hr _ h
  | _ :: ls, _, h => leafEx.mono (fun _ h => leafL.mono hr ls _ h) h

/-- A value of a type that is no tuple. -/
def tyEx1 (P : Program) (t : TypeId) (r : Value → Prop) : Prop :=
  match isAggB P t with
  | some true => match Nat.ble (P.cellsOf t) 24 with
    | true => leafL (leaves P 6 t) [] fun vs => r (.agg ⟨vs⟩)
    | false => ∃ cs : List Value, r (.agg ⟨cs⟩)
  | _ => leafEx (leafOf P t) r
def tyExL (P : Program) : List TypeId → List Value → (List Value → Prop) → Prop
  | [], acc, r => r acc
  | t :: ts, acc, r => tyEx1 P t fun v => tyExL P ts (acc ++ [v]) r
/-- A value of a type. -/
def tyEx (P : Program) (t : TypeId) (r : Value → Prop) : Prop :=
  match P.underlying t with
  | some (.tuple ts) => tyExL P ts.toList [] fun vs => r (.tuple ⟨vs⟩)
  | _ => tyEx1 P t r
theorem tyEx1.elim {P : Program} {t : TypeId} {r : Value → Prop} (h : tyEx1 P t r) : ∃ v, r v := by
  unfold tyEx1 at h
  split at h
  · split at h
    · obtain ⟨vs, h⟩ := leafL.elim _ _ h; exact ⟨_, h⟩
    · obtain ⟨cs, h⟩ := h; exact ⟨_, h⟩
  · exact leafEx.elim h
theorem tyEx1.mono {P : Program} {t : TypeId} {r r' : Value → Prop} (hr : ∀ v, r v → r' v) (h : tyEx1 P t r) : tyEx1 P t r' := by
  unfold tyEx1 at *
  split at h
  · split at h
    · exact leafL.mono (fun _ h => hr _ h) _ _ h
    · obtain ⟨cs, h⟩ := h; exact ⟨cs, hr _ h⟩
  · exact leafEx.mono hr h
theorem tyExL.elim {P : Program} {r : List Value → Prop} : ∀ (ts : List TypeId) (acc : List Value), tyExL P ts acc r → ∃ vs, r vs
  | [], acc, h => ⟨acc, h⟩
  | t :: ts, acc, h => by obtain ⟨v, h⟩ := tyEx1.elim h; exact tyExL.elim ts _ h
theorem tyExL.mono {P : Program} {r r' : List Value → Prop} (hr : ∀ v, r v → r' v) : ∀ (ts : List TypeId) (acc : List Value), tyExL P ts acc r → tyExL P ts acc r'
  | [], _, h => hr _ h
  | _ :: ts, _, h => tyEx1.mono (fun _ h => tyExL.mono hr ts _ h) h
theorem tyEx.elim {P : Program} {t : TypeId} {r : Value → Prop} (h : tyEx P t r) : ∃ v, r v := by
  unfold tyEx at h
  split at h
  · obtain ⟨vs, h⟩ := tyExL.elim _ _ h; exact ⟨_, h⟩
  · exact tyEx1.elim h
theorem tyEx.mono {P : Program} {t : TypeId} {r r' : Value → Prop} (hr : ∀ v, r v → r' v) (h : tyEx P t r) : tyEx P t r' := by
  unfold tyEx at *
  split at h
  · exact tyExL.mono (fun _ h => hr _ h) _ _ h
  · exact tyEx1.mono hr h
/-- A result, spelled by its type. -/
def ofTy (P : Program) (t : TypeId) (K : Value → Heap → Prop) (v : Value) (H : Heap) : Prop := tyEx P t fun u => v = u ∧ K u H
theorem ofTy.elim {P : Program} {t : TypeId} {K : Value → Heap → Prop} {v : Value} {H : Heap} (h : ofTy P t K v H) : K v H := by
  obtain ⟨u, rfl, h⟩ := tyEx.elim h; exact h
theorem ofTy.mono {P : Program} {t : TypeId} {K K' : Value → Heap → Prop} (hk : ∀ v H, K v H → K' v H) {v : Value} {H : Heap} (h : ofTy P t K v H) : ofTy P t K' v H :=
  tyEx.mono (fun _ h => ⟨h.1, hk _ _ h.2⟩) h

def isIntT (P : Program) (t : TypeId) : Bool := match P.underlying t with | some (.int _) => true | _ => false
def ConvW (P : Program) (s d ot : TypeId) (x : Value) (H : Heap) (K : Value → Heap → Prop) : Prop :=
  match isIntT P s with
  | true => match P.underlying d, x with
    | some (.int k), .int _ n => K (.int k (k.wrap n)) H
    | _, _ => False
  | false => SemW P (convert s d x) H (ofTy P ot K)
theorem ConvW.sem {P : Program} {s d ot : TypeId} {x : Value} {H : Heap} {K : Value → Heap → Prop} (h : ConvW P s d ot x H K) : SemW P (convert s d x) H K := by
  unfold ConvW at h
  split at h
  · rename_i hs
    split at h
    · rename_i k k' n h2
      unfold isIntT at hs
      split at hs
      · rename_i h1
        unfold convert
        refine (SemW.bind _ _ _ _).2 (semW_underlying h1 ?_)
        exact (SemW.bind _ _ _ _).2 (semW_underlying h2 h)
      · cases hs
    · exact h.elim
  · exact SemW.mono _ _ _ _ (fun _ _ h => ofTy.elim h) h

def AppW (P : Program) (ats : Array TypeId) (t : TypeId) (args : List Value) (H : Heap) (K : Value → Heap → Prop) : Prop := SemW P (Builtin.append_ ats t ⟨args⟩) H K
def CopyW (P : Program) (ats : Array TypeId) (t : TypeId) (args : List Value) (H : Heap) (K : Value → Heap → Prop) : Prop := SemW P (Builtin.copy_ ats t ⟨args⟩) H K
def MakeW (P : Program) (t : TypeId) (l c : Value) (H : Heap) (K : Value → Heap → Prop) : Prop := SemW P (Instr.makeSlice t l c) H K

def LenW (P : Program) (t : Option TypeId) (x : Option Value) (H : Heap) (K : Value → Heap → Prop) : Prop :=
  match t, x with
  | some t, some x => match P.underlying t, x with
    | some .string, .string s => K (goInt s.size) H
    | some (.array n _), _ => K (goInt n) H
    | some (.slice _), .slice _ n _ => K (goInt n) H
    | _, _ => False
  | _, _ => False
theorem LenW.sem {P : Program} {ats : Array TypeId} {t : TypeId} {args : List Value} {H : Heap} {K : Value → Heap → Prop} (h : LenW P ats.toList[0]? args[0]? H K) : SemW P (Builtin.len_ ats t ⟨args⟩) H K := by
  unfold LenW at h
  split at h
  · rename_i t' x h1 h2
    have h1' : ats[0]? = some t' := by simpa using h1
    have h2' : (⟨args⟩ : Array Value)[0]? = some x := by simpa using h2
    unfold Builtin.len_
    rw [h1', h2']
    split at h
    · rename_i s hu; exact (SemW.bind _ _ _ _).2 (semW_underlying hu h)
    · rename_i n e _ hu; exact (SemW.bind _ _ _ _).2 (semW_underlying hu h)
    · rename_i e a n c hu; exact (SemW.bind _ _ _ _).2 (semW_underlying hu h)
    · exact h.elim
  · exact h.elim

def CapW (P : Program) (t : Option TypeId) (x : Option Value) (H : Heap) (K : Value → Heap → Prop) : Prop :=
  match t, x with
  | some t, some x => match P.underlying t, x with
    | some (.array n _), _ => K (goInt n) H
    | some (.slice _), .slice _ _ n => K (goInt n) H
    | _, _ => False
  | _, _ => False
theorem CapW.sem {P : Program} {ats : Array TypeId} {t : TypeId} {args : List Value} {H : Heap} {K : Value → Heap → Prop} (h : CapW P ats.toList[0]? args[0]? H K) : SemW P (Builtin.cap_ ats t ⟨args⟩) H K := by
  unfold CapW at h
  split at h
  · rename_i t' x h1 h2
    have h1' : ats[0]? = some t' := by simpa using h1
    have h2' : (⟨args⟩ : Array Value)[0]? = some x := by simpa using h2
    unfold Builtin.cap_
    rw [h1', h2']
    split at h
    · rename_i n e _ hu; exact (SemW.bind _ _ _ _).2 (semW_underlying hu h)
    · rename_i e a n c hu; exact (SemW.bind _ _ _ _).2 (semW_underlying hu h)
    · exact h.elim
  · exact h.elim

def MinMaxW (mx : Bool) (args : List Value) (H : Heap) (K : Value → Heap → Prop) : Prop :=
  match args with
  | [.int k x, .int _ y] => K (.int k (match mx with | true => max x y | false => min x y)) H
  | [.int k x, .int _ y, .int _ z] => K (.int k (match mx with | true => max (max x y) z | false => min (min x y) z)) H
  | _ => False
theorem min_ite (x y : Int) : (if y < x then y else x) = min x y := by rw [Int.min_def]; split <;> split <;> omega
theorem max_ite (x y : Int) : (if x < y then y else x) = max x y := by rw [Int.max_def]; split <;> split <;> omega
theorem MinMaxW.sem_min {P : Program} {ats : Array TypeId} {t : TypeId} {args : List Value} {H : Heap} {K : Value → Heap → Prop} (h : MinMaxW false args H K) : SemW P (Builtin.min_ ats t ⟨args⟩) H K := by
  unfold MinMaxW at h
  split at h
  · rename_i k x _ y
    change K (.int k (if y < x then y else x)) H
    rw [min_ite]; exact h
  · rename_i k x _ y _ z
    change K (.int k (if z < (if y < x then y else x) then z else (if y < x then y else x))) H
    rw [min_ite, min_ite]; exact h
  · exact h.elim
theorem MinMaxW.sem_max {P : Program} {ats : Array TypeId} {t : TypeId} {args : List Value} {H : Heap} {K : Value → Heap → Prop} (h : MinMaxW true args H K) : SemW P (Builtin.max_ ats t ⟨args⟩) H K := by
  unfold MinMaxW at h
  split at h
  · rename_i k x _ y
    change K (.int k (if x < y then y else x)) H
    rw [max_ite]; exact h
  · rename_i k x _ y _ z
    change K (.int k (if (if x < y then y else x) < z then z else (if x < y then y else x))) H
    rw [max_ite, max_ite]; exact h
  · exact h.elim

/-- A function that the model itself answers for. -/
def isExt (P : Program) (f : FuncId) : Bool := match P.funcs[f]? with
  | some fn => fn.body.isNone
  | none => false
def CallF (P : Program) (f : FuncId) (t : TypeId) (args : Array Value) (H : Heap) (K : Value → Heap → Prop) : Prop := match isExt P f with
  | true => SemW P (callFunc f args) H (NextW P (ofTy P t K))
  | false => FnW P f args H (ofTy P t K)
theorem CallF.of_fn {P : Program} {f : FuncId} {t : TypeId} {args : Array Value} {H : Heap} {K : Value → Heap → Prop} (h : FnW P f args H (ofTy P t K)) : CallF P f t args H K := by
  obtain ⟨fn, hf, _, hb⟩ := h.1
  have e : isExt P f = false := by
    unfold isExt
    rw [hf]
    exact hb
  unfold CallF
  rw [e]
  exact h
theorem CallF.sem {P : Program} {f : FuncId} {t : TypeId} {args : Array Value} {H : Heap} {K : Value → Heap → Prop} (h : CallF P f t args H K) : SemW P (callFunc f args) H (NextW P K) := by
  unfold CallF at h
  split at h
  · refine SemW.mono _ _ _ _ (fun n H' hn => ?_) h
    cases n <;> simp only [NextW] at hn ⊢ <;> first | exact ofTy.elim hn | exact FnW.mono hn (fun _ _ h => ofTy.elim h) | exact hn.mono (fun _ _ h => ofTy.elim h) | exact hn.elim
  · exact semW_callFunc h.1 (h.mono fun _ _ h => h.elim)
/-- A call of what the model answers for. -/
def ExtW (P : Program) (f : FuncId) (args : Array Value) (H : Heap) (K : Value → Heap → Prop) : Prop := SemW P (callFunc f args) H (NextW P K)

/-- The length of a map is asked of memory. -/
def isMapT (P : Program) : Option TypeId → Bool
  | some t => (match P.underlying t with
    | some (.map _ _) => true
    | _ => false)
  | none => false
def CallW (P : Program) (o : Oper) (c : Call) (ρ : Env) (H : Heap) (K : Value → Heap → Prop) : Prop :=
  match c.callee with
  | .value (.func f) => CallF P f o.type ⟨c.args.toList.map (ev ρ)⟩ H K
  | .builtin .len => match isMapT P c.argTypes.toList[0]? with
    | false => LenW P c.argTypes.toList[0]? (c.args.toList.map (ev ρ))[0]? H K
    | true => SemW P (Builtin.len_ c.argTypes o.type ⟨c.args.toList.map (ev ρ)⟩) H (ofTy P o.type K)
  | .builtin .delete => SemW P (Builtin.delete_ c.argTypes o.type ⟨c.args.toList.map (ev ρ)⟩) H K
  | .builtin .clear => SemW P (Builtin.clear_ c.argTypes o.type ⟨c.args.toList.map (ev ρ)⟩) H K
  | .builtin .unsafeString => SemW P (Builtin.unsafeString_ c.argTypes o.type ⟨c.args.toList.map (ev ρ)⟩) H (ofTy P o.type K)
  | .builtin .unsafeSliceData => SemW P (Builtin.unsafeSliceData_ c.argTypes o.type ⟨c.args.toList.map (ev ρ)⟩) H (ofTy P o.type K)
  | .builtin .cap => CapW P c.argTypes.toList[0]? (c.args.toList.map (ev ρ))[0]? H K
  | .builtin .append => AppW P c.argTypes o.type (c.args.toList.map (ev ρ)) H (ofTy P o.type K)
  | .builtin .copy => CopyW P c.argTypes o.type (c.args.toList.map (ev ρ)) H (ofTy P o.type K)
  | .builtin .min => MinMaxW false (c.args.toList.map (ev ρ)) H K
  | .builtin .max => MinMaxW true (c.args.toList.map (ev ρ)) H K
  | .value (.tmp t) => match calOf (ρ t) with
    | .yield l => YieldW P l (c.args.toList.map (ev ρ)) H (ofTy P o.type K)
    | .fn f caps => FnW P f ⟨c.args.toList.map (ev ρ) ++ caps⟩ H (ofTy P o.type K)
    | .bnd f first caps => FnW P f ⟨first ++ (c.args.toList.map (ev ρ) ++ caps)⟩ H (ofTy P o.type K)
    | .other => SemW P (do let d ← resolve (ev ρ) c o.type; invoke d.target d.args) H (NextW P K)
  | _ => SemW P (do let d ← resolve (ev ρ) c o.type; invoke d.target d.args) H (NextW P K)

theorem calOf_yield {v : Value} {l : Nat} (h : calOf v = .yield l) : ∃ caps, v = .func (.yield l) #[] caps := by
  unfold calOf at h
  split at h
  · cases h; exact ⟨_, rfl⟩
  · cases h
  · cases h
  · cases h
theorem calOf_fn {v : Value} {f : FuncId} {caps : List Value} (h : calOf v = .fn f caps) : v = .func (.func f) #[] ⟨caps⟩ := by
  unfold calOf at h
  split at h
  · cases h
  · cases h; rfl
  · cases h
  · cases h
theorem calOf_bnd {v : Value} {f : FuncId} {first caps : List Value} (h : calOf v = .bnd f first caps) : v = .func (.func f) ⟨first⟩ ⟨caps⟩ := by
  unfold calOf at h
  split at h
  · cases h
  · cases h
  · cases h; rfl
  · cases h
theorem args_eq (ρ : Env) (l : Array Operand) : l.map (ev ρ) = ⟨l.toList.map (ev ρ)⟩ := by
  apply Array.ext'; simp

theorem CallW.sem {P : Program} {o : Oper} {c : Call} {ρ : Env} {H : Heap} {K : Value → Heap → Prop} (h : CallW P o c ρ H K) :
    SemW P (do let d ← resolve (ev ρ) c o.type; invoke d.target d.args) H (NextW P K) := by
  unfold CallW at h
  split at h
  · rename_i f hc
    unfold resolve
    simp only [hc, args_eq]
    change SemW P (callFunc f (#[] ++ ⟨c.args.toList.map (ev ρ)⟩ ++ #[])) H _
    have : (#[] ++ (⟨c.args.toList.map (ev ρ)⟩ : Array Value) ++ #[]) = ⟨c.args.toList.map (ev ρ)⟩ := by simp
    rw [this]
    exact h.sem
  · rename_i hc
    unfold resolve
    simp only [hc, args_eq]
    split at h
    · change SemW P (Builtin.len_ c.argTypes o.type ⟨c.args.toList.map (ev ρ)⟩ >>= fun v => pure (Next.value v)) H _
      exact (SemW.bind _ _ _ _).2 (LenW.sem h)
    · change SemW P (Builtin.len_ c.argTypes o.type ⟨c.args.toList.map (ev ρ)⟩ >>= fun v => pure (Next.value v)) H _
      exact (SemW.bind _ _ _ _).2 (SemW.mono _ _ _ _ (fun _ _ h => ofTy.elim h) h)
  · rename_i hc
    unfold resolve
    simp only [hc, args_eq]
    change SemW P (Builtin.delete_ c.argTypes o.type ⟨c.args.toList.map (ev ρ)⟩ >>= fun v => pure (Next.value v)) H _
    exact (SemW.bind _ _ _ _).2 h
  · rename_i hc
    unfold resolve
    simp only [hc, args_eq]
    change SemW P (Builtin.clear_ c.argTypes o.type ⟨c.args.toList.map (ev ρ)⟩ >>= fun v => pure (Next.value v)) H _
    exact (SemW.bind _ _ _ _).2 h
  · rename_i hc
    unfold resolve
    simp only [hc, args_eq]
    change SemW P (Builtin.unsafeString_ c.argTypes o.type ⟨c.args.toList.map (ev ρ)⟩ >>= fun v => pure (Next.value v)) H _
    exact (SemW.bind _ _ _ _).2 (SemW.mono _ _ _ _ (fun _ _ h => ofTy.elim h) h)
  · rename_i hc
    unfold resolve
    simp only [hc, args_eq]
    change SemW P (Builtin.unsafeSliceData_ c.argTypes o.type ⟨c.args.toList.map (ev ρ)⟩ >>= fun v => pure (Next.value v)) H _
    exact (SemW.bind _ _ _ _).2 (SemW.mono _ _ _ _ (fun _ _ h => ofTy.elim h) h)
  · rename_i hc
    unfold resolve
    simp only [hc, args_eq]
    change SemW P (Builtin.cap_ c.argTypes o.type ⟨c.args.toList.map (ev ρ)⟩ >>= fun v => pure (Next.value v)) H _
    exact (SemW.bind _ _ _ _).2 (CapW.sem h)
  · rename_i hc
    unfold resolve
    simp only [hc, args_eq]
    change SemW P (Builtin.append_ c.argTypes o.type ⟨c.args.toList.map (ev ρ)⟩ >>= fun v => pure (Next.value v)) H _
    exact (SemW.bind _ _ _ _).2 (SemW.mono _ _ _ _ (fun _ _ h => ofTy.elim h) h)
  · rename_i hc
    unfold resolve
    simp only [hc, args_eq]
    change SemW P (Builtin.copy_ c.argTypes o.type ⟨c.args.toList.map (ev ρ)⟩ >>= fun v => pure (Next.value v)) H _
    exact (SemW.bind _ _ _ _).2 (SemW.mono _ _ _ _ (fun _ _ h => ofTy.elim h) h)
  · rename_i hc
    unfold resolve
    simp only [hc, args_eq]
    change SemW P (Builtin.min_ c.argTypes o.type ⟨c.args.toList.map (ev ρ)⟩ >>= fun v => pure (Next.value v)) H _
    exact (SemW.bind _ _ _ _).2 (MinMaxW.sem_min h)
  · rename_i hc
    unfold resolve
    simp only [hc, args_eq]
    change SemW P (Builtin.max_ c.argTypes o.type ⟨c.args.toList.map (ev ρ)⟩ >>= fun v => pure (Next.value v)) H _
    exact (SemW.bind _ _ _ _).2 (MinMaxW.sem_max h)
  · rename_i t hc
    split at h
    · rename_i l hy
      obtain ⟨caps, hv⟩ := calOf_yield hy
      obtain ⟨r, h1, h2, h3, h4⟩ := h
      unfold resolve
      simp only [hc, args_eq]
      change SemW P (do let d ← Deferred.ofValue (ρ t) ⟨c.args.toList.map (ev ρ)⟩; invoke d.target d.args) H _
      rw [hv]
      change SemW P (Instr.yield l (#[] ++ ⟨c.args.toList.map (ev ρ)⟩)) H _
      have : (#[] ++ (⟨c.args.toList.map (ev ρ)⟩ : Array Value)) = ⟨c.args.toList.map (ev ρ)⟩ := by simp
      rw [this]
      unfold Instr.yield
      refine (SemW.bind _ _ _ _).2 ?_
      unfold Instr.getLoop
      refine (SemW.bind _ _ _ _).2 ?_
      refine ⟨_, h1, rfl, ?_⟩
      have hsz : (⟨c.args.toList.map (ev ρ)⟩ : Array Value).size = r.params.size := h3
      change SemW P (if (⟨c.args.toList.map (ev ρ)⟩ : Array Value).size ≠ r.params.size then _ else _) H _
      rw [if_neg (by rw [hsz]; simp)]
      change RndW P l r.fn ((r.params.zip ⟨c.args.toList.map (ev ρ)⟩).foldl (fun tmps (x : Tmp × Value) => tmps.setIfInBounds x.1 x.2) r.tmps) r.assign r.body H K
      have e : (r.params.zip ⟨c.args.toList.map (ev ρ)⟩).foldl (fun tmps (x : Tmp × Value) => tmps.setIfInBounds x.1 x.2) r.tmps = bindT r.params.toList (c.args.toList.map (ev ρ)) r.tmps := by
        rw [← bindT_fold _ _ _ (by rw [h3]; simp), ← Array.foldl_toList]
        simp
      rw [e]
      exact h4.mono fun _ _ h => ofTy.elim h
    · rename_i f caps hy
      have hv := calOf_fn hy
      unfold resolve
      simp only [hc, args_eq]
      change SemW P (do let d ← Deferred.ofValue (ρ t) ⟨c.args.toList.map (ev ρ)⟩; invoke d.target d.args) H _
      rw [hv]
      change SemW P (callFunc f (#[] ++ ⟨c.args.toList.map (ev ρ)⟩ ++ ⟨caps⟩)) H _
      have : (#[] ++ (⟨c.args.toList.map (ev ρ)⟩ : Array Value) ++ ⟨caps⟩) = ⟨c.args.toList.map (ev ρ) ++ caps⟩ := by simp
      rw [this]
      exact semW_callFunc h.1 (h.mono fun _ _ h => h.elim)
    · rename_i f first caps hy
      have hv := calOf_bnd hy
      unfold resolve
      simp only [hc, args_eq]
      change SemW P (do let d ← Deferred.ofValue (ρ t) ⟨c.args.toList.map (ev ρ)⟩; invoke d.target d.args) H _
      rw [hv]
      change SemW P (callFunc f (⟨first⟩ ++ ⟨c.args.toList.map (ev ρ)⟩ ++ ⟨caps⟩)) H _
      have : ((⟨first⟩ : Array Value) ++ (⟨c.args.toList.map (ev ρ)⟩ : Array Value) ++ ⟨caps⟩) = ⟨first ++ (c.args.toList.map (ev ρ) ++ caps)⟩ := by simp
      rw [this]
      exact semW_callFunc h.1 (h.mono fun _ _ h => h.elim)
    · exact h
  · exact h

def UnW (P : Program) (op : UnOp) (x : Value) (H : Heap) (K : Value → Heap → Prop) : Prop :=
  match x with
  | .bool _ | .int _ _ => SemW P (Op.unary op x) H K
  | _ => False
theorem UnW.sem {P : Program} {op : UnOp} {x : Value} {H : Heap} {K : Value → Heap → Prop} (h : UnW P op x H K) : SemW P (Op.unary op x) H K := by
  unfold UnW at h
  split at h
  · exact h
  · exact h
  · exact h.elim

/-- A closure without first arguments. -/
def MkFnW (P : Program) (o : Oper) (ρ : Env) (H : Heap) (K : Value → Heap → Prop) : Prop := match o.op with
  | .makeFunc (.func f) ⟨[]⟩ captured => K (.func (.func f) #[] ⟨captured.toList.map (ev ρ)⟩) H
  | .makeFunc (.func f) ⟨d :: ds⟩ ⟨captured⟩ => K (.func (.func f) ⟨(d :: ds).map (ev ρ)⟩ ⟨captured.map (ev ρ)⟩) H
  | _ => SemW P (execOp (ev ρ) o) H (NextW P K)
theorem MkFnW.sem {P : Program} {o : Oper} {ρ : Env} {H : Heap} {K : Value → Heap → Prop} (h : MkFnW P o ρ H K) : SemW P (execOp (ev ρ) o) H (NextW P K) := by
  unfold MkFnW at h
  split at h
  · rename_i f captured ho
    unfold execOp
    simp only [ho]
    have e0 : Array.map (ev ρ) (⟨[]⟩ : Array Operand) = #[] := by apply Array.ext'; simp
    have key : K (.func (.func f) (Array.map (ev ρ) ⟨[]⟩) (Array.map (ev ρ) captured)) H := by
      have e : captured.map (ev ρ) = ⟨captured.toList.map (ev ρ)⟩ := by apply Array.ext'; simp
      rw [e, e0]
      exact h
    exact key
  · rename_i f d ds captured ho
    unfold execOp
    simp only [ho]
    have key : K (.func (.func f) (Array.map (ev ρ) ⟨d :: ds⟩) (Array.map (ev ρ) ⟨captured⟩)) H := by
      have e0 : Array.map (ev ρ) (⟨d :: ds⟩ : Array Operand) = ⟨(d :: ds).map (ev ρ)⟩ := by apply Array.ext'; simp
      have e : Array.map (ev ρ) (⟨captured⟩ : Array Operand) = ⟨captured.map (ev ρ)⟩ := by apply Array.ext'; simp
      rw [e, e0]
      exact h
    exact key
  · exact h


/-- A step of a loop over a map: whether there is one more. -/
def NxW (P : Program) (it : Value) (s : Bool) (t : TypeId) (H : Heap) (K : Value → Heap → Prop) : Prop :=
  SemW P (Instr.next it s t) H fun v H' => ∃ (b : Bool) (vs : List Value), v = .tuple ⟨.bool b :: vs⟩ ∧ K (.tuple ⟨.bool b :: vs⟩) H'
theorem NxW.sem {P : Program} {it : Value} {s : Bool} {t : TypeId} {H : Heap} {K : Value → Heap → Prop} (h : NxW P it s t H K) : SemW P (Instr.next it s t) H K :=
  SemW.mono _ _ _ _ (fun _ _ ⟨_, _, e, h⟩ => by rw [e]; exact h) h
theorem NxW.mono {P : Program} {it : Value} {s : Bool} {t : TypeId} {H : Heap} {K K' : Value → Heap → Prop} (hk : ∀ v H, K v H → K' v H) (h : NxW P it s t H K) : NxW P it s t H K' :=
  SemW.mono _ _ _ _ (fun _ _ ⟨b, vs, e, h⟩ => ⟨b, vs, e, hk _ _ h⟩) h
/-- Whether all maps of a program are from numbers to numbers. -/
def intMaps (P : Program) : Bool := (List.range P.types.size).all fun t => match P.underlying t with
  | some (.map k e) => (match P.underlying k, P.underlying e with
    | some (.int .i64), some (.int .i64) => true
    | _, _ => false)
  | _ => true
/-- The entry of the last step. -/
def EnW (P : Program) (it : Value) (H : Heap) (K : Value → Heap → Prop) : Prop := match intMaps P with
  | true => SemW P (Instr.entry it) H fun v H' => ∃ k x : Int, v = .tuple ⟨[.int .i64 k, .int .i64 x]⟩ ∧ K (.tuple ⟨[.int .i64 k, .int .i64 x]⟩) H'
  | false => SemW P (Instr.entry it) H fun v H' => ∃ k x : Value, v = .tuple ⟨[k, x]⟩ ∧ K (.tuple ⟨[k, x]⟩) H'
theorem EnW.sem {P : Program} {it : Value} {H : Heap} {K : Value → Heap → Prop} (h : EnW P it H K) : SemW P (Instr.entry it) H K := by
  unfold EnW at h
  split at h
  · exact SemW.mono _ _ _ _ (fun _ _ ⟨_, _, e, h⟩ => by rw [e]; exact h) h
  · exact SemW.mono _ _ _ _ (fun _ _ ⟨_, _, e, h⟩ => by rw [e]; exact h) h
theorem EnW.mono {P : Program} {it : Value} {H : Heap} {K K' : Value → Heap → Prop} (hk : ∀ v H, K v H → K' v H) (h : EnW P it H K) : EnW P it H K' := by
  unfold EnW at h ⊢
  split at h
  · exact SemW.mono _ _ _ _ (fun _ _ ⟨k, x, e, h⟩ => ⟨k, x, e, hk _ _ h⟩) h
  · exact SemW.mono _ _ _ _ (fun _ _ ⟨k, x, e, h⟩ => ⟨k, x, e, hk _ _ h⟩) h

/-- The entry of a key, there or made: what it holds, and its stamp. -/
def MeW (P : Program) (t : TypeId) (m k : Value) (H : Heap) (K : Value → Heap → Prop) : Prop :=
  SemW P (Instr.mapEntry t m k) H fun v H' => ∃ (z : Value) (n : Int), v = .tuple ⟨[z, .int .i64 n]⟩ ∧ K (.tuple ⟨[z, .int .i64 n]⟩) H'
theorem MeW.sem {P : Program} {t : TypeId} {m k : Value} {H : Heap} {K : Value → Heap → Prop} (h : MeW P t m k H K) : SemW P (Instr.mapEntry t m k) H K :=
  SemW.mono _ _ _ _ (fun _ _ ⟨_, _, e, h⟩ => by rw [e]; exact h) h
theorem MeW.mono {P : Program} {t : TypeId} {m k : Value} {H : Heap} {K K' : Value → Heap → Prop} (hk : ∀ v H, K v H → K' v H) (h : MeW P t m k H K) : MeW P t m k H K' :=
  SemW.mono _ _ _ _ (fun _ _ ⟨b, vs, e, h⟩ => ⟨b, vs, e, hk _ _ h⟩) h

/-- A slice as a pointer to an array. -/
def StaW (P : Program) (t : TypeId) (x : Value) (H : Heap) (K : Value → Heap → Prop) : Prop := match P.underlying t, x with
  | some (.array n _), .slice a len _ => (match Nat.blt len n with
    | true => False
    | false => K (.pointer a) H)
  | _, _ => False
theorem StaW.sem {P : Program} {t : TypeId} {x : Value} {H : Heap} {K : Value → Heap → Prop} (h : StaW P t x H K) : SemW P (Instr.arrayAt t x) H K := by
  unfold StaW at h
  split at h
  · rename_i n e a len c hu
    split at h
    · exact h.elim
    · rename_i hl
      unfold Instr.arrayAt
      refine (SemW.bind _ _ _ _).2 (semW_underlying hu ?_)
      change SemW P (if len < n then _ else _) H K
      rw [if_neg (fun hlt => by rw [show Nat.blt len n = true by rw [Nat.blt_eq]; exact hlt] at hl; cases hl)]
      exact h
  · exact h.elim

/-- ONE OPERATION. -/
def OpW (P : Program) (o : Oper) (ρ : Env) (H : Heap) (K : Value → Heap → Prop) : Prop :=
  match o.op with
  | .move x => K (ev ρ x) H
  | .assign x => K (ev ρ x) H
  | .pick c a b => match ev ρ c with
    | .bool t => K (match t with | true => ev ρ a | false => ev ρ b) H
    | _ => False
  | .load t a => LoadW P t (ev ρ a) H K
  | .store t a v => StoreW P t (ev ρ a) (ev ρ v) H K
  | .nilCheck x => match ev ρ x with
    | .pointer p => NilP p fun a => K (.pointer (some a)) H
    | _ => False
  | .indexAddr t x i => IdxAddrW P t (ev ρ x) (ev ρ i) H K
  | .index t x i => IdxW P t (ev ρ x) (ev ρ i) H K
  | .slice t x lo hi mx => SliceW P t (ev ρ x) (lo.map (ev ρ)) (hi.map (ev ρ)) (mx.map (ev ρ)) H K
  | .build t parts => match buildL P t (parts.toList.map fun p => (p.1, ev ρ p.2)) with
    | some l => K (.agg ⟨l⟩) H
    | none => False
  | .buildSlice t len parts => match P.underlying t with
    | some (.slice e) => match rowL P e len (parts.toList.map fun p => (p.1, ev ρ p.2)) with
      | some l => ∀ n, H n = none → K (.slice (some ⟨n, 0, none⟩) len len) (H.upd n (.cells ⟨l⟩ e))
      | none => False
    | _ => False
  | .alloc t => match zeroL P t with
    | some l => ∀ n, H n = none → K (.pointer (some ⟨n, 0, none⟩)) (H.upd n (.cells ⟨l⟩ t))
    | none => False
  | .box t v => ∀ n, H n = none → K (.pointer (some ⟨n, 0, none⟩)) (H.upd n (.cells (ev ρ v).cells t))
  | .binOp op t x y _ => BinW P (isLit y) op t (ev ρ x) (ev ρ y) H K
  | .convert s d x => ConvW P s d o.type (ev ρ x) H K
  | .makeSlice t l c => MakeW P t (ev ρ l) (ev ρ c) H (ofTy P o.type K)
  | .fieldAddr s x f => FieldAddrW P s (ev ρ x) f H K
  | .field t x f => FieldW P t (ev ρ x) f H K
  | .extract t ix => match ev ρ t with
    | .tuple vs => match vs.toList[ix]? with
      | some v => K v H
      | none => False
    | _ => False
  | .call c => CallW P o c ρ H K
  | .unOp op _ x => UnW P op (ev ρ x) H K
  | .makeFunc _ _ _ => MkFnW P o ρ H K
  | .lookup t x i ok => SemW P (Instr.lookup t (ev ρ x) (ev ρ i) ok) H (ofTy P o.type K)
  | .next it s => NxW P (ev ρ it) s o.type H K
  | .entry it => EnW P (ev ρ it) H K
  | .mapEntry t m k => MeW P t (ev ρ m) (ev ρ k) H K
  | .sliceToArrayPointer t x => StaW P t (ev ρ x) H K
  | .makeMap _ none => ∀ n, H n = none → K (.map (some n)) (H.upd n (.map #[] 0))
  | .select _ _ => False
  | _ => SemW P (execOp (ev ρ) o) H (NextW P K)

theorem parts_eq (ρ : Env) (l : Array (Nat × Operand)) : (l.map fun (i, x) => (i, ev ρ x)).toList = l.toList.map fun p => (p.1, ev ρ p.2) := by
  simp

theorem OpW.sem {P : Program} {o : Oper} {ρ : Env} {H : Heap} {K : Value → Heap → Prop} (h : OpW P o ρ H K) : SemW P (execOp (ev ρ) o) H (NextW P K) := by
  unfold OpW at h
  unfold execOp
  split at h <;> rename_i ho <;> simp only [ho]
  · exact h
  · exact h
  · split at h
    · rename_i t ht
      rw [ht]
      change K (if t = true then _ else _) H
      cases t <;> exact h
    · exact h.elim
  · exact (SemW.bind _ _ _ _).2 (LoadW.sem h)
  · exact (SemW.bind _ _ _ _).2 (StoreW.sem h)
  · split at h
    · rename_i p hp
      rw [hp]
      obtain ⟨a, rfl, h⟩ := NilP.elim h
      exact h
    · exact h.elim
  · exact (SemW.bind _ _ _ _).2 (IdxAddrW.sem h)
  · exact (SemW.bind _ _ _ _).2 (IdxW.sem h)
  · exact (SemW.bind _ _ _ _).2 (SliceW.sem h)
  · split at h
    · rename_i l hl
      exact (SemW.bind _ _ _ _).2 (semW_build (by rw [parts_eq]; exact hl) h)
    · exact h.elim
  · split at h
    · rename_i e hu
      split at h
      · rename_i l hl
        exact (SemW.bind _ _ _ _).2 (semW_buildSlice hu (by rw [parts_eq]; exact hl) h)
      · exact h.elim
    · exact h.elim
  · split at h
    · rename_i l hl
      refine (SemW.bind _ _ _ _).2 ?_
      unfold Instr.alloc
      refine (SemW.bind _ _ _ _).2 (semW_zero hl fun v hv => ?_)
      refine (SemW.bind _ _ _ _).2 ?_
      unfold newVar
      rw [hv]
      exact semW_newRow h
    · exact h.elim
  · refine (SemW.bind _ _ _ _).2 ?_
    exact (SemW.bind _ _ _ _).2 (semW_newRow h)
  · exact (SemW.bind _ _ _ _).2 (BinW.sem h)
  · exact (SemW.bind _ _ _ _).2 (ConvW.sem h)
  · exact (SemW.bind _ _ _ _).2 (SemW.mono _ _ _ _ (fun _ _ h => ofTy.elim h) h)
  · exact (SemW.bind _ _ _ _).2 (FieldAddrW.sem h)
  · exact (SemW.bind _ _ _ _).2 (FieldW.sem h)
  · split at h
    · rename_i vs hv
      rw [hv]
      refine (SemW.bind _ _ _ _).2 ?_
      unfold Instr.extract
      split at h
      · rename_i v hx
        simp only [Array.getElem?_toList] at hx
        simp only [hx]
        exact h
      · exact h.elim
    · exact h.elim
  · exact CallW.sem h
  · exact (SemW.bind _ _ _ _).2 (UnW.sem h)
  · have := MkFnW.sem h
    unfold execOp at this
    simp only [ho] at this
    exact this
  · exact (SemW.bind _ _ _ _).2 (SemW.mono _ _ _ _ (fun _ _ h => ofTy.elim h) h)
  · exact (SemW.bind _ _ _ _).2 (NxW.sem h)
  · exact (SemW.bind _ _ _ _).2 (EnW.sem h)
  · exact (SemW.bind _ _ _ _).2 (MeW.sem h)
  · exact (SemW.bind _ _ _ _).2 (StaW.sem h)
  · refine (SemW.bind _ _ _ _).2 ?_
    show SemW P (newObj (.map #[] 0) >>= fun r => pure (Value.map (some r))) H _
    refine (SemW.bind _ _ _ _).2 ?_
    intro n hn
    exact h n hn
  · exact h.elim
  · unfold execOp at h; exact h

/-- Maps: what stands for no value comes of a step that writes. -/
abbrev MuW (P : Program) (t : TypeId) (m k v : Value) (H : Heap) (K : Value → Heap → Prop) : Prop := SemW P (do Instr.mapUpdate t m k v; pure Next.skip) H (NextW P K)
abbrev EsW (P : Program) (t : TypeId) (m s x : Value) (H : Heap) (K : Value → Heap → Prop) : Prop := SemW P (do Instr.entryStore t m s x; pure Next.skip) H (NextW P K)
abbrev MkW (P : Program) (t : TypeId) (H : Heap) (K : Value → Heap → Prop) : Prop := SemW P (do pure (Next.value (← Instr.makeMap t none))) H (NextW P K)
abbrev RgW (P : Program) (t : TypeId) (m : Value) (H : Heap) (K : Value → Heap → Prop) : Prop := SemW P (do pure (Next.value (← Instr.range t m))) H (NextW P K)

end Go.Sh
