/-
  One operation over plain data, and rows of operations.
-/
import Derived.Test.YtcnbolonnlmlgaaDoorPw6
set_option linter.unusedSectionVars false
set_option linter.unusedSimpArgs false
set_option linter.unusedVariables false
namespace Go.Sh
variable [Laid]

/-- What a call does, said of plain data. -/
abbrev Ct := St → List AV → (AV → St → Prop) → Prop
def SoundCt (P : Program) (f : FuncId) (c : Ct) : Prop := ∀ (E : En) (st : St) (ρ : Env) (H : Heap) (g : Gh) (args : List AV) (vs : List Value) (K : AV → St → Prop),
  Sim E st ρ H g → SimL g H st.σ.length args vs → c st args K → FnW P f ⟨vs⟩ H (Res E st ρ H g K)
def ctOf (f : Nat) : List (Nat × Ct) → Option Ct
  | [] => none
  | (k, c) :: l => match Nat.beq f k with
    | true => some c
    | false => ctOf f l
def TabOk (P : Program) : List (Nat × Ct) → Prop
  | [] => True
  | (f, c) :: l => SoundCt P f c ∧ TabOk P l
theorem TabOk.get {P : Program} {f : Nat} {c : Ct} : ∀ {l : List (Nat × Ct)}, TabOk P l → ctOf f l = some c → SoundCt P f c
  | [], _, h => by simp only [ctOf] at h; cases h
  | (k, c') :: l, hl, h => by
    simp only [ctOf] at h
    split at h
    · rename_i hb
      cases h
      rw [Nat.eq_of_beq_eq_true hb]; exact hl.1
    · exact TabOk.get hl.2 h

def lnP (P : Program) (st : St) (t : TypeId) (x : AV) (K : AV → Prop) : Prop :=
  match P.underlying t, x with
  | some .string, .str l => K (.int .i64 (l.length : Int))
  | some (.array n _), _ => match Nat.ble n lenMax with
    | true => K (.int .i64 (n : Int))
    | false => False
  | some (.slice _), .lst _ xs => K (.int .i64 (xs.length : Int))
  | some (.slice _), .nils => K (.int .i64 0)
  | some (.slice _), .osl _ _ n _ => match Nat.ble n lenMax with
    | true => K (.int .i64 (n : Int))
    | false => False
  | some (.slice _), .row id => match st.σ[id]? with
    | some (.row _ _ _ xs) => K (.int .i64 (xs.length : Int))
    | some (.frz _ xs) => K (.int .i64 (xs.length : Int))
    | _ => False
  | _, _ => False
theorem lnP_noMap {P : Program} {st : St} {t : TypeId} {x : AV} {K : AV → Prop} (h : lnP P st t x K) : isMapT P (some t) = false := by
  cases hm : isMapT P (some t) with
  | false => rfl
  | true =>
    unfold isMapT at hm
    dsimp only at hm
    split at hm
    · rename_i k e hu
      unfold lnP at h
      rw [hu] at h
      cases x <;> exact h.elim
    · cases hm
theorem lnP_sound {P : Program} {E : En} {st : St} {ρ : Env} {H : Heap} {g : Gh} (s : Sim E st ρ H g) {t : TypeId} {x : AV} {v : Value} {K' : AV → Prop} {K : Value → Heap → Prop} (h : lnP P st t x K') (hx : SimV g H st.σ.length x v)
    (hk : ∀ a v, SimV g H st.σ.length a v → K' a → K v H) : LenW P (some t) (some v) H K := by
  have ki : ∀ n : Nat, n ≤ lenMax → K' (.int .i64 (n : Int)) → K (goInt n) H := fun n hn h => hk _ _ (by simp only [SimV, goInt]; exact ⟨trivial, by unfold lenMax at hn; simp only [InR, loI, hiI]; omega⟩) h
  unfold lnP at h
  unfold LenW
  split at h
  · rename_i l hu
    simp only [SimV] at hx
    obtain ⟨rfl, hl⟩ := hx
    simp only [hu]
    have : (bstr l).size = l.length := by simp [bstr, ByteArray.size]
    rw [this]; exact ki _ hl h
  · rename_i n e _ hu
    simp only [hu]
    split at h
    · rename_i hn
      exact ki _ (Nat.le_of_ble_eq_true hn) h
    · exact h.elim
  · rename_i e ks xs hu
    simp only [SimV] at hx
    obtain ⟨a, n, c, new, rfl, hl, h1, h2, _⟩ := lst_rd hx
    simp only [hu]
    rw [← hl]; exact ki _ (by omega) h
  · rename_i e hu
    simp only [SimV] at hx
    subst hx
    simp only [hu]; exact ki 0 (Nat.zero_le _) h
  · rename_i e id off n cap hu
    simp only [SimV] at hx
    obtain ⟨_, rfl⟩ := hx
    simp only [hu]
    split at h
    · rename_i hn
      exact ki _ (Nat.le_of_ble_eq_true hn) h
    · exact h.elim
  · rename_i e id hu
    simp only [SimV] at hx
    obtain ⟨_, rfl, _⟩ := hx
    split at h
    · rename_i T r ks xs ho
      obtain ⟨a, n, c, new, hv, hl, h1, h2, _⟩ := row_rd (T := T) (s.obj id _ ho)
      rw [hv]
      simp only [hu]
      rw [← hl]; exact ki _ (by omega) h
    · rename_i ks xs ho
      obtain ⟨a, n, c, new, hv, hl, h1, h2, _⟩ := lst_rd (s.obj id _ ho)
      rw [hv]
      simp only [hu]
      rw [← hl]; exact ki _ (by omega) h
    · exact h.elim
  · exact h.elim

def unP (op : UnOp) (x : AV) (K : AV → Prop) : Prop :=
  match op, x with
  | .not, .bool b => K (.bool (!b))
  | .neg, .int k n => K (.int k (k.wrap (0 - n)))
  | .xor, .int k n => K (.int k (bitsXor k (if k.signed = true then -1 else k.max) n))
  | _, _ => False
theorem unP_sound {P : Program} {op : UnOp} {x : AV} {v : Value} {g : Gh} {H : Heap} {N : Nat} {K' : AV → Prop} {K : Value → Heap → Prop} (h : unP op x K') (hx : SimV g H N x v) (hk : ∀ a v, SimV g H N a v → K' a → K v H) : UnW P op v H K := by
  unfold unP at h
  split at h
  · simp only [SimV] at hx; subst hx; exact hk _ _ (by simp only [SimV]) h
  · simp only [SimV] at hx; obtain ⟨rfl, _⟩ := hx; exact hk (.int _ _) _ (by simp only [SimV]; exact ⟨trivial, wrap_InR _ _⟩) h
  · simp only [SimV] at hx; obtain ⟨rfl, _⟩ := hx; exact hk (.int _ _) _ (by simp only [SimV]; exact ⟨rfl, wrap_InR _ _⟩) h
  · exact h.elim

def fldP (P : Program) (s : TypeId) (x : AV) (f : Nat) (K : AV → Prop) : Prop :=
  match P.underlying s with
  | some (.struct fs) => match fs.toList[f]? with
    | some f => match szOf P f.type with
      | some (_ + 1) => match x with
        | .ptr id off => K (.ptr id (off + f.offset))
        | .rdp cs => K (.rdp (cs.drop f.offset))
        | .elm id sz i off => K (.elm id sz i (off + f.offset))
        | _ => False
      | _ => False
    | none => False
  | _ => False
theorem padd_none (b o n : Nat) : padd ⟨b, o, none⟩ n = ⟨b, o + n, none⟩ := by rw [padd_eq]; exact add_of_spot rfl n
theorem fldP_sound {P : Program} {g : Gh} {H : Heap} {N : Nat} {s : TypeId} {x : AV} {v : Value} {f : Nat} {K' : AV → Prop} {K : Value → Heap → Prop} (h : fldP P s x f K') (hx : SimV g H N x v) (hk : ∀ a v, SimV g H N a v → K' a → K v H) : FieldAddrW P s v f H K := by
  unfold fldP at h
  split at h
  · rename_i fs hu
    split at h
    · rename_i fl hf
      split at h
      · rename_i n hsz
        split at h
        · rename_i id off
          simp only [SimV] at hx
          obtain ⟨hid, rfl⟩ := hx
          unfold FieldAddrW
          simp only [hu, hf, sizeK, hsz]
          rw [padd_none]
          exact hk _ _ (by simp only [SimV]; exact ⟨hid, trivial⟩) h
        · rename_i cs
          simp only [SimV] at hx
          obtain ⟨b, o, vs, rfl, hz, hs, hc⟩ := hx
          unfold FieldAddrW
          simp only [hu, hf, sizeK, hsz]
          rw [padd_none]
          exact hk _ _ (rdp_drop hz hs hc) h
        · rename_i id sz i off
          simp only [SimV] at hx
          obtain ⟨hid, b, oo, n', c, hv, rfl⟩ := hx
          unfold FieldAddrW
          simp only [hu, hf, sizeK, hsz]
          rw [padd_none]
          exact hk _ _ (by simp only [SimV]; exact ⟨hid, b, oo, n', c, hv, by rw [Nat.add_assoc]⟩) h
        · exact h.elim
      · exact h.elim
    · exact h.elim
  · exact h.elim

def fvP (P : Program) (t : TypeId) (x : AV) (f : Nat) (K : AV → Prop) : Prop :=
  match P.underlying t, x with
  | some (.struct fs), .agg cs => match fs.toList[f]? with
    | some f => match isAggB P f.type with
      | some true => match szOf P f.type with
        | some s => K (.agg ((cs.drop f.offset).take s))
        | none => False
      | some false => match cs[f.offset]? with
        | some a => K a
        | none => False
      | none => False
    | none => False
  | _, _ => False
theorem fvP_sound {P : Program} {g : Gh} {H : Heap} {N : Nat} {t : TypeId} {x : AV} {v : Value} {f : Nat} {K' : AV → Prop} {K : Value → Heap → Prop} (h : fvP P t x f K') (hx : SimV g H N x v) (hk : ∀ a v, SimV g H N a v → K' a → K v H) : FieldW P t v f H K := by
  unfold fvP at h
  split at h
  · rename_i fs cs hu
    simp only [SimV] at hx
    obtain ⟨vs, rfl, hs⟩ := hx
    split at h
    · rename_i fl hf
      unfold FieldW
      simp only [hu, hf]
      split at h
      · rename_i hA
        split at h
        · rename_i s hsz
          simp only [hA, sizeK, hsz]
          exact hk _ _ (by simp only [SimV]; exact ⟨_, rfl, (hs.drop _).take _⟩) h
        · exact h.elim
      · rename_i hA
        split at h
        · rename_i a ha
          obtain ⟨u, hu', hsu⟩ := hs.get ha
          simp only [hA, hu']
          exact hk _ _ hsu h
        · exact h.elim
      · exact h.elim
    · exact h.elim
  · exact h.elim

/-- The capacity: of a nil slice alone. -/
def capP (P : Program) (t : TypeId) (x : AV) (K : AV → Prop) : Prop :=
  match x with
  | .nils => match P.underlying t with
    | some (.slice _) => K (.int .i64 0)
    | _ => False
  | _ => False
theorem capP_sound {P : Program} {g : Gh} {H : Heap} {N : Nat} {t : TypeId} {x : AV} {v : Value} {K' : AV → Prop} {K : Value → Heap → Prop} (h : capP P t x K') (hx : SimV g H N x v) (hk : ∀ a v, SimV g H N a v → K' a → K v H) : CapW P t v H K := by
  unfold capP at h
  split at h
  · split at h
    · rename_i e hu
      simp only [SimV] at hx
      subst hx
      unfold CapW
      simp only [hu]
      exact hk (.int .i64 0) _ (by simp only [SimV]; exact ⟨rfl, by simp [InR, loI, hiI]⟩) h
    · exact h.elim
  · exact h.elim

/-- Operations that leave all as it is. -/
def PPure (P : Program) (o : Oper) (st : St) (K : AV → Prop) : Prop :=
  match o.op with
  | .move x => K (evA st.α x)
  | .assign x => K (evA st.α x)
  | .pick c a b => match evA st.α c with
    | .bool t => IfB t (K (evA st.α a)) (K (evA st.α b))
    | _ => False
  | .load t a => ldP P st t (evA st.α a) K
  | .nilCheck x => match evA st.α x with
    | .ptr id off => K (.ptr id off)
    | .rdp cs => K (.rdp cs)
    | .elm id sz i off => K (.elm id sz i off)
    | .arr id => K (.arr id)
    | _ => False
  | .indexAddr t x i => ixP P st t (evA st.α x) (evA st.α i) K
  | .index t x i => inP P t (evA st.α x) (evA st.α i) K
  | .build t parts => match buildA P t (parts.toList.map fun p => (p.1, evA st.α p.2)) with
    | some cs => K (.agg cs)
    | none => False
  | .binOp op t x y _ => binA P (isLit y) t op (evA st.α x) (evA st.α y) K
  | .convert s d x => cvP P st s d o.type (evA st.α x) K
  | .fieldAddr s x f => fldP P s (evA st.α x) f K
  | .field t x f => fvP P t (evA st.α x) f K
  | .extract t ix => match evA st.α t with
    | .tup vs => match vs[ix]? with
      | some v => K v
      | none => False
    | _ => False
  | .call c => match c.callee with
    | .builtin .len => match c.argTypes.toList[0]?, (c.args.toList.map (evA st.α))[0]? with
      | some t, some x => lnP P st t x K
      | _, _ => False
    | .builtin .cap => match c.argTypes.toList[0]?, (c.args.toList.map (evA st.α))[0]? with
      | some t, some x => capP P t x K
      | _, _ => False
    | .builtin .min => match c.args.toList.map (evA st.α) with
      | [.int k x, .int k' y] => match decide (k = k') with
        | true => K (.int k (min x y))
        | false => False
      | _ => False
    | .builtin .max => match c.args.toList.map (evA st.α) with
      | [.int k x, .int k' y] => match decide (k = k') with
        | true => K (.int k (max x y))
        | false => False
      | _ => False
    | _ => False
  | .unOp op _ x => unP op (evA st.α x) K
  | _ => False

theorem evA_simL {E : En} {st : St} {ρ : Env} {H : Heap} {g : Gh} (s : Sim E st ρ H g) : ∀ l : List Operand, SimL g H st.σ.length (l.map (evA st.α)) (l.map (ev ρ))
  | [] => by simp only [List.map_nil, SimL]
  | x :: l => by simp only [List.map_cons, SimL]; exact ⟨evA_sim s x, evA_simL s l⟩
theorem evA_parts {E : En} {st : St} {ρ : Env} {H : Heap} {g : Gh} (s : Sim E st ρ H g) (l : List (Nat × Operand)) :
    (l.map fun p => (p.1, ev ρ p.2)).map (·.1) = (l.map fun p => (p.1, evA st.α p.2)).map (·.1) ∧ SimL g H st.σ.length ((l.map fun p => (p.1, evA st.α p.2)).map (·.2)) ((l.map fun p => (p.1, ev ρ p.2)).map (·.2)) := by
  induction l with
  | nil => exact ⟨rfl, by simp only [List.map_nil, SimL]⟩
  | cons p l ih =>
    refine ⟨by simp, ?_⟩
    simp only [List.map_cons, SimL]
    exact ⟨evA_sim s p.2, ih.2⟩

theorem PPure_sound {P : Program} {E : En} {st : St} {ρ : Env} {H : Heap} {g : Gh} (s : Sim E st ρ H g) {o : Oper} {K' : AV → Prop} {K : Value → Heap → Prop} (h : PPure P o st K') (hk : ∀ a v, SimV g H st.σ.length a v → K' a → K v H) : OpW P o ρ H K := by
  have e := evA_sim s
  unfold PPure at h
  unfold OpW
  split at h <;> rename_i ho <;> (try simp only [ho])
  · exact hk _ _ (e _) h
  · exact hk _ _ (e _) h
  · rename_i c a b
    split at h
    · rename_i t ht
      have := e c
      rw [ht] at this
      simp only [SimV] at this
      rw [this]
      cases t with
      | true => exact hk _ _ (e a) h
      | false => exact hk _ _ (e b) h
    · exact h.elim
  · exact ldP_sound s h (e _) hk
  · rename_i x
    have hx := e x
    split at h
    · rename_i id off hx'
      rw [hx'] at hx
      have hx2 := hx
      simp only [SimV] at hx
      rw [hx.2]
      simp only [NilP_some]
      exact hk _ _ (by rw [hx.2] at hx2; exact hx2) h
    · rename_i cs hx'
      rw [hx'] at hx
      have hx2 := hx
      simp only [SimV] at hx
      obtain ⟨b, oo, vs, hv, _⟩ := hx
      rw [hv]
      simp only [NilP_some]
      exact hk _ _ (by rw [hv] at hx2; exact hx2) h
    · rename_i id sz i off hx'
      rw [hx'] at hx
      have hx2 := hx
      simp only [SimV] at hx
      obtain ⟨_, b, _, n, c, _, hv⟩ := hx
      rw [hv]
      simp only [NilP_some]
      exact hk _ _ (by rw [hv] at hx2; exact hx2) h
    · rename_i id hx'
      rw [hx'] at hx
      have hx2 := hx
      simp only [SimV] at hx
      obtain ⟨_, b, n, c, _, hv⟩ := hx
      rw [hv]
      simp only [NilP_some]
      exact hk _ _ (by rw [hv] at hx2; exact hx2) h
    · exact h.elim
  · exact ixP_sound s h (e _) (e _) hk
  · exact inP_sound h (e _) (e _) hk
  · rename_i t parts
    split at h
    · rename_i cs hcs
      obtain ⟨h1, h2⟩ := evA_parts s parts.toList
      obtain ⟨us, hu, hs⟩ := buildA_sim hcs h1 h2
      rw [hu]
      exact hk _ _ (by simp only [SimV]; exact ⟨us, rfl, hs⟩) h
    · exact h.elim
  · exact binA_sound h (e _) (e _) hk
  · exact cvP_sound s h (e _) hk
  · exact fldP_sound h (e _) hk
  · exact fvP_sound h (e _) hk
  · rename_i t ix
    split at h
    · rename_i vs hv
      have ht := e t
      rw [hv] at ht
      simp only [SimV] at ht
      obtain ⟨us, hu, hs⟩ := ht
      rw [hu]
      split at h
      · rename_i v hx
        obtain ⟨u, hu', hsu⟩ := hs.get hx
        simp only [hu']
        exact hk _ _ hsu h
      · exact h.elim
    · exact h.elim
  · rename_i c
    have hargs := evA_simL s c.args.toList
    unfold CallW
    split at h
    · rename_i hc
      simp only [hc]
      split at h
      · rename_i t x h1 h2
        obtain ⟨v, hv, hsv⟩ := hargs.get h2
        rw [h1, hv]
        rw [lnP_noMap h]
        exact lnP_sound s h hsv hk
      · exact h.elim
    · rename_i hc
      simp only [hc]
      split at h
      · rename_i t x h1 h2
        obtain ⟨v, hv, hsv⟩ := hargs.get h2
        rw [h1, hv]
        exact capP_sound h hsv hk
      · exact h.elim
    · rename_i hc
      simp only [hc]
      split at h
      · rename_i k x k' y ha
        rw [ha] at hargs
        split at h
        · rename_i hk'
          have hk' := of_decide_eq_true hk'
          subst hk'
          cases hm : c.args.toList.map (ev ρ) with
          | nil => rw [hm] at hargs; simp only [SimL] at hargs
          | cons v vs =>
            rw [hm] at hargs
            cases vs with
            | nil => simp only [SimL] at hargs; exact hargs.2.elim
            | cons u us =>
              simp only [SimL] at hargs
              cases us with
              | nil =>
                obtain ⟨h1, h2, _⟩ := hargs
                simp only [SimV] at h1 h2
                obtain ⟨rfl, r1⟩ := h1
                obtain ⟨rfl, r2⟩ := h2
                exact hk _ _ (by simp only [SimV]; refine ⟨trivial, ?_⟩; rw [Int.min_def]; split; exact r1; exact r2) h
              | cons => exact hargs.2.2.elim
        · exact h.elim
      · exact h.elim
    · rename_i hc
      simp only [hc]
      split at h
      · rename_i k x k' y ha
        rw [ha] at hargs
        split at h
        · rename_i hk'
          have hk' := of_decide_eq_true hk'
          subst hk'
          cases hm : c.args.toList.map (ev ρ) with
          | nil => rw [hm] at hargs; simp only [SimL] at hargs
          | cons v vs =>
            rw [hm] at hargs
            cases vs with
            | nil => simp only [SimL] at hargs; exact hargs.2.elim
            | cons u us =>
              simp only [SimL] at hargs
              cases us with
              | nil =>
                obtain ⟨h1, h2, _⟩ := hargs
                simp only [SimV] at h1 h2
                obtain ⟨rfl, r1⟩ := h1
                obtain ⟨rfl, r2⟩ := h2
                exact hk _ _ (by simp only [SimV]; refine ⟨trivial, ?_⟩; rw [Int.max_def]; split; exact r2; exact r1) h
              | cons => exact hargs.2.2.elim
        · exact h.elim
      · exact h.elim
    · exact h.elim
  · exact unP_sound h (e _) hk
  · exact h.elim

/-- One operation. -/
def ownDst (own : List Tmp) (o : Oper) : Bool := match o.dst with
  | some d => memB d own
  | none => false
def POp (P : Program) (tab : List (Nat × Ct)) (own : List Tmp) (o : Oper) (st : St) (K : AV → St → Prop) : Prop :=
  match o.op with
  | .store t a v => match evA st.α v with
    | .arv ks xs => saP P st t (evA st.α a) ks xs fun st' => K .undef st'
    | x => stP P st t (evA st.α a) x fun st' => K .undef st'
  | .slice t x lo hi mx => match ownDst own o with
    | true => soP P st t (evA st.α x) (lo.map (evA st.α)) (hi.map (evA st.α)) (mx.map (evA st.α)) K
    | false => slP P st t (evA st.α x) (lo.map (evA st.α)) (hi.map (evA st.α)) (mx.map (evA st.α)) K
  | .buildSlice t len parts => newRowP P st t len (parts.toList.map fun p => (p.1, evA st.α p.2)) K
  | .alloc t => match ownDst own o with
    | true => arP P st t K
    | false => match zeroA P t with
      | some cs => K (.ptr st.σ.length 0) ⟨st.α, st.σ ++ [.obj t false cs]⟩
      | none => False
  | .box t v => match cellyA (evA st.α v) with
    | true => K (.ptr st.σ.length 0) ⟨st.α, st.σ ++ [.obj t false (cellsA (evA st.α v))]⟩
    | false => False
  | .makeSlice t l c => mkP P st t (evA st.α l) (evA st.α c) fun a st' => match fitsT P o.type a with
    | true => K a st'
    | false => False
  | .makeInterface t _ => match P.underlying t with
    | some (.interface _) => False
    | some _ => match fitsT P o.type (.err false) with
      | true => K (.err false) st
      | false => False
    | none => False
  | .makeFunc (.func f) first captured => match first.toList with
    | [] => K (.fn f (captured.toList.map (evA st.α))) st
    | _ => False
  | .call c => match c.callee with
    | .value (.func f) => match ctOf f tab with
      | some ct => ct st (c.args.toList.map (evA st.α)) fun a st' => match fitsT P o.type a with
        | true => K a st'
        | false => False
      | none => False
    | .value (.tmp t) => match st.α t with
      | .fn f caps => match ctOf f tab with
        | some ct => ct st (c.args.toList.map (evA st.α) ++ caps) fun a st' => match fitsT P o.type a with
          | true => K a st'
          | false => False
        | none => False
      | _ => False
    | .builtin .append => match c.argTypes.toList, c.args.toList.map (evA st.α) with
      | [t0, t1], [s, x] => match isIntT P t1 with
        | false => appP P st t0 t1 s x fun a st' => match fitsT P o.type a with
          | true => K a st'
          | false => False
        | true => azP P st t0 t1 s x fun a st' => match fitsT P o.type a with
          | true => K a st'
          | false => False
      | _, _ => False
    | _ => PPure P o st fun a => K a st
  | _ => PPure P o st fun a => K a st

theorem Res.fits {P : Program} {t : TypeId} {E : En} {st : St} {ρ : Env} {H : Heap} {g : Gh} {K : AV → St → Prop} {v : Value} {H' : Heap} (h : Res E st ρ H g (fun a st' => match fitsT P t a with | true => K a st' | false => False) v H') : ofTy P t (Res E st ρ H g K) v H' := by
  obtain ⟨a, st', g', hs, hr, hv, he, hk⟩ := h
  split at hk
  · rename_i hf
    exact fitsT_of hf hv ⟨a, st', g', hs, hr, hv, he, hk⟩
  · exact hk.elim

theorem POp_sound {P : Program} {tab : List (Nat × Ct)} {own : List Tmp} (ht : TabOk P tab) {E : En} {st : St} {ρ : Env} {H : Heap} {g : Gh} (s : Sim E st ρ H g) {o : Oper} {K : AV → St → Prop} (h : POp P tab own o st K) : OpW P o ρ H (Res E st ρ H g K) := by
  have e := evA_sim s
  have pure' : PPure P o st (fun a => K a st) → OpW P o ρ H (Res E st ρ H g K) := fun h => PPure_sound s h fun a v hv hk => Res.same s hv hk
  unfold POp at h
  split at h
  · rename_i t a v ho
    unfold OpW
    simp only [ho]
    have ev' := e v
    split at h
    · rename_i ks xs hav
      rw [hav] at ev'
      exact saP_sound s h (e _) ev' fun st' hk => hk
    · exact stP_sound s h (e _) (e _) fun st' hk => hk
  · rename_i t x lo hi mx ho
    unfold OpW
    simp only [ho]
    split at h
    · refine soP_sound s h (e _) (fun a ha => ?_) (fun h => ?_) (fun a ha => ?_) (fun h => ?_) (fun h => ?_)
      · cases lo with
        | none => cases ha
        | some y => cases ha; exact ⟨_, rfl, e y⟩
      · cases lo with
        | none => rfl
        | some y => cases h
      · cases hi with
        | none => cases ha
        | some y => cases ha; exact ⟨_, rfl, e y⟩
      · cases hi with
        | none => rfl
        | some y => cases h
      · cases mx with
        | none => rfl
        | some y => cases h
    · refine slP_sound s h (e _) (fun a ha => ?_) (fun h => ?_) (fun a ha => ?_) (fun h => ?_) (fun h => ?_)
      · cases lo with
        | none => cases ha
        | some y => cases ha; exact ⟨_, rfl, e y⟩
      · cases lo with
        | none => rfl
        | some y => cases h
      · cases hi with
        | none => cases ha
        | some y => cases ha; exact ⟨_, rfl, e y⟩
      · cases hi with
        | none => rfl
        | some y => cases h
      · cases mx with
        | none => rfl
        | some y => cases h
  · rename_i t len parts ho
    unfold OpW
    simp only [ho]
    obtain ⟨h1, h2⟩ := evA_parts s parts.toList
    obtain ⟨e', l, hu, hl, hk⟩ := newRowP_sound s h h1 h2
    simp only [hu, hl]
    exact hk
  · rename_i t ho
    unfold OpW
    simp only [ho]
    split at h
    · obtain ⟨l, hl, hr⟩ := arP_sound s h
      rw [hl]; exact hr
    split at h
    · rename_i cs hcs
      obtain ⟨vs, hz, hs⟩ := zeroA_sim (g := g) (H := H) (N := st.σ.length) hcs
      rw [hz]
      intro n hn
      obtain ⟨g', s', r', gB, _⟩ := s.new (o := .obj t false cs) (c := ⟨vs⟩) (T := t) hn undef (fun g' hext hz' hB _ => ⟨vs, by rw [hB]; exact Sh.upd_eq, SimL.ext (Nat.le_succ _) hext _ _ hs⟩)
      refine ⟨_, _, g', s', r', ?_, rfl, h⟩
      simp only [SimV]
      exact ⟨by simp [St.new], by rw [gB]⟩
    · exact h.elim
  · rename_i t v ho
    unfold OpW
    simp only [ho]
    split at h
    · rename_i hcel
      obtain ⟨hs, _⟩ := cellsA_sim hcel (e v)
      intro n hn
      have hcs : (ev ρ v).cells = ⟨(ev ρ v).cells.toList⟩ := by simp
      rw [hcs]
      obtain ⟨g', s', r', gB, _⟩ := s.new (o := .obj t false (cellsA (evA st.α v))) (c := ⟨(ev ρ v).cells.toList⟩) (T := t) hn undef (fun g' hext hz' hB _ => ⟨_, by rw [hB]; exact Sh.upd_eq, SimL.ext (Nat.le_succ _) hext _ _ hs⟩)
      refine ⟨_, _, g', s', r', ?_, rfl, h⟩
      simp only [SimV]
      exact ⟨by simp [St.new], by rw [gB]⟩
    · exact h.elim
  · rename_i t l c ho
    unfold OpW
    simp only [ho]
    have := mkP_sound s h (e l) (e c)
    exact SemW.mono _ _ _ _ (fun v H' h => Res.fits h) this
  · rename_i t x ho
    unfold OpW
    simp only [ho]
    split at h
    · exact h.elim
    · rename_i d hd hni
      split at h
      · unfold execOp
        simp only [ho]
        refine (SemW.bind _ _ _ _).2 ?_
        unfold Instr.makeInterface
        refine (SemW.bind _ _ _ _).2 (semW_underlying hni ?_)
        have key : SemW P (pure (Value.iface t (ev ρ x))) H (fun a H' => SemW P (pure (Next.value a)) H' (NextW P (Res E st ρ H g K))) :=
          Res.same s (a := .err false) (by simp only [SimV]; exact ⟨_, _, rfl⟩) h
        cases d <;> first | exact key | exact (hd _ rfl).elim
      · exact h.elim
    · exact h.elim
  · rename_i f first captured ho
    split at h
    · rename_i h1
      unfold OpW
      simp only [ho]
      have e1 : first = ⟨[]⟩ := by apply Array.ext'; simpa using h1
      subst e1
      unfold MkFnW
      simp only [ho]
      have key : Res E st ρ H g K (.func (.func f) #[] ⟨captured.toList.map (ev ρ)⟩) H :=
        Res.same s (a := .fn f (captured.toList.map (evA st.α))) (v := .func (.func f) #[] ⟨captured.toList.map (ev ρ)⟩) (by simp only [SimV]; exact ⟨_, rfl, evA_simL s _⟩) h
      exact key
    · exact h.elim
  · rename_i c ho
    split at h
    · rename_i f hc
      unfold OpW
      simp only [ho]
      unfold CallW
      simp only [hc]
      split at h
      · rename_i ct hct
        exact CallF.of_fn (((ht.get hct) E st ρ H g _ _ _ s (evA_simL s _) h).mono fun v H' h => Res.fits h)
      · exact h.elim
    · rename_i t hc
      split at h
      · rename_i f caps hf
        split at h
        · rename_i ct hct
          have ha := s.tmp t
          rw [hf] at ha
          simp only [SimV] at ha
          obtain ⟨vs, hv, hvs⟩ := ha
          have hfn := ((ht.get hct) E st ρ H g _ _ _ s ((evA_simL s _).append hvs) h).mono fun v H' h => Res.fits h
          unfold OpW
          simp only [ho]
          unfold CallW
          simp only [hc]
          rw [show calOf (ρ t) = .fn f vs by rw [hv]; rfl]
          exact hfn
        · exact h.elim
      · exact h.elim
    · rename_i hc
      unfold OpW
      simp only [ho]
      unfold CallW
      simp only [hc]
      split at h
      · rename_i t0 t1 a x h1 h2
        have hargs := evA_simL s c.args.toList
        rw [h2] at hargs
        have hat : c.argTypes = #[t0, t1] := by apply Array.ext'; simpa using h1
        rw [hat]
        cases hm : c.args.toList.map (ev ρ) with
        | nil => rw [hm] at hargs; simp only [SimL] at hargs
        | cons v vs =>
          rw [hm] at hargs
          cases vs with
          | nil => simp only [SimL] at hargs; exact hargs.2.elim
          | cons u us =>
            simp only [SimL] at hargs
            cases us with
            | nil =>
              split at h
              · have := appP_sound (t := o.type) s h hargs.1 hargs.2.1
                exact SemW.mono _ _ _ _ (fun v H' h => Res.fits h) this
              · have := azP_sound (t := o.type) s h hargs.1 hargs.2.1
                exact SemW.mono _ _ _ _ (fun v H' h => Res.fits h) this
            | cons => exact hargs.2.2.elim
      · exact h.elim
    · exact pure' h
  · exact pure' h

end Go.Sh
