/-
  Operations over plain data that ask memory for nothing.
-/
import Derived.Test.YtcnbolonnlmlgaaDoorPw2
set_option linter.unusedSectionVars false
set_option linter.unusedSimpArgs false
set_option linter.unusedVariables false
namespace Go.Sh
variable [Laid]

/-- What an operation ends in. -/
def Res (E : En) (st : St) (ρ : Env) (H : Heap) (g : Gh) (K : AV → St → Prop) : Value → Heap → Prop := fun v H' =>
  ∃ a st' g', Sim E st' ρ H' g' ∧ Rel st H g st' H' g' ∧ SimV g' H' st'.σ.length a v ∧ st'.α = st.α ∧ K a st'
theorem Res.same {E : En} {st : St} {ρ : Env} {H : Heap} {g : Gh} {K : AV → St → Prop} (s : Sim E st ρ H g) {a : AV} {v : Value} (h : SimV g H st.σ.length a v) (k : K a st) : Res E st ρ H g K v H :=
  ⟨a, st, g, s, .refl _ _ _, h, rfl, k⟩

def ofV1 : Value → AV
  | .int k n => match decide (loI k ≤ n) && decide (n ≤ hiI k) with
    | true => .int k n
    | false => .raw (.int k n)
  | .bool b => .bool b
  | .string s => match Nat.ble s.data.toList.length lenMax with
    | true => .str s.data.toList
    | false => .raw (.string s)
  | .slice none len cap => match Nat.beq len 0 && Nat.beq cap 0 with
    | true => .nils
    | false => .raw (.slice none len cap)
  | .pointer none => .nilp
  | .nilIface => .err true
  | v => .raw v
def ofV : Value → AV
  | .agg cs => .agg (cs.toList.map ofV1)
  | .tuple cs => .tup (cs.toList.map ofV1)
  | v => ofV1 v

theorem ofV1_sim {g : Gh} {H : Heap} {N : Nat} (v : Value) : SimV g H N (ofV1 v) v := by
  unfold ofV1
  split
  · split
    · rename_i h
      simp only [Bool.and_eq_true, decide_eq_true_eq] at h
      simp only [SimV]; exact ⟨trivial, h⟩
    · simp only [SimV]
  · simp only [SimV]
  · split
    · rename_i s h
      simp only [SimV]
      exact ⟨by simp [bstr], Nat.le_of_ble_eq_true h⟩
    · simp only [SimV]
  · split
    · rename_i h
      simp only [Bool.and_eq_true] at h
      simp only [SimV, Nat.eq_of_beq_eq_true h.1, Nat.eq_of_beq_eq_true h.2]
    · simp only [SimV]
  · simp only [SimV]
  · simp only [SimV]
  · simp only [SimV]
theorem ofV1_simL {g : Gh} {H : Heap} {N : Nat} : ∀ vs : List Value, SimL g H N (vs.map ofV1) vs
  | [] => by simp only [List.map_nil, SimL]
  | v :: vs => by simp only [List.map_cons, SimL]; exact ⟨ofV1_sim v, ofV1_simL vs⟩
theorem ofV_sim {g : Gh} {H : Heap} {N : Nat} (v : Value) : SimV g H N (ofV v) v := by
  unfold ofV
  split
  · simp only [SimV]; exact ⟨_, rfl, ofV1_simL _⟩
  · simp only [SimV]; exact ⟨_, rfl, ofV1_simL _⟩
  · exact ofV1_sim v

def evA (α : Nat → AV) : Operand → AV
  | .tmp t => α t
  | .const v => ofV v
  | .global g => .raw (.pointer (some ⟨g, 0, none⟩))
  | .func f => .fn f []
theorem evA_sim {E : En} {st : St} {ρ : Env} {H : Heap} {g : Gh} (s : Sim E st ρ H g) (x : Operand) : SimV g H st.σ.length (evA st.α x) (ev ρ x) := by
  cases x with
  | tmp t => exact s.tmp t
  | const v => exact ofV_sim v
  | global n => simp only [evA, ev, SimV]
  | func f => simp only [evA, ev, SimV]; exact ⟨[], rfl, by simp only [SimL]⟩

def plainA : AV → Bool
  | .int _ _ | .bool _ | .str _ | .lst _ _ | .nils | .nilp | .ptr _ _ | .row _ | .elm _ _ _ _ | .rdp _ | .err _ | .fn _ _ => true
  | _ => false
theorem plainA_cells {g : Gh} {H : Heap} {N : Nat} {a : AV} {v : Value} (hp : plainA a = true) (h : SimV g H N a v) : plainC v = true ∧ v.cells = #[v] := by
  cases a <;> simp only [plainA] at hp <;> simp only [SimV] at h <;> first | (cases hp; done) | skip
  case int => obtain ⟨rfl, _⟩ := h; exact ⟨rfl, rfl⟩
  case bool => subst h; exact ⟨rfl, rfl⟩
  case str => obtain ⟨rfl, _⟩ := h; exact ⟨rfl, rfl⟩
  case lst => simp only [CellOk] at h; obtain ⟨a, n, c, rfl, _⟩ := h; exact ⟨rfl, rfl⟩
  case nils => subst h; exact ⟨rfl, rfl⟩
  case nilp => subst h; exact ⟨rfl, rfl⟩
  case ptr => obtain ⟨_, rfl⟩ := h; exact ⟨rfl, rfl⟩
  case row => obtain ⟨_, _, a, n, c, rfl⟩ := h; exact ⟨rfl, rfl⟩
  case elm => obtain ⟨_, b, o, n, c, _, rfl⟩ := h; exact ⟨rfl, rfl⟩
  case rdp => obtain ⟨b, o, vs, rfl, _⟩ := h; exact ⟨rfl, rfl⟩
  case err b => cases b with
    | true => subst h; exact ⟨rfl, rfl⟩
    | false => obtain ⟨t, u, rfl⟩ := h; exact ⟨rfl, rfl⟩
  case fn => obtain ⟨vs, rfl, _⟩ := h; exact ⟨rfl, rfl⟩

def cellsA : AV → List AV
  | .agg cs => cs
  | a => [a]
def cellyA : AV → Bool
  | .agg cs => cs.all plainA
  | a => plainA a
theorem cellsA_sim {g : Gh} {H : Heap} {N : Nat} {a : AV} {v : Value} (hp : cellyA a = true) (h : SimV g H N a v) : SimL g H N (cellsA a) v.cells.toList ∧ (cellsA a).all plainA = true := by
  have one : plainA a = true → cellsA a = [a] → SimL g H N (cellsA a) v.cells.toList ∧ (cellsA a).all plainA = true := fun hp hc => by
    obtain ⟨_, h2⟩ := plainA_cells hp h
    rw [hc, h2]
    simp only [SimL, List.all_cons, List.all_nil, hp]
    exact ⟨⟨h, trivial⟩, rfl⟩
  cases a <;> first | exact one hp rfl | skip
  simp only [SimV] at h
  obtain ⟨vs, rfl, hs⟩ := h
  exact ⟨hs, hp⟩
theorem plain_all {g : Gh} {H : Heap} {N : Nat} : ∀ {as : List AV} {vs : List Value}, as.all plainA = true → SimL g H N as vs → ∀ v ∈ vs, plainC v = true
  | [], [], _, _ => by simp
  | [], _ :: _, _, h => by simp only [SimL] at h
  | _ :: _, [], _, h => by simp only [SimL] at h
  | a :: as, v :: vs, hp, h => by
    simp only [SimL] at h
    simp only [List.all_cons, Bool.and_eq_true] at hp
    intro u hu
    rcases List.mem_cons.1 hu with rfl | hu
    · exact (plainA_cells hp.1 h.1).1
    · exact plain_all hp.2 h.2 u hu

def leafFits : Leaf → AV → Bool
  | .int k, .int k' _ => decide (k = k')
  | .bool, .bool _ => true
  | .str, .str _ => true
  | .ptr, .nilp => true
  | .ptr, .ptr _ _ => true
  | .ptr, .elm _ _ _ _ => true
  | .ptr, .rdp _ => true
  | .slice, .lst _ _ => true
  | .slice, .nils => true
  | .slice, .row _ => true
  | .any, .err _ => true
  | .any, .fn _ _ => true
  | .any, .raw _ => true
  | _, _ => false
theorem leafFits_ex {g : Gh} {H : Heap} {N : Nat} {l : Leaf} {a : AV} {v : Value} {r : Value → Prop} (hf : leafFits l a = true) (h : SimV g H N a v) (hr : r v) : leafEx l r := by
  unfold leafFits at hf
  split at hf <;> first | (cases hf; done) | (exact ⟨_, hr⟩) | skip
  all_goals simp only [SimV] at h
  · have := of_decide_eq_true hf; subst this; obtain ⟨rfl, _⟩ := h; exact ⟨_, hr⟩
  · subst h; exact ⟨_, hr⟩
  · obtain ⟨rfl, _⟩ := h; exact ⟨_, hr⟩
  · subst h; exact ⟨_, hr⟩
  · obtain ⟨_, rfl⟩ := h; exact ⟨_, hr⟩
  · obtain ⟨_, _, _, _, _, _, rfl⟩ := h; exact ⟨_, hr⟩
  · obtain ⟨_, _, _, rfl, _⟩ := h; exact ⟨_, hr⟩
  · simp only [CellOk] at h; obtain ⟨a, n, c, rfl, _⟩ := h; exact ⟨_, _, _, hr⟩
  · subst h; exact ⟨_, _, _, hr⟩
  · obtain ⟨_, _, a, n, c, rfl⟩ := h; exact ⟨_, _, _, hr⟩

/-- The first ones of the cells that has these leaves. -/
def fitsL : List Leaf → List AV → Option (List AV)
  | [], _ => some []
  | _ :: _, [] => none
  | l :: ls, a :: as => match leafFits l a with
    | true => match fitsL ls as with
      | some r => some (a :: r)
      | none => none
    | false => none

def ldA (P : Program) (t : TypeId) (cs : List AV) (K : AV → Prop) : Prop :=
  match isAggB P t with
  | some false => match cs with
    | a :: _ => match leafFits (leafOf P t) a with
      | true => K a
      | false => False
    | [] => False
  | some true => match Nat.ble (P.cellsOf t) 24 && Nat.beq (leaves P 6 t).length (P.cellsOf t) with
    | true => match fitsL (leaves P 6 t) cs with
      | some as => K (.agg as)
      | none => False
    | false => match Nat.beq (cs.take (P.cellsOf t)).length (P.cellsOf t) with
      | true => K (.agg (cs.take (P.cellsOf t)))
      | false => False
  | none => False

theorem ldCells_of {g : Gh} {H : Heap} {N : Nat} {b o : Nat} {K : List Value → Prop} : ∀ (ls : List Leaf) (as : List AV) (vs : List Value) (r : List AV) (i : Nat) (acc : List Value) (accA : List AV), fitsL ls as = some r → SimL g H N as vs → (∀ j, j < vs.length → H.cell ⟨b, o + (i + j), none⟩ = vs[j]?) → SimL g H N accA acc →
    (∀ us, SimL g H N (accA ++ r) us → K us) → ldCells H ⟨b, o, none⟩ i ls acc K := by
  intro ls
  induction ls with
  | nil =>
    intro as vs r i acc accA hf hs hc ha hk
    simp only [fitsL, Option.some.injEq] at hf
    subst hf
    exact hk _ (by rw [List.append_nil]; exact ha)
  | cons l ls ih =>
    intro as vs r i acc accA hf hs hc ha hk
    cases as with
    | nil => simp only [fitsL] at hf; cases hf
    | cons a as =>
      cases vs with
      | nil => simp only [SimL] at hs
      | cons v vs =>
        simp only [fitsL] at hf
        split at hf
        · rename_i hl
          split at hf
          · rename_i r' hr
            cases hf
            simp only [SimL] at hs
            simp only [ldCells]
            refine leafFits_ex hl hs.1 ⟨?_, ?_⟩
            · have := hc 0 (by simp)
              simp only [Nat.add_zero, List.getElem?_cons_zero] at this
              rw [padd_eq, add_of_spot rfl]; exact this
            · refine ih as vs r' (i + 1) (acc ++ [v]) (accA ++ [a]) hr hs.2 (fun j hj => ?_) (ha.append (by simp only [SimL]; exact ⟨hs.1, trivial⟩)) (fun us hus => hk us (by simpa using hus))
              have := hc (j + 1) (by simpa using hj)
              simp only [List.getElem?_cons_succ] at this
              rw [← this]; congr 2; omega
          · cases hf
        · cases hf

theorem ldA_sound {P : Program} {t : TypeId} {g : Gh} {H : Heap} {N : Nat} {b o : Nat} {cs : List AV} {vs : List Value} {K' : AV → Prop} {K : Value → Heap → Prop} (h : ldA P t cs K') (hs : SimL g H N cs vs) (hc : ∀ j, j < vs.length → H.cell ⟨b, o + j, none⟩ = vs[j]?)
    (hk : ∀ a v, SimV g H N a v → K' a → K v H) : LoadW P t (.pointer (some ⟨b, o, none⟩)) H K := by
  unfold ldA at h
  unfold LoadW
  simp only
  split at h
  · rename_i hb
    rw [hb]
    simp only
    cases cs with
    | nil => exact h.elim
    | cons a cs =>
      cases vs with
      | nil => simp only [SimL] at hs
      | cons v vs =>
        simp only [SimL] at hs
        simp only at h
        split at h
        · rename_i hl
          exact leafFits_ex hl hs.1 ⟨by have := hc 0 (by simp); simpa using this, hk a v hs.1 h⟩
        · exact h.elim
  · rename_i hb
    rw [hb]
    simp only
    split at h
    · rename_i hle
      rw [hle]
      simp only
      split at h
      · rename_i as hf
        refine ldCells_of _ cs vs as 0 [] [] hf hs (fun j hj => by simpa using hc j hj) (by simp only [SimL]) fun us hus => ?_
        exact hk (.agg as) _ (by simp only [SimV]; exact ⟨us, rfl, hus⟩) h
      · exact h.elim
    · rename_i hle
      rw [hle]
      simp only
      split at h
      · rename_i hn
        have hn' := Nat.eq_of_beq_eq_true hn
        have hs' := hs.take (P.cellsOf t)
        have hlen := hs'.len
        refine ⟨vs.take (P.cellsOf t), by omega, fun j hj => ?_, ?_⟩
        · rw [add_of_spot rfl]
          simp only [List.length_take] at hj
          rw [List.getElem?_take_of_lt (by omega)]
          exact hc j (by omega)
        · exact hk _ _ (by simp only [SimV]; exact ⟨_, rfl, hs'⟩) h
      · exact h.elim
  · exact h.elim

/-- A result that has its type. -/
def fits1 (P : Program) (t : TypeId) (a : AV) : Bool :=
  match isAggB P t with
  | some true => match Nat.ble (P.cellsOf t) 24, a with
    | true, .agg cs => match fitsL (leaves P 6 t) cs with
      | some r => Nat.beq r.length cs.length
      | none => false
    | false, .agg _ => true
    | false, .arv _ _ => true
    | _, _ => false
  | _ => leafFits (leafOf P t) a
def fitsN (P : Program) : List TypeId → List AV → Bool
  | [], [] => true
  | t :: ts, a :: as => fits1 P t a && fitsN P ts as
  | _, _ => false
def fitsT (P : Program) (t : TypeId) (a : AV) : Bool :=
  match P.underlying t with
  | some (.tuple ts) => match a with
    | .tup as => fitsN P ts.toList as
    | _ => false
  | _ => fits1 P t a

theorem leafL_of {g : Gh} {H : Heap} {N : Nat} {r : List Value → Prop} : ∀ (ls : List Leaf) (as : List AV) (vs : List Value) (q : List AV) (acc : List Value), fitsL ls as = some q → q.length = as.length → SimL g H N as vs → r (acc ++ vs) → leafL ls acc r
  | [], as, vs, q, acc, hf, hl, hs, hr => by
    simp only [fitsL, Option.some.injEq] at hf; subst hf
    obtain rfl : as = [] := List.eq_nil_of_length_eq_zero (by simpa using hl.symm)
    cases vs with
    | nil => rw [List.append_nil] at hr; exact hr
    | cons => simp only [SimL] at hs
  | l :: ls, [], vs, q, acc, hf, _, _, _ => by simp only [fitsL] at hf; cases hf
  | l :: ls, a :: as, [], q, acc, _, _, hs, _ => by simp only [SimL] at hs
  | l :: ls, a :: as, v :: vs, q, acc, hf, hl, hs, hr => by
    simp only [fitsL] at hf
    split at hf
    · rename_i hl1
      split at hf
      · rename_i r' hr'
        cases hf
        simp only [SimL] at hs
        exact leafFits_ex hl1 hs.1 (leafL_of ls as vs r' (acc ++ [v]) hr' (by simpa using hl) hs.2 (by simpa using hr))
      · cases hf
    · cases hf

theorem fits1_ex {P : Program} {t : TypeId} {g : Gh} {H : Heap} {N : Nat} {a : AV} {v : Value} {r : Value → Prop} (hf : fits1 P t a = true) (h : SimV g H N a v) (hr : r v) : tyEx1 P t r := by
  unfold fits1 at hf
  unfold tyEx1
  split at hf
  · rename_i hb
    rw [hb]
    simp only
    split at hf
    · rename_i cs hle
      rw [hle]
      simp only
      split at hf
      · rename_i q hq
        simp only [SimV] at h
        obtain ⟨vs, rfl, hs⟩ := h
        exact leafL_of _ cs vs q [] hq (Nat.eq_of_beq_eq_true hf) hs (by simpa using hr)
      · cases hf
    · rename_i cs hle
      rw [hle]
      simp only [SimV] at h
      obtain ⟨vs, rfl, hs⟩ := h
      exact ⟨vs, hr⟩
    · rename_i ks xs hle
      rw [hle]
      simp only [SimV] at h
      obtain ⟨vs, rfl, _⟩ := h
      exact ⟨vs, hr⟩
    · cases hf
  · rename_i hb
    split
    · rename_i hb'; exact absurd hb' hb
    · exact leafFits_ex hf h hr
theorem fitsN_ex {P : Program} {g : Gh} {H : Heap} {N : Nat} {r : List Value → Prop} : ∀ {ts : List TypeId} {as : List AV} {vs : List Value} (acc : List Value), fitsN P ts as = true → SimL g H N as vs → r (acc ++ vs) → tyExL P ts acc r
  | [], [], vs, acc, _, hs, hr => by
    cases vs with
    | nil => rw [List.append_nil] at hr; exact hr
    | cons => simp only [SimL] at hs
  | [], _ :: _, _, _, hf, _, _ => by simp only [fitsN] at hf; cases hf
  | _ :: _, [], _, _, hf, _, _ => by simp only [fitsN] at hf; cases hf
  | t :: ts, a :: as, [], _, _, hs, _ => by simp only [SimL] at hs
  | t :: ts, a :: as, v :: vs, acc, hf, hs, hr => by
    simp only [fitsN, Bool.and_eq_true] at hf
    simp only [SimL] at hs
    exact fits1_ex hf.1 hs.1 (fitsN_ex (acc ++ [v]) hf.2 hs.2 (by simpa using hr))
theorem fitsT_of {P : Program} {t : TypeId} {g : Gh} {H : Heap} {N : Nat} {a : AV} {v : Value} {K : Value → Heap → Prop} (hf : fitsT P t a = true) (h : SimV g H N a v) (hk : K v H) : ofTy P t K v H := by
  unfold fitsT at hf
  unfold ofTy tyEx
  split at hf
  · rename_i ts hu
    rw [hu]
    simp only
    split at hf
    · rename_i as
      simp only [SimV] at h
      obtain ⟨vs, rfl, hs⟩ := h
      exact fitsN_ex [] hf hs ⟨by simp, by simpa using hk⟩
    · cases hf
  · rename_i hu
    split
    · rename_i ts hu'; exact absurd hu' (hu ts)
    · exact fits1_ex hf h ⟨rfl, hk⟩

/-- Structs compared. -/
def eqFsA (eq : TypeId → AV → AV → Option Bool) (isA : TypeId → Option Bool) (sz : TypeId → Option Nat) : List Field → List AV → List AV → Option Bool
  | [], _, _ => some true
  | f :: fs, xs, ys =>
    match isA f.type with
    | some false => match xs[f.offset]?, ys[f.offset]? with
      | some x, some y => match eq f.type x y, eqFsA eq isA sz fs xs ys with
        | some b, some r => some (b && r)
        | _, _ => none
      | _, _ => none
    | some true => match sz f.type with
      | some s => match eq f.type (.agg ((xs.drop f.offset).take s)) (.agg ((ys.drop f.offset).take s)), eqFsA eq isA sz fs xs ys with
        | some b, some r => some (b && r)
        | _, _ => none
      | none => none
    | none => none
def eqA (P : Program) : Nat → TypeId → AV → AV → Option Bool
  | 0, _, _, _ => none
  | d + 1, t, x, y =>
    match P.underlying t, x, y with
    | some .bool, .bool a, .bool b => some (a == b)
    | some (.int _), .int k a, .int k' b => match decide (k = k') with | true => some (a == b) | false => none
    | some .string, .str a, .str b => some (a == b)
    | some (.struct fs), .agg xs, .agg ys =>
      match P.stoodInHeld t, fs.toList.all fun f => f.name != "_" with
      | false, true => eqFsA (eqA P d) (isAggB P) (szOf P) fs.toList xs ys
      | _, _ => none
    | _, _, _ => none

/-- A binary operation. -/
def binA (P : Program) (lit : Bool) (t : TypeId) (op : BinOp) (x y : AV) (K : AV → Prop) : Prop :=
  match x, y with
  | .int k a, .int k' b => match isShift op with
    | true => 0 ≤ b ∧ (match op with
      | .shl => K (.int k (k.wrap (a * 2 ^ (min b.toNat k.bits))))
      | _ => K (.int k (a.fdiv (2 ^ (min b.toNat k.bits)))))
    | false => match decide (k = k') with
      | false => False
      | true => match op with
        | .quo => b ≠ 0 ∧ K (.int k (k.wrap (a.tdiv b)))
        | .rem => b ≠ 0 ∧ K (.int k (a.tmod b))
        | .add => K (.int k (k.wrap (a + b)))
        | .sub => K (.int k (k.wrap (a - b)))
        | .mul => K (.int k (k.wrap (a * b)))
        | .and => K (.int k (bitsAnd k a b))
        | .or => K (.int k (bitsOr k a b))
        | .xor => K (.int k (bitsXor k a b))
        | .andNot => K (.int k (bitsAndNot k a b))
        | .eql => K (.bool (a == b))
        | .neq => K (.bool (a != b))
        | .lss => K (.bool (decide (a < b)))
        | .leq => K (.bool (decide (a ≤ b)))
        | .gtr => K (.bool (decide (a > b)))
        | .geq => K (.bool (decide (a ≥ b)))
        | _ => False
  | .bool a, .bool b => match P.underlying t, op with
    | some .bool, .eql => K (.bool (a == b))
    | some .bool, .neq => K (.bool (!(a == b)))
    | _, _ => False
  | .str a, .str b => match op with
    | .add => a.length + b.length ≤ lenMax ∧ K (.str (a ++ b))
    | .eql => K (.bool (a == b))
    | .neq => K (.bool (!(a == b)))
    | .lss => K (.bool (Op.bytesLess a b))
    | .leq => K (.bool (Op.bytesLess a b || a == b))
    | .gtr => K (.bool (!(Op.bytesLess a b || a == b)))
    | .geq => K (.bool (!(Op.bytesLess a b)))
    | _ => False
  | .nilp, .nilp => match P.underlying t, op with
    | some (.pointer _), .eql => K (.bool true)
    | some (.pointer _), .neq => K (.bool false)
    | _, _ => False
  | .lst _ xs, .nils => match P.underlying t, op with
    | some (.slice _), .eql => ∀ b : Bool, (b = true → xs.length = 0) → K (.bool b)
    | some (.slice _), .neq => ∀ b : Bool, (b = true → xs.length = 0) → K (.bool (!b))
    | _, _ => False
  | .nils, .nils => match P.underlying t, op with
    | some (.slice _), .eql => K (.bool true)
    | some (.slice _), .neq => K (.bool false)
    | _, _ => False
  | .ptr _ _, .nilp => match P.underlying t, op with
    | some (.pointer _), .eql => K (.bool false)
    | some (.pointer _), .neq => K (.bool true)
    | _, _ => False
  | .agg xs, .agg ys => match isEq op, P.eqGuardType P.depth t, eqA P 6 t (.agg xs) (.agg ys) with
    | true, false, some b => K (.bool (match op with | .eql => b | _ => !b))
    | _, _, _ => False
  | .err a, .err true => match lit with
    | true => match P.underlying t, op with
      | some (.interface _), .eql => K (.bool a)
      | some (.interface _), .neq => K (.bool (!a))
      | _, _ => False
    | false => False
  | _, _ => False

theorem InR_fdiv {k : IntKind} {a : Int} {m : Nat} (h : InR k a) : InR k (a.fdiv (2 ^ m)) := by
  have hp : (0 : Int) < 2 ^ m := Int.pow_pos (by omega)
  obtain ⟨h1, h2⟩ := h
  have e : a.fdiv (2 ^ m) = a / 2 ^ m := Int.fdiv_eq_ediv_of_nonneg _ (by omega)
  rw [e]
  have hlo : loI k ≤ 0 := by cases k <;> simp [loI]
  have hhi : 0 ≤ hiI k := by cases k <;> simp [hiI]
  constructor
  · have h0 : a / 2 ^ m ≥ loI k := by
      rw [ge_iff_le, Int.le_ediv_iff_mul_le hp]
      have : loI k * 2 ^ m ≤ loI k * 1 := Int.mul_le_mul_of_nonpos_left hlo (by omega)
      omega
    exact h0
  · have : a / 2 ^ m ≤ hiI k := by
      apply Int.le_of_lt_add_one
      rw [Int.ediv_lt_iff_lt_mul hp]
      have : (hiI k + 1) * 1 ≤ (hiI k + 1) * 2 ^ m := Int.mul_le_mul_of_nonneg_left (by omega) (by omega)
      omega
    exact this
theorem InR_tmod {k : IntKind} {a b : Int} (h : InR k a) : InR k (a.tmod b) := by
  obtain ⟨h1, h2⟩ := h
  have hlo : loI k ≤ 0 := by cases k <;> simp [loI]
  have hhi : 0 ≤ hiI k := by cases k <;> simp [hiI]
  rcases Int.le_total 0 a with ha | ha
  · have h3 := Int.tmod_nonneg b ha
    have h4 : a.tmod b ≤ a := by
      have := Int.mul_tdiv_add_tmod a b
      have h5 : 0 ≤ b * (a.tdiv b) := by
        rcases Int.le_total 0 b with hb | hb
        · exact Int.mul_nonneg hb (Int.tdiv_nonneg ha hb)
        · have := Int.tdiv_nonpos_of_nonneg_of_nonpos ha hb
          exact Int.mul_nonneg_of_nonpos_of_nonpos hb this
      omega
    exact ⟨by omega, by omega⟩
  · have h3 : a.tmod b ≤ 0 := by
      have := Int.tmod_nonneg b (a := -a) (by omega)
      rw [Int.neg_tmod] at this; omega
    have h4 : a ≤ a.tmod b := by
      have := Int.mul_tdiv_add_tmod a b
      have h5 : b * (a.tdiv b) ≤ 0 := by
        rcases Int.le_total 0 b with hb | hb
        · have : a.tdiv b ≤ 0 := by
            have := Int.tdiv_nonneg (a := -a) (b := b) (by omega) hb
            rw [Int.neg_tdiv] at this; omega
          exact Int.mul_nonpos_of_nonneg_of_nonpos hb this
        · have : 0 ≤ a.tdiv b := by
            have := Int.tdiv_nonneg (a := -a) (b := -b) (by omega) (by omega)
            rw [Int.neg_tdiv, Int.tdiv_neg] at this; omega
          exact Int.mul_nonpos_of_nonpos_of_nonneg hb this
      omega
    exact ⟨by omega, by omega⟩

theorem bstr_inj {a b : List UInt8} : bstr a = bstr b ↔ a = b := by
  constructor
  · intro h
    have := congrArg ByteArray.toList h
    rwa [bstr_toList, bstr_toList] at this
  · rintro rfl; rfl
theorem bstr_append (a b : List UInt8) : bstr a ++ bstr b = bstr (a ++ b) := by
  have : (bstr a ++ bstr b).data = (bstr (a ++ b)).data := by simp [bstr, ByteArray.data_append]
  cases h1 : bstr a ++ bstr b
  cases h2 : bstr (a ++ b)
  rw [h1, h2] at this
  simpa using this

theorem eqFsA_sound {g : Gh} {H : Heap} {N : Nat} {eqa : TypeId → AV → AV → Option Bool} {eq : TypeId → Value → Value → Option Bool} {isA : TypeId → Option Bool} {sz : TypeId → Option Nat}
    (he : ∀ t x y b u v, eqa t x y = some b → SimV g H N x u → SimV g H N y v → eq t u v = some b) :
    ∀ (fs : List Field) (xs ys : List AV) (us vs : List Value) (b : Bool), eqFsA eqa isA sz fs xs ys = some b → SimL g H N xs us → SimL g H N ys vs → eqFs eq isA sz fs us vs = some b := by
  intro fs
  induction fs with
  | nil => intro xs ys us vs b h _ _; exact h
  | cons f fs ih =>
    intro xs ys us vs b h hx hy
    unfold eqFsA at h
    unfold eqFs
    split at h
    · rename_i hA
      simp only [hA]
      split at h
      · rename_i x y hxi hyi
        obtain ⟨u, hu, hsu⟩ := hx.get hxi
        obtain ⟨v, hv, hsv⟩ := hy.get hyi
        simp only [hu, hv]
        split at h
        · rename_i b1 r h1 h2
          simp only [he _ _ _ _ _ _ h1 hsu hsv, ih _ _ _ _ _ h2 hx hy]
          exact h
        · cases h
      · cases h
    · rename_i hA
      simp only [hA]
      split at h
      · rename_i s hs
        simp only [hs]
        split at h
        · rename_i b1 r h1 h2
          have e1 := he _ _ _ _ (.agg ⟨(us.drop f.offset).take s⟩) (.agg ⟨(vs.drop f.offset).take s⟩) h1 (by simp only [SimV]; exact ⟨_, rfl, (hx.drop _).take _⟩) (by simp only [SimV]; exact ⟨_, rfl, (hy.drop _).take _⟩)
          simp only [e1, ih _ _ _ _ _ h2 hx hy]
          exact h
        · cases h
      · cases h
    · cases h
theorem eqA_sound {P : Program} {g : Gh} {H : Heap} {N : Nat} : ∀ (d : Nat) (t : TypeId) (x y : AV) (b : Bool) (u v : Value), eqA P d t x y = some b → SimV g H N x u → SimV g H N y v → eqPure P d t u v = some b := by
  intro d
  induction d with
  | zero => intro t x y b u v h; cases h
  | succ d ih =>
    intro t x y b u v h hx hy
    unfold eqA at h
    split at h
    · rename_i hu
      simp only [SimV] at hx hy
      subst hx hy
      simp only [eqPure, hu]; exact h
    · rename_i hu
      simp only [SimV] at hx hy
      obtain ⟨rfl, _⟩ := hx
      obtain ⟨rfl, _⟩ := hy
      simp only [eqPure, hu]; exact h
    · rename_i a c hu
      simp only [SimV] at hx hy
      obtain ⟨rfl, _⟩ := hx
      obtain ⟨rfl, _⟩ := hy
      have e : (bstr a == bstr c) = (a == c) := by
        show (a.toArray == c.toArray) = (a == c)
        rw [Bool.eq_iff_iff, beq_iff_eq, beq_iff_eq]
        simp
      simp only [eqPure, hu, e]; exact h
    · rename_i fs xs ys hu
      simp only [SimV] at hx hy
      obtain ⟨us, rfl, hx⟩ := hx
      obtain ⟨vs, rfl, hy⟩ := hy
      split at h
      · rename_i h1 h2
        simp only [eqPure, hu, h1, h2]
        exact eqFsA_sound (fun t x y b u v h hx hy => ih t x y b u v h hx hy) _ _ _ _ _ _ h hx hy
      · cases h
    · cases h

theorem binA_sound {P : Program} {lit : Bool} {op : BinOp} {t : TypeId} {x y : AV} {u v : Value} {g : Gh} {H : Heap} {N : Nat} {K' : AV → Prop} {K : Value → Heap → Prop} (h : binA P lit t op x y K') (hx : SimV g H N x u) (hy : SimV g H N y v)
    (hk : ∀ a w, SimV g H N a w → K' a → K w H) : BinW P lit op t u v H K := by
  have ki : ∀ (k : IntKind) (n : Int), InR k n → K' (.int k n) → K (.int k n) H := fun k n hn h => hk _ _ (by simp only [SimV]; exact ⟨trivial, hn⟩) h
  have kb : ∀ b : Bool, K' (.bool b) → K (.bool b) H := fun b h => hk _ _ (by simp only [SimV]) h
  unfold binA at h
  split at h
  · rename_i k a k' b
    simp only [SimV] at hx hy
    obtain ⟨rfl, hx⟩ := hx
    obtain ⟨rfl, hy⟩ := hy
    unfold BinW
    simp only
    split at h
    · rename_i hs
      rw [hs]
      obtain ⟨h0, h⟩ := h
      have key : 0 ≤ b ∧ SemW P (match op with | .shl => pure (.int k (k.wrap (a * 2 ^ (min b.toNat k.bits)))) | _ => pure (.int k (a.fdiv (2 ^ (min b.toNat k.bits))))) H K := by
        refine ⟨h0, ?_⟩
        cases op <;> simp [isShift] at hs
        · exact ki _ _ (wrap_InR _ _) h
        · exact ki _ _ (InR_fdiv hx) h
      cases decide (k = k') <;> exact key
    · rename_i hs
      rw [hs]
      split at h
      · exact h.elim
      · rename_i hkk
        rw [hkk]
        simp only
        cases op <;> simp only [isShift] at hs <;> simp only [isDiv] at h ⊢ <;> first | exact h.elim | (cases hs; done) | skip
        · exact ki _ _ (wrap_InR _ _) h
        · exact ki _ _ (wrap_InR _ _) h
        · exact ki _ _ (wrap_InR _ _) h
        · exact ⟨h.1, ki _ _ (wrap_InR _ _) h.2⟩
        · exact ⟨h.1, ki _ _ (InR_tmod hx) h.2⟩
        · exact ki _ _ (wrap_InR _ _) h
        · exact ki _ _ (wrap_InR _ _) h
        · exact ki _ _ (wrap_InR _ _) h
        · exact ki _ _ (wrap_InR _ _) h
        · exact kb _ h
        · exact kb _ h
        · exact kb _ h
        · exact kb _ h
        · exact kb _ h
        · exact kb _ h
  · simp only [SimV] at hx hy
    subst hx hy
    split at h
    · rename_i hu
      simp only [BinW, isEq, EqW, eqPure, hu]; exact kb _ h
    · rename_i hu
      simp only [BinW, isEq, EqW, eqPure, hu]; exact kb _ h
    · exact h.elim
  · rename_i a b
    simp only [SimV] at hx hy
    obtain ⟨rfl, hx⟩ := hx
    obtain ⟨rfl, hy⟩ := hy
    unfold BinW
    simp only
    have sz : ∀ l : List UInt8, (bstr l).size = l.length := fun l => by simp [bstr, ByteArray.size]
    cases op <;> simp only at h ⊢ <;> first | exact h.elim | skip
    case add =>
      refine ⟨?_, ?_⟩
      · rw [sz, sz]; have := h.1; unfold lenMax at this; have hm : IntKind.i64.max = 9223372036854775807 := rfl; rw [hm]; omega
      · rw [bstr_append]
        exact hk (.str (a ++ b)) _ (by simp only [SimV]; exact ⟨trivial, by simpa using h.1⟩) h.2
    all_goals
      refine kb _ ?_
      simp only [bstr_toList]
      exact h
  · simp only [SimV] at hx hy
    subst hx hy
    split at h
    · rename_i hu
      simp only [BinW, isEq, EqW, eqPure, hu]; exact kb _ h
    · rename_i hu
      simp only [BinW, isEq, EqW, eqPure, hu]; exact kb _ h
    · exact h.elim
  · rename_i ks xs
    simp only [SimV, CellOk] at hx hy
    obtain ⟨a, n, c, rfl, hl, _, _, hc⟩ := hx
    subst hy
    have hn : a.isNone = true → xs.length = 0 := fun e => by
      rcases Nat.eq_zero_or_pos n with h0 | h0
      · simp only [asL] at hl; omega
      · obtain ⟨b, o, rfl, _⟩ := hc h0
        cases e
    split at h
    · rename_i hu
      simp only [BinW, isEq, EqW, eqPure, hu]; exact kb _ (h _ hn)
    · rename_i hu
      simp only [BinW, isEq, EqW, eqPure, hu]; exact kb _ (h _ hn)
    · exact h.elim
  · simp only [SimV] at hx hy
    subst hx hy
    split at h
    · rename_i hu
      simp only [BinW, isEq, EqW, eqPure, hu]; exact kb _ h
    · rename_i hu
      simp only [BinW, isEq, EqW, eqPure, hu]; exact kb _ h
    · exact h.elim
  · simp only [SimV] at hx hy
    obtain ⟨_, rfl⟩ := hx
    subst hy
    split at h
    · rename_i hu
      simp only [BinW, isEq, EqW, eqPure, hu]; exact kb _ h
    · rename_i hu
      simp only [BinW, isEq, EqW, eqPure, hu]; exact kb _ h
    · exact h.elim
  · rename_i xs ys
    have hx' := hx
    have hy' := hy
    simp only [SimV] at hx' hy'
    obtain ⟨us, rfl, _⟩ := hx'
    obtain ⟨vs, rfl, _⟩ := hy'
    split at h
    · rename_i b he hg hb
      simp only [BinW, he, EqW, eqA_sound 6 t _ _ b _ _ hb hx hy]
      refine ⟨hg, ?_⟩
      cases op <;> first | exact kb _ h | (cases he; done)
    · exact h.elim
  · rename_i a
    simp only [SimV] at hx hy
    subst hy
    split at h
    · split at h
      · rename_i hu
        cases a with
        | true => simp only at hx; subst hx; simp only [BinW, isEq, EqW, eqPure, hu]; exact ⟨trivial, kb _ h⟩
        | false => obtain ⟨t', u', hx⟩ := hx; subst hx; simp only [BinW, isEq, EqW, eqPure, hu]; exact kb _ h
      · rename_i hu
        cases a with
        | true => simp only at hx; subst hx; simp only [BinW, isEq, EqW, eqPure, hu]; exact ⟨trivial, kb _ h⟩
        | false => obtain ⟨t', u', hx⟩ := hx; subst hx; simp only [BinW, isEq, EqW, eqPure, hu]; exact kb _ h
      · exact h.elim
    · exact h.elim
  · exact h.elim

end Go.Sh
