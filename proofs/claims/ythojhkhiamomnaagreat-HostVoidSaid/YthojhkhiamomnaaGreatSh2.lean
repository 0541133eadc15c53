/-
  Operations, said of the heap alone: what each asks and gives. Each special reading implies the general one.
-/
import Derived.Test.YthojhkhiamomnaaGreatSh1
namespace Go.Sh

def IfB (b : Bool) (X Y : Prop) : Prop := match b with | true => X | false => Y
theorem IfB.intro {b : Bool} {X Y : Prop} (hx : b = true → X) (hy : b = false → Y) : IfB b X Y := by
  cases b
  · exact hy rfl
  · exact hx rfl
theorem IfB.elim {b : Bool} {X Y : Prop} (h : IfB b X Y) : (b = true ∧ X) ∨ (b = false ∧ Y) := by
  cases b
  · exact .inr ⟨rfl, h⟩
  · exact .inl ⟨rfl, h⟩
theorem IfB.mono {b : Bool} {X Y X' Y' : Prop} (h : IfB b X Y) (hx : X → X') (hy : Y → Y') : IfB b X' Y' := by
  cases b
  · exact hy h
  · exact hx h

def NilP (p : Option Addr) (k : Addr → Prop) : Prop := match p with | some a => k a | none => False
theorem NilP.intro {p : Option Addr} {k : Addr → Prop} (a : Addr) (h : p = some a) (hk : k a) : NilP p k := by subst h; exact hk
theorem NilP.elim {p : Option Addr} {k : Addr → Prop} (h : NilP p k) : ∃ a, p = some a ∧ k a := by
  cases p with
  | none => exact False.elim h
  | some a => exact ⟨a, rfl, h⟩

/-- An index, or a bound, in its range. -/
def InB (n : Int) (len : Nat) (k : Nat → Prop) : Prop := 0 ≤ n ∧ n < len ∧ k n.toNat
def InC (n : Int) (len : Nat) (k : Nat → Prop) : Prop := 0 ≤ n ∧ n ≤ len ∧ k n.toNat

/-- What one cell of a type holds. -/
inductive Leaf where
  | int (k : IntKind) | bool | str | ptr | slice | any

def leafEx (l : Leaf) (r : Value → Prop) : Prop := match l with
  | .int k => ∃ n : Int, r (.int k n)
  | .bool => ∃ b : Bool, r (.bool b)
  | .str => ∃ s : ByteArray, r (.string s)
  | .ptr => ∃ p : Option Addr, r (.pointer p)
  | .slice => ∃ (a : Option Addr) (len cap : Nat), r (.slice a len cap)
  | .any => ∃ v : Value, r v
theorem leafEx.elim {l : Leaf} {r : Value → Prop} (h : leafEx l r) : ∃ v, r v := by
  cases l with
  | int k => obtain ⟨n, h⟩ := h; exact ⟨_, h⟩
  | bool => obtain ⟨n, h⟩ := h; exact ⟨_, h⟩
  | str => obtain ⟨n, h⟩ := h; exact ⟨_, h⟩
  | ptr => obtain ⟨n, h⟩ := h; exact ⟨_, h⟩
  | slice => obtain ⟨a, b, c, h⟩ := h; exact ⟨_, h⟩
  | any => exact h
theorem leafEx.mono {l : Leaf} {r r' : Value → Prop} (hr : ∀ v, r v → r' v) (h : leafEx l r) : leafEx l r' := by
  cases l with
  | int k => obtain ⟨n, h⟩ := h; exact ⟨_, hr _ h⟩
  | bool => obtain ⟨n, h⟩ := h; exact ⟨_, hr _ h⟩
  | str => obtain ⟨n, h⟩ := h; exact ⟨_, hr _ h⟩
  | ptr => obtain ⟨n, h⟩ := h; exact ⟨_, hr _ h⟩
  | slice => obtain ⟨a, b, c, h⟩ := h; exact ⟨_, _, _, hr _ h⟩
  | any => obtain ⟨v, h⟩ := h; exact ⟨_, hr _ h⟩

def leafOf (P : Program) (t : TypeId) : Leaf :=
  match P.underlying t with
  | some (.int k) => .int k
  | some .bool => .bool
  | some .string => .str
  | some (.pointer _) => .ptr
  | some (.slice _) => .slice
  | _ => .any

/-- The leaves of a type, cell by cell (depth d). -/
def leaves (P : Program) : Nat → TypeId → List Leaf
  | 0, _ => []
  | d + 1, t =>
    match P.underlying t with
    | some (.struct fs) => fs.toList.flatMap fun f => leaves P d f.type
    | some (.array n e) => (List.replicate n (leaves P d e)).flatten
    | _ => [leafOf P t]

def isAggB (P : Program) (t : TypeId) : Option Bool :=
  match P.underlying t with
  | some (.struct _) | some (.array _ _) => some true
  | some _ => some false
  | none => none

/-- The place n cells behind a. -/
def padd (a : Addr) : Nat → Addr
  | 0 => a
  | n + 1 => ⟨a.block, a.off + (n + 1), none⟩
theorem padd_eq (a : Addr) (n : Nat) : padd a n = a.add n := by
  cases n with
  | zero => rfl
  | succ n => simp [padd, Addr.add]

/-- The cells from a on, one behind the other. -/
def ldCells (H : Heap) (a : Addr) : Nat → List Leaf → List Value → (List Value → Prop) → Prop
  | _, [], acc, K => K acc
  | i, l :: ls, acc, K => leafEx l fun v => H.cell (padd a i) = some v ∧ ldCells H a (i + 1) ls (acc ++ [v]) K

theorem ldCells.elim {H : Heap} {a : Addr} {K : List Value → Prop} : ∀ (ls : List Leaf) (i : Nat) (acc : List Value), ldCells H a i ls acc K →
    ∃ vs : List Value, vs.length = ls.length ∧ (∀ j, j < vs.length → H.cell (a.add (i + j)) = vs[j]?) ∧ K (acc ++ vs) := by
  intro ls
  induction ls with
  | nil => exact fun i acc h => ⟨[], rfl, fun j hj => absurd hj (by simp), by rw [List.append_nil]; exact h⟩
  | cons l ls ih =>
    intro i acc h
    obtain ⟨v, hv, h⟩ := leafEx.elim h
    obtain ⟨vs, hl, hc, hk⟩ := ih (i + 1) (acc ++ [v]) h
    refine ⟨v :: vs, by simp [hl], fun j hj => ?_, by simpa using hk⟩
    cases j with
    | zero => rw [padd_eq] at hv; simpa using hv
    | succ j =>
      have := hc j (by simpa using hj)
      simpa [Nat.add_assoc, Nat.add_comm 1 j] using this

/-- A load of a variable of type t. -/
def LoadW (P : Program) (t : TypeId) (v : Value) (H : Heap) (K : Value → Heap → Prop) : Prop :=
  match v with
  | .pointer (some a) =>
    match isAggB P t with
    | some false => leafEx (leafOf P t) fun v => H.cell a = some v ∧ K v H
    | some true =>
      match Nat.ble (P.cellsOf t) 24 && Nat.beq (leaves P 6 t).length (P.cellsOf t) with
      | true => ldCells H a 0 (leaves P 6 t) [] fun vs => K (.agg ⟨vs⟩) H
      | false => ∃ cs : List Value, cs.length = P.cellsOf t ∧ (∀ j, j < cs.length → H.cell (a.add j) = cs[j]?) ∧ K (.agg ⟨cs⟩) H
    | none => False
  | _ => False

theorem semW_loadCells {P : Program} {H : Heap} {a : Addr} {K : Array Value → Heap → Prop} : ∀ (n i : Nat) (acc : Array Value) (vs : List Value), vs.length = n →
    (∀ j, j < vs.length → H.cell (a.add (i + j)) = vs[j]?) → K ⟨acc.toList ++ vs⟩ H → SemW P (loadCellsFrom a i n acc) H K := by
  intro n
  induction n with
  | zero =>
    intro i acc vs hl _ hk
    obtain rfl : vs = [] := by simpa using hl
    simpa [loadCellsFrom, pure, SemW] using hk
  | succ n ih =>
    intro i acc vs hl hc hk
    cases vs with
    | nil => simp at hl
    | cons v vs =>
      have h0 := hc 0 (by simp)
      simp only [Nat.add_zero, List.getElem?_cons_zero] at h0
      refine (SemW.bind _ _ _ _).2 ⟨v, h0, ih (i + 1) (acc.push v) vs (by simpa using hl) (fun j hj => ?_) (by simpa using hk)⟩
      have := hc (j + 1) (by simpa using hj)
      simpa [Nat.add_assoc, Nat.add_comm 1 j] using this

theorem semW_underlying {P : Program} {t : TypeId} {d : TypeDesc} {H : Heap} {K : TypeDesc → Heap → Prop} (h : P.underlying t = some d) (hk : K d H) : SemW P (underlying t) H K := by
  unfold underlying
  refine (SemW.bind _ _ _ _).2 ?_
  show SemW P (match P.underlying t with | some d => pure d | none => stuck "no such type") H K
  rw [h]; exact hk

theorem semW_isAgg {P : Program} {t : TypeId} {b : Bool} {H : Heap} {K : Bool → Heap → Prop} (h : isAggB P t = some b) (hk : K b H) : SemW P (isAgg t) H K := by
  unfold isAgg
  refine (SemW.bind _ _ _ _).2 ?_
  unfold isAggB at h
  cases hu : P.underlying t with
  | none => rw [hu] at h; cases h
  | some d =>
    rw [hu] at h
    refine semW_underlying hu ?_
    cases d <;> simp at h <;> subst h <;> exact hk

theorem semW_sizeOf {P : Program} {t : TypeId} {i : TypeInfo} {H : Heap} {K : Nat → Heap → Prop} (h : P.info? t = some i) (hk : K i.size H) : SemW P (sizeOf t) H K := by
  unfold sizeOf typeInfo
  refine (SemW.bind _ _ _ _).2 ?_
  refine (SemW.bind _ _ _ _).2 ?_
  show SemW P (match P.info? t with | some i => pure i | none => stuck "no such type") H _
  rw [h]; exact hk

theorem info_of_underlying {P : Program} {t : TypeId} {d : TypeDesc} (h : P.underlying t = some d) : ∃ i, P.info? t = some i := by
  unfold Program.underlying at h
  cases hi : P.info? t with
  | none => rw [hi] at h; cases h
  | some i => exact ⟨i, rfl⟩

theorem info_of_isAgg {P : Program} {t : TypeId} {b : Bool} (h : isAggB P t = some b) : ∃ i, P.info? t = some i := by
  unfold isAggB at h
  cases hu : P.underlying t with
  | none => rw [hu] at h; cases h
  | some d => exact info_of_underlying hu

theorem LoadW.sem {P : Program} {t : TypeId} {v : Value} {H : Heap} {K : Value → Heap → Prop} (h : LoadW P t v H K) : SemW P (Instr.loadAt t v) H K := by
  unfold LoadW at h
  split at h
  · rename_i a
    show SemW P (loadVar t a) H K
    unfold loadVar
    refine (SemW.bind _ _ _ _).2 ?_
    split at h
    · rename_i hb
      refine semW_isAgg hb ?_
      obtain ⟨v, hv, hk⟩ := leafEx.elim h
      exact ⟨v, hv, hk⟩
    · rename_i hb
      refine semW_isAgg hb ?_
      obtain ⟨i, hi⟩ := info_of_isAgg hb
      have hs : P.cellsOf t = i.size := by simp [Program.cellsOf, hi]
      rw [hs] at h
      have key : ∃ cs : List Value, cs.length = i.size ∧ (∀ j, j < cs.length → H.cell (a.add j) = cs[j]?) ∧ K (.agg ⟨cs⟩) H := by
        split at h
        · rename_i hc
          obtain ⟨vs, hl, hcs, hk⟩ := ldCells.elim _ _ _ h
          refine ⟨vs, ?_, fun j hj => by simpa using hcs j hj, by simpa using hk⟩
          rw [hl]
          simp only [Bool.and_eq_true] at hc
          exact Nat.eq_of_beq_eq_true hc.2
        · exact h
      obtain ⟨cs, hl, hc, hk⟩ := key
      show SemW P (do let n ← sizeOf t; let c ← loadCells a n; pure (Value.agg c)) H K
      refine (SemW.bind _ _ _ _).2 (semW_sizeOf hi ?_)
      refine (SemW.bind _ _ _ _).2 ?_
      refine semW_loadCells i.size 0 #[] cs hl (fun j hj => by simpa using hc j hj) ?_
      simpa [pure, SemW] using hk
    · exact h.elim
  · exact h.elim

/-- A nil check. -/
def NilW (v : Value) (H : Heap) (K : Value → Heap → Prop) : Option Prop := match v with
  | .pointer p => some (NilP p fun a => K (.pointer (some a)) H)
  | _ => none

def szOf (P : Program) (t : TypeId) : Option Nat := match P.info? t with | some i => some i.size | none => none
theorem semW_szOf {P : Program} {t : TypeId} {n : Nat} {H : Heap} {K : Nat → Heap → Prop} (h : szOf P t = some n) (hk : K n H) : SemW P (sizeOf t) H K := by
  unfold szOf at h
  cases hi : P.info? t with
  | none => rw [hi] at h; cases h
  | some i => rw [hi] at h; cases h; exact semW_sizeOf hi hk

/-- The place of element m, of s cells. -/
def elemAt (a : Addr) (m s : Nat) (k : Addr → Prop) : Prop := match a.spot with
  | none => k ⟨a.block, a.off + m * s, none⟩
  | some _ => False
def sizeK (P : Program) (t : TypeId) (k : Nat → Prop) : Prop := match szOf P t with
  | some s => k s
  | none => False
theorem sizeK.elim {P : Program} {t : TypeId} {k : Nat → Prop} (h : sizeK P t k) : ∃ s, szOf P t = some s ∧ k s := by
  unfold sizeK at h
  cases hs : szOf P t with
  | none => rw [hs] at h; exact False.elim h
  | some s => rw [hs] at h; exact ⟨s, rfl, h⟩

/-- The address of an element of an array or a slice. -/
def IdxAddrW (P : Program) (t : TypeId) (x i : Value) (H : Heap) (K : Value → Heap → Prop) : Prop :=
  match P.underlying t, x, i with
  | some (.array len e), .pointer (some a), .int _ n => sizeK P e fun s => InB n len fun m => elemAt a m s fun p => K (.pointer (some p)) H
  | some (.slice e), .slice base len _, .int _ n => sizeK P e fun s => NilP base fun a => InB n len fun m => elemAt a m s fun p => K (.pointer (some p)) H
  | _, _, _ => False

theorem add_of_spot {a : Addr} (h : a.spot = none) (n : Nat) : a.add n = ⟨a.block, a.off + n, none⟩ := by
  unfold Addr.add
  by_cases hn : n = 0
  · subst hn; cases a; simp_all
  · rw [if_neg hn, ← h]

theorem elemAt.elim {a : Addr} {m s : Nat} {k : Addr → Prop} (h : elemAt a m s k) : k (a.add (m * s)) := by
  unfold elemAt at h
  cases hs : a.spot with
  | none => rw [hs] at h; rw [add_of_spot hs]; exact h
  | some _ => rw [hs] at h; exact False.elim h

theorem IdxAddrW.sem {P : Program} {t : TypeId} {x i : Value} {H : Heap} {K : Value → Heap → Prop} (h : IdxAddrW P t x i H K) : SemW P (Instr.indexAt t x i) H K := by
  unfold IdxAddrW at h
  split at h
  · rename_i len e a k n hu
    obtain ⟨s, hs, h0, h1, h⟩ := sizeK.elim h
    unfold Instr.indexAt
    change SemW P (underlying t >>= _) H K
    refine (SemW.bind _ _ _ _).2 (semW_underlying hu ?_)
    change SemW P (underlying t >>= _) H K
    refine (SemW.bind _ _ _ _).2 (semW_underlying hu ?_)
    change SemW P (if 0 ≤ n ∧ n < (len : Int) then _ else _) H K
    rw [if_pos ⟨h0, h1⟩]
    exact (SemW.bind _ _ _ _).2 (semW_szOf hs h.elim)
  · rename_i e base len cap k n hu
    obtain ⟨s, hs, h⟩ := sizeK.elim h
    obtain ⟨a, rfl, h0, h1, h⟩ := NilP.elim h
    unfold Instr.indexAt
    change SemW P (underlying t >>= _) H K
    refine (SemW.bind _ _ _ _).2 (semW_underlying hu ?_)
    change SemW P (underlying t >>= _) H K
    refine (SemW.bind _ _ _ _).2 (semW_underlying hu ?_)
    change SemW P (if 0 ≤ n ∧ n < (len : Int) then _ else _) H K
    rw [if_pos ⟨h0, h1⟩]
    exact (SemW.bind _ _ _ _).2 (semW_szOf hs h.elim)
  · exact h.elim

theorem semW_part {P : Program} {t : TypeId} {cs : Array Value} {off : Nat} {H : Heap} {K : Value → Heap → Prop}
    (h : (∃ s, isAggB P t = some true ∧ szOf P t = some s ∧ K (.agg ⟨(cs.toList.drop off).take s⟩) H) ∨ (∃ v, isAggB P t = some false ∧ cs.toList[off]? = some v ∧ K v H)) : SemW P (part t cs off) H K := by
  unfold part
  refine (SemW.bind _ _ _ _).2 ?_
  rcases h with ⟨s, hb, hs, hk⟩ | ⟨v, hb, hv, hk⟩
  · refine semW_isAgg hb ?_
    change SemW P (do pure (.agg (cs.extract off (off + (← sizeOf t))))) H K
    refine (SemW.bind _ _ _ _).2 (semW_szOf hs ?_)
    have : cs.extract off (off + s) = ⟨(cs.toList.drop off).take s⟩ := by
      apply Array.ext'
      simp [List.take_drop]
    rw [this]; exact hk
  · refine semW_isAgg hb ?_
    change SemW P (match cs[off]? with | some v => pure v | none => _) H K
    have : cs[off]? = some v := by simpa using hv
    rw [this]; exact hk

/-- An element of a string, or of an array at hand. -/
def IdxW (P : Program) (t : TypeId) (x i : Value) (H : Heap) (K : Value → Heap → Prop) : Prop :=
  match P.underlying t, x, i with
  | some .string, .string s, .int _ n => InB n s.size fun m => K (.int .u8 (s.data.getD m 0).toNat) H
  | some (.array len e), .agg cs, .int _ n => sizeK P e fun s => InB n len fun m => match isAggB P e with
    | some true => K (.agg ⟨(cs.toList.drop (m * s)).take s⟩) H
    | some false => match cs.toList[m * s]? with
      | some v => K v H
      | none => False
    | none => False
  | _, _, _ => False

theorem IdxW.sem {P : Program} {t : TypeId} {x i : Value} {H : Heap} {K : Value → Heap → Prop} (h : IdxW P t x i H K) : SemW P (Instr.index t x i) H K := by
  unfold IdxW at h
  split at h
  · rename_i s k n hu
    obtain ⟨h0, h1, h⟩ := h
    unfold Instr.index
    change SemW P (underlying t >>= _) H K
    refine (SemW.bind _ _ _ _).2 (semW_underlying hu ?_)
    change SemW P (match (if 0 ≤ n then s[n.toNat]? else none) with | some b => _ | none => _) H K
    rw [if_pos h0]
    have hlt : n.toNat < s.size := by omega
    rw [getElem?_pos s n.toNat hlt]
    have : s.data.getD n.toNat 0 = s[n.toNat] := by
      rw [Array.getD_eq_getD_getElem?, Array.getElem?_eq_getElem (by exact hlt)]; rfl
    rw [this] at h
    exact h
  · rename_i len e cs k n hu
    obtain ⟨s, hs, h0, h1, h⟩ := sizeK.elim h
    unfold Instr.index
    change SemW P (underlying t >>= _) H K
    refine (SemW.bind _ _ _ _).2 (semW_underlying hu ?_)
    change SemW P (if 0 ≤ n ∧ n < (len : Int) then _ else _) H K
    rw [if_pos ⟨h0, h1⟩]
    refine (SemW.bind _ _ _ _).2 (semW_szOf hs ?_)
    split at h
    · rename_i hA; exact semW_part (.inl ⟨s, hA, hs, h⟩)
    · rename_i hA
      split at h
      · rename_i v hv; exact semW_part (.inr ⟨v, hA, hv, h⟩)
      · exact h.elim
    · exact h.elim
  · exact h.elim

/-- A slice expression. -/
def slHi (hi : Option Value) (len cap : Nat) (k : Nat → Prop) : Prop := match hi with
  | none => k len
  | some (.int _ n) => InC n cap k
  | some _ => False
def SliceW (P : Program) (t : TypeId) (x : Value) (lo hi mx : Option Value) (H : Heap) (K : Value → Heap → Prop) : Prop :=
  match P.underlying t, x, mx with
  | some .string, .string s, none => slHi hi s.size s.size fun h => slHi lo 0 h fun l => K (.string (s.extract l h)) H
  | some (.slice e), .slice a len cap, none => sizeK P e fun sz => slHi hi len cap fun h => match lo with
    | none => K (.slice a h cap) H
    | some _ => slHi lo 0 h fun l => K (.slice (if cap = l then a else a.map (·.add (l * sz))) (h - l) (cap - l)) H
  | some (.array n e), .pointer (some a), none => sizeK P e fun sz => slHi hi n n fun h => match lo with
    | none => K (.slice (some a) h n) H
    | some _ => slHi lo 0 h fun l => K (.slice (some (if n = l then a else a.add (l * sz))) (h - l) (n - l)) H
  | some (.slice e), .slice a _ cap, some m => sizeK P e fun sz => match hi with
    | none => False
    | some hv => slHi (some m) 0 cap fun m => slHi (some hv) 0 m fun h => slHi lo 0 h fun l => K (.slice (if m = l then a else a.map (·.add (l * sz))) (h - l) (m - l)) H
  | _, _, _ => False

theorem semW_bound {P : Program} {x : Value} {y : Nat} {code : BoundsCode} {H : Heap} {K : Nat → Heap → Prop} {k : IntKind} {n : Int} (hx : x = .int k n) (h : InC n y fun m => K m H) : SemW P (Instr.sliceBound x y code) H K := by
  subst hx
  obtain ⟨h0, h1, h⟩ := h
  unfold Instr.sliceBound
  change SemW P (if 0 ≤ n ∧ n ≤ (y : Int) then _ else _) H K
  rw [if_pos ⟨h0, h1⟩]; exact h

theorem semW_bounds {P : Program} {isSlice : Bool} {len cap : Nat} {lo hi : Option Value} {H : Heap} {K : Nat × Nat × Nat → Heap → Prop}
    (h : slHi hi len cap fun h => slHi lo 0 h fun l => K (l, h, cap) H) : SemW P (Instr.sliceBounds isSlice len cap lo hi none) H K := by
  unfold Instr.sliceBounds
  cases lo with
  | none =>
    cases hi with
    | none => exact h
    | some v =>
      cases v <;> first | (exact False.elim h) | skip
      rename_i k n
      obtain ⟨h0, h1, h⟩ := h
      change SemW P (Instr.sliceBound (.int k n) cap _ >>= _) H K
      exact (SemW.bind _ _ _ _).2 (semW_bound rfl ⟨h0, h1, h⟩)
  | some u =>
    have low : ∀ h' code, (slHi (some u) 0 h' fun l => K (l, h', cap) H) → SemW P (Instr.sliceBound u h' code >>= fun l => pure (l, h', cap)) H K := by
      intro h' code hl
      cases u <;> first | (exact False.elim hl) | skip
      exact (SemW.bind _ _ _ _).2 (semW_bound rfl hl)
    cases hi with
    | none => exact low _ _ h
    | some v =>
      cases v <;> first | (exact False.elim h) | skip
      rename_i k n
      obtain ⟨h0, h1, h⟩ := h
      change SemW P (Instr.sliceBound (.int k n) cap _ >>= _) H K
      exact (SemW.bind _ _ _ _).2 (semW_bound rfl ⟨h0, h1, low _ _ h⟩)

theorem slHi.mono {hi : Option Value} {len cap : Nat} {k k' : Nat → Prop} (hk : ∀ n, k n → k' n) (h : slHi hi len cap k) : slHi hi len cap k' := by
  cases hi with
  | none => exact hk _ h
  | some v =>
    cases v <;> first | (exact False.elim h) | (exact ⟨h.1, h.2.1, hk _ h.2.2⟩)

theorem semW_bounds3 {P : Program} {isSlice : Bool} {len cap : Nat} {lo : Option Value} {hv m : Value} {H : Heap} {K : Nat × Nat × Nat → Heap → Prop}
    (h : slHi (some m) 0 cap fun m => slHi (some hv) 0 m fun h => slHi lo 0 h fun l => K (l, h, m) H) : SemW P (Instr.sliceBounds isSlice len cap lo (some hv) (some m)) H K := by
  unfold Instr.sliceBounds
  cases m <;> first | (exact False.elim h) | skip
  rename_i k n
  obtain ⟨h0, h1, h⟩ := h
  change SemW P (Instr.sliceBound (.int k n) cap _ >>= _) H K
  refine (SemW.bind _ _ _ _).2 (semW_bound rfl ⟨h0, h1, ?_⟩)
  cases hv <;> first | (exact False.elim h) | skip
  rename_i k n
  obtain ⟨h0, h1, h⟩ := h
  change SemW P (Instr.sliceBound (.int k n) _ _ >>= _) H K
  refine (SemW.bind _ _ _ _).2 (semW_bound rfl ⟨h0, h1, ?_⟩)
  cases lo with
  | none => exact h
  | some u =>
    cases u <;> first | (exact False.elim h) | skip
    exact (SemW.bind _ _ _ _).2 (semW_bound rfl h)

theorem SliceW.sem {P : Program} {t : TypeId} {x : Value} {lo hi mx : Option Value} {H : Heap} {K : Value → Heap → Prop} (h : SliceW P t x lo hi mx H K) : SemW P (Instr.sliceAt t x lo hi mx) H K := by
  unfold SliceW at h
  split at h
  · rename_i s hu
    unfold Instr.sliceAt
    refine (SemW.bind _ _ _ _).2 (semW_underlying hu ?_)
    change SemW P (Instr.slice t (.string s) lo hi none) H K
    unfold Instr.slice
    refine (SemW.bind _ _ _ _).2 (semW_underlying hu ?_)
    change SemW P (Instr.sliceBounds false s.size s.size lo hi none >>= _) H K
    exact (SemW.bind _ _ _ _).2 (semW_bounds h)
  · rename_i e a len cap hu
    obtain ⟨sz, hs, h⟩ := sizeK.elim h
    unfold Instr.sliceAt
    refine (SemW.bind _ _ _ _).2 (semW_underlying hu ?_)
    change SemW P (Instr.slice t (.slice a len cap) lo hi none) H K
    unfold Instr.slice
    refine (SemW.bind _ _ _ _).2 (semW_underlying hu ?_)
    change SemW P (Instr.sliceBounds true len cap lo hi none >>= _) H K
    refine (SemW.bind _ _ _ _).2 (semW_bounds (slHi.mono (fun h' h => ?_) h))
    cases lo with
    | none =>
      refine (SemW.bind _ _ _ _).2 (semW_szOf hs ?_)
      have e0 : (if cap = 0 then a else a.map (·.add (0 * sz))) = a := by
        split
        · rfl
        · cases a <;> simp [Addr.add]
      change K (.slice (if cap = 0 then a else a.map (·.add (0 * sz))) (h' - 0) (cap - 0)) H
      rw [e0, Nat.sub_zero, Nat.sub_zero]; exact h
    | some v => exact slHi.mono (fun l h => (SemW.bind _ _ _ _).2 (semW_szOf hs h)) h
  · rename_i n e a hu
    obtain ⟨sz, hs, h⟩ := sizeK.elim h
    unfold Instr.sliceAt
    refine (SemW.bind _ _ _ _).2 (semW_underlying hu ?_)
    change SemW P (Instr.sliceBounds false n n lo hi none >>= _) H K
    refine (SemW.bind _ _ _ _).2 (semW_bounds (slHi.mono (fun h' h => ?_) h))
    cases lo with
    | none =>
      refine (SemW.bind _ _ _ _).2 (semW_szOf hs ?_)
      have e0 : (if n = 0 then a else a.add (0 * sz)) = a := by
        split
        · rfl
        · simp [Addr.add]
      change K (.slice (some (if n = 0 then a else a.add (0 * sz))) (h' - 0) (n - 0)) H
      rw [e0, Nat.sub_zero, Nat.sub_zero]; exact h
    | some v => exact slHi.mono (fun l h => (SemW.bind _ _ _ _).2 (semW_szOf hs h)) h
  · rename_i e a len cap m hu
    obtain ⟨sz, hs, h⟩ := sizeK.elim h
    unfold Instr.sliceAt
    refine (SemW.bind _ _ _ _).2 (semW_underlying hu ?_)
    change SemW P (Instr.slice t (.slice a len cap) lo hi (some m)) H K
    unfold Instr.slice
    refine (SemW.bind _ _ _ _).2 (semW_underlying hu ?_)
    change SemW P (Instr.sliceBounds true len cap lo hi (some m) >>= _) H K
    cases hi with
    | none => exact h.elim
    | some hv =>
      refine (SemW.bind _ _ _ _).2 (semW_bounds3 (slHi.mono (fun m h => slHi.mono (fun h' h => slHi.mono (fun l h => ?_) h) h) h))
      exact (SemW.bind _ _ _ _).2 (semW_szOf hs h)
  · exact h.elim

end Go.Sh
