/-
  A machine of its own for calls whose run is known: its values, its heaps, and what they stand for in the model's heap.
-/
import Derived.Test.YthojhkhiamomnaaGreatSh17
noncomputable section
set_option linter.all false
namespace Go.Ev
open Go.Sh

inductive CV where
  | bool (b : Bool)
  | int (k : IntKind) (n : Int)
  | str (s : List UInt8)
  | ptr (k o : Nat)
  | nilp
  | sl (k o len cap : Nat) (ex : Bool)
  | nils
  | sl0
  | mp (k : Nat)
  | nilm
  | fn (f : FuncId) (caps : List CV)
  | bnd (f : FuncId) (first : List CV)
  | nilf
  | ifc (t : TypeId) (v : CV)
  | nili
  | agg (cs : List CV)
  | tup (vs : List CV)
  | opq (v : Value)
  | yld (k : Nat)
  | sym (i : Nat)

/-- Where a block of the machine lies in the model's heap: the block, from which cell on, and how many elements of room there are that the machine does not know of. -/
structure RB where
  blk : Nat
  base : Nat
  ext : Nat

/-- Numbers that are known by name alone; what is known of the heap at first. -/
class Sym where
  val : Nat → Value
  ok : ∀ i, ∃ k n, val i = .int k n
  good : Heap → Prop
variable [Sym]

def capOf (b : RB) (cap : Nat) : Bool → Nat
  | true => cap + b.ext
  | false => cap

mutual
def VR (r : List RB) : CV → Value → Prop
  | .bool b, v => v = .bool b
  | .int k n, v => v = .int k n
  | .str s, v => v = .string (bstr s)
  | .ptr k o, v => ∃ b, r[k]? = some b ∧ v = .pointer (some ⟨b.blk, b.base + o, none⟩)
  | .nilp, v => v = .pointer none
  | .sl k o len cap ex, v => ∃ b, r[k]? = some b ∧ v = .slice (some ⟨b.blk, b.base + o, none⟩) len (capOf b cap ex)
  | .nils, v => v = .slice none 0 0
  | .sl0, v => ∃ a c, v = .slice a 0 c
  | .mp k, v => ∃ b, r[k]? = some b ∧ v = .map (some b.blk)
  | .nilm, v => v = .map none
  | .fn f cs, v => ∃ vs, v = .func (.func f) #[] ⟨vs⟩ ∧ VRs r cs vs
  | .bnd f cs, v => ∃ u us, v = .func (.func f) ⟨u :: us⟩ ⟨[]⟩ ∧ VRs r cs (u :: us)
  | .nilf, v => v = .nilFunc
  | .ifc t c, v => ∃ w, v = .iface t w ∧ VR r c w
  | .nili, v => v = .nilIface
  | .agg cs, v => ∃ vs, v = .agg ⟨vs⟩ ∧ VRs r cs vs
  | .tup cs, v => ∃ vs, v = .tuple ⟨vs⟩ ∧ VRs r cs vs
  | .opq u, v => v = u
  | .yld k, v => ∃ b, r[k]? = some b ∧ v = .func (.yield b.blk) #[] #[]
  | .sym i, v => v = Sym.val i
def VRs (r : List RB) : List CV → List Value → Prop
  | [], vs => vs = []
  | c :: cs, vs => ∃ v us, vs = v :: us ∧ VR r c v ∧ VRs r cs us
end

/-- What stands for no value. -/
def und : CV := .tup []
theorem vr_und {r : List RB} : VR r und undef := ⟨[], rfl, rfl⟩
/-- More blocks. -/
def Pre (r r' : List RB) : Prop := ∀ (k : Nat) (b : RB), r[k]? = some b → r'[k]? = some b
theorem Pre.refl (r : List RB) : Pre r r := fun _ _ h => h
theorem Pre.trans {a b c : List RB} (h : Pre a b) (k : Pre b c) : Pre a c := fun i x hx => k i x (h i x hx)
theorem Pre.push (r : List RB) (x : RB) : Pre r (r ++ [x]) := fun k b h => by
  rw [List.getElem?_append_left (List.getElem?_eq_some_iff.1 h).1]; exact h

mutual
theorem VR.mono {r r' : List RB} (h : Pre r r') : ∀ (c : CV) (v : Value), VR r c v → VR r' c v
  | .bool _, _, e => e
  | .int _ _, _, e => e
  | .str _, _, e => e
  | .ptr _ _, _, e => by simp only [VR] at e ⊢; obtain ⟨b, hb, e⟩ := e; exact ⟨b, h _ _ hb, e⟩
  | .nilp, _, e => e
  | .sl .., _, e => by simp only [VR] at e ⊢; obtain ⟨b, hb, e⟩ := e; exact ⟨b, h _ _ hb, e⟩
  | .nils, _, e => e
  | .sl0, _, e => by simp only [VR] at e ⊢; exact e
  | .mp _, _, e => by simp only [VR] at e ⊢; obtain ⟨b, hb, e⟩ := e; exact ⟨b, h _ _ hb, e⟩
  | .nilm, _, e => e
  | .fn f cs, _, e => by simp only [VR] at e ⊢; obtain ⟨vs, e, hs⟩ := e; exact ⟨vs, e, VRs.mono h cs vs hs⟩
  | .bnd f cs, _, e => by simp only [VR] at e ⊢; obtain ⟨u, us, e, hs⟩ := e; exact ⟨u, us, e, VRs.mono h cs _ hs⟩
  | .nilf, _, e => e
  | .ifc t c, _, e => by simp only [VR] at e ⊢; obtain ⟨w, e, hs⟩ := e; exact ⟨w, e, VR.mono h c w hs⟩
  | .nili, _, e => e
  | .agg cs, _, e => by simp only [VR] at e ⊢; obtain ⟨vs, e, hs⟩ := e; exact ⟨vs, e, VRs.mono h cs vs hs⟩
  | .tup cs, _, e => by simp only [VR] at e ⊢; obtain ⟨vs, e, hs⟩ := e; exact ⟨vs, e, VRs.mono h cs vs hs⟩
  | .opq _, _, e => e
  | .yld _, _, e => by simp only [VR] at e ⊢; obtain ⟨b, hb, e⟩ := e; exact ⟨b, h _ _ hb, e⟩
  | .sym _, _, e => e
theorem VRs.mono {r r' : List RB} (h : Pre r r') : ∀ (cs : List CV) (vs : List Value), VRs r cs vs → VRs r' cs vs
  | [], _, e => e
  | c :: cs, _, e => by simp only [VRs] at e ⊢; obtain ⟨v, us, e, h1, h2⟩ := e; exact ⟨v, us, e, VR.mono h c v h1, VRs.mono h cs us h2⟩
end

theorem VRs.nil {r : List RB} : VRs r [] [] := rfl
theorem VRs.cons {r : List RB} {c : CV} {cs : List CV} {v : Value} {vs : List Value} (h1 : VR r c v) (h2 : VRs r cs vs) : VRs r (c :: cs) (v :: vs) := ⟨v, vs, rfl, h1, h2⟩
theorem VRs.len {r : List RB} : ∀ {cs : List CV} {vs : List Value}, VRs r cs vs → vs.length = cs.length
  | [], _, h => by simp only [VRs] at h; subst h; rfl
  | _ :: cs, _, h => by simp only [VRs] at h; obtain ⟨v, us, rfl, _, h⟩ := h; simp [VRs.len h]
theorem VRs.get {r : List RB} : ∀ {cs : List CV} {vs : List Value}, VRs r cs vs → ∀ (i : Nat) (c : CV), cs[i]? = some c → ∃ v, vs[i]? = some v ∧ VR r c v
  | [], _, h, i, c, e => by simp at e
  | c0 :: cs, _, h, i, c, e => by
    simp only [VRs] at h
    obtain ⟨v, us, rfl, h1, h2⟩ := h
    cases i with
    | zero => simp only [List.getElem?_cons_zero, Option.some.injEq] at e; subst e; exact ⟨v, rfl, h1⟩
    | succ i => exact VRs.get h2 i c e
theorem VRs.append {r : List RB} : ∀ {cs ds : List CV} {vs us : List Value}, VRs r cs vs → VRs r ds us → VRs r (cs ++ ds) (vs ++ us)
  | [], _, _, _, h, k => by simp only [VRs] at h; subst h; exact k
  | _ :: cs, _, _, _, h, k => by
    simp only [VRs] at h
    obtain ⟨v, us, rfl, h1, h2⟩ := h
    exact VRs.cons h1 (VRs.append h2 k)
theorem VRs.drop {r : List RB} : ∀ (n : Nat) {cs : List CV} {vs : List Value}, VRs r cs vs → VRs r (cs.drop n) (vs.drop n)
  | 0, _, _, h => h
  | n + 1, [], _, h => by simp only [VRs] at h; subst h; exact VRs.nil
  | n + 1, _ :: cs, _, h => by
    simp only [VRs] at h
    obtain ⟨v, us, rfl, h1, h2⟩ := h
    exact VRs.drop n h2
theorem VRs.take {r : List RB} : ∀ (n : Nat) {cs : List CV} {vs : List Value}, VRs r cs vs → VRs r (cs.take n) (vs.take n)
  | 0, _, _, h => by simp only [List.take_zero]; exact VRs.nil
  | n + 1, [], _, h => by simp only [VRs] at h; subst h; exact VRs.nil
  | n + 1, _ :: cs, _, h => by
    simp only [VRs] at h
    obtain ⟨v, us, rfl, h1, h2⟩ := h
    exact VRs.cons h1 (VRs.take n h2)

/-! ### Trees by numbers -/
inductive Tr (α : Type) where
  | e
  | n (v : Option α) (l r : Tr α)

namespace Tr
variable {α : Type}
def vlC : Tr α → Option α
  | .e => none
  | .n v _ _ => v
def lfC : Tr α → Tr α
  | .e => .e
  | .n _ l _ => l
def rtC : Tr α → Tr α
  | .e => .e
  | .n _ _ r => r
/-- Reading and writing, as they are run in the workbench. -/
def getC : Tr α → Nat → Option α
  | .e, _ => none
  | .n v l r, i => match Nat.beq i 0 with
    | true => v
    | false => match Nat.beq (Nat.mod i 2) 1 with
      | true => getC l (Nat.div (Nat.sub i 1) 2)
      | false => getC r (Nat.div (Nat.sub i 1) 2)
/-- With as much fuel as the number is great. -/
def setC : Nat → Tr α → Nat → α → Tr α
  | 0, t, _, _ => t
  | f + 1, t, i, x => match Nat.beq i 0 with
    | true => .n (some x) (lfC t) (rtC t)
    | false => match Nat.beq (Nat.mod i 2) 1 with
      | true => .n (vlC t) (setC f (lfC t) (Nat.div (Nat.sub i 1) 2) x) (rtC t)
      | false => .n (vlC t) (lfC t) (setC f (rtC t) (Nat.div (Nat.sub i 1) 2) x)
def setW (t : Tr α) (i : Nat) (x : α) : Tr α := setC (i + 1) t i x

/-! The same by the recursors themselves: the kernel follows them with far less ado. -/
noncomputable def vl (t : Tr α) : Option α := Tr.rec (motive := fun _ => Option α) none (fun v _ _ _ _ => v) t
noncomputable def lf (t : Tr α) : Tr α := Tr.rec (motive := fun _ => Tr α) .e (fun _ l _ _ _ => l) t
noncomputable def rt (t : Tr α) : Tr α := Tr.rec (motive := fun _ => Tr α) .e (fun _ _ r _ _ => r) t
noncomputable def setA (f : Nat) : Tr α → Nat → α → Tr α := Nat.rec (motive := fun _ => Tr α → Nat → α → Tr α) (fun t _ _ => t)
  (fun _ ih t => Tr.rec (motive := fun _ => Nat → α → Tr α)
    (fun i x => Bool.rec (motive := fun _ => Tr α) (Bool.rec (motive := fun _ => Tr α) (.n none .e (ih .e (Nat.div (Nat.sub i 1) 2) x)) (.n none (ih .e (Nat.div (Nat.sub i 1) 2) x) .e) (Nat.beq (Nat.mod i 2) 1)) (.n (some x) .e .e) (Nat.beq i 0))
    (fun v l r _ _ i x => Bool.rec (motive := fun _ => Tr α) (Bool.rec (motive := fun _ => Tr α) (.n v l (ih r (Nat.div (Nat.sub i 1) 2) x)) (.n v (ih l (Nat.div (Nat.sub i 1) 2) x) r) (Nat.beq (Nat.mod i 2) 1)) (.n (some x) l r) (Nat.beq i 0)) t) f
--IMPL Go.Ev.Tr.getC
noncomputable def get (t : Tr α) : Nat → Option α := Tr.rec (motive := fun _ => Nat → Option α) (fun _ => none)
  (fun v _ _ l r i => Bool.rec (motive := fun _ => Option α) (Bool.rec (motive := fun _ => Option α) (r (Nat.div (Nat.sub i 1) 2)) (l (Nat.div (Nat.sub i 1) 2)) (Nat.beq (Nat.mod i 2) 1)) v (Nat.beq i 0)) t
--IMPL Go.Ev.Tr.setW
noncomputable def set (t : Tr α) (i : Nat) (x : α) : Tr α := Bool.rec (motive := fun _ => Tr α) (setA (i + 1) t i x) (setA 16 t i x) (Nat.blt i 65535)

theorem get_e (i : Nat) : get (.e : Tr α) i = none := rfl
theorem get_n (v : Option α) (l r : Tr α) (i : Nat) : get (.n v l r) i = if i = 0 then v else if i % 2 = 1 then get l ((i - 1) / 2) else get r ((i - 1) / 2) := by
  show Bool.rec (motive := fun _ => Option α) (Bool.rec (motive := fun _ => Option α) (get r (Nat.div (Nat.sub i 1) 2)) (get l (Nat.div (Nat.sub i 1) 2)) (Nat.beq (Nat.mod i 2) 1)) v (Nat.beq i 0) = _
  by_cases h : i = 0
  · subst h; rfl
  · have h1 : Nat.beq i 0 = false := by
      cases hb : Nat.beq i 0 with
      | false => rfl
      | true => exact absurd (Nat.eq_of_beq_eq_true hb) h
    rw [h1, if_neg h]
    by_cases h2 : i % 2 = 1
    · have h3 : Nat.beq (Nat.mod i 2) 1 = true := by show Nat.beq (i % 2) 1 = true; rw [h2]; rfl
      rw [h3, if_pos h2]; rfl
    · have h3 : Nat.beq (Nat.mod i 2) 1 = false := by
        cases hb : Nat.beq (Nat.mod i 2) 1 with
        | false => rfl
        | true => exact absurd (Nat.eq_of_beq_eq_true hb) h2
      rw [h3, if_neg h2]; rfl
theorem get_vl (t : Tr α) (i : Nat) : get t i = if i = 0 then vl t else if i % 2 = 1 then get (lf t) ((i - 1) / 2) else get (rt t) ((i - 1) / 2) := by
  cases t with
  | e => rw [get_e]; simp [vl, lf, rt, get_e]
  | n v l r => exact get_n v l r i
theorem setA_eq (f : Nat) (t : Tr α) (i : Nat) (x : α) : setA (f + 1) t i x = if i = 0 then .n (some x) (lf t) (rt t) else if i % 2 = 1 then .n (vl t) (setA f (lf t) ((i - 1) / 2) x) (rt t) else .n (vl t) (lf t) (setA f (rt t) ((i - 1) / 2) x) := by
  have e0 : setA (f + 1) t i x = Bool.rec (motive := fun _ => Tr α) (Bool.rec (motive := fun _ => Tr α) (.n (vl t) (lf t) (setA f (rt t) (Nat.div (Nat.sub i 1) 2) x)) (.n (vl t) (setA f (lf t) (Nat.div (Nat.sub i 1) 2) x) (rt t)) (Nat.beq (Nat.mod i 2) 1)) (.n (some x) (lf t) (rt t)) (Nat.beq i 0) := by
    cases t <;> rfl
  rw [e0]
  by_cases h : i = 0
  · subst h; rfl
  · have h1 : Nat.beq i 0 = false := by
      cases hb : Nat.beq i 0 with
      | false => rfl
      | true => exact absurd (Nat.eq_of_beq_eq_true hb) h
    rw [h1, if_neg h]
    by_cases h2 : i % 2 = 1
    · have h3 : Nat.beq (Nat.mod i 2) 1 = true := by show Nat.beq (i % 2) 1 = true; rw [h2]; rfl
      rw [h3, if_pos h2]; rfl
    · have h3 : Nat.beq (Nat.mod i 2) 1 = false := by
        cases hb : Nat.beq (Nat.mod i 2) 1 with
        | false => rfl
        | true => exact absurd (Nat.eq_of_beq_eq_true hb) h2
      rw [h3, if_neg h2]; rfl
theorem get_setA : ∀ (f : Nat) (t : Tr α) (i j : Nat) (x : α), i + 1 < 2 ^ f → get (setA f t i x) j = if j = i then some x else get t j
  | 0, _, _, _, _, h => absurd h (by simp)
  | f + 1, t, i, j, x, h => by
    have ih := fun t i (h : i + 1 < 2 ^ f) => fun j => get_setA f t i j x h
    rw [Nat.pow_succ] at h
    rw [setA_eq]
    by_cases hi : i = 0
    · subst hi
      rw [if_pos rfl, get_n, get_vl t j]
      by_cases hj : j = 0
      · rw [if_pos hj, if_pos hj]
      · rw [if_neg hj, if_neg hj, if_neg hj]
    · rw [if_neg hi]
      have hh : (i - 1) / 2 + 1 < 2 ^ f := by omega
      by_cases h2 : i % 2 = 1
      · rw [if_pos h2, get_n, get_vl t j]
        by_cases hj : j = 0
        · rw [if_pos hj, if_pos hj, if_neg (by omega)]
        · rw [if_neg hj, if_neg hj]
          by_cases hj2 : j % 2 = 1
          · rw [if_pos hj2, if_pos hj2, ih _ _ hh]
            by_cases e : j = i
            · rw [if_pos e, if_pos (by omega)]
            · rw [if_neg e, if_neg (by omega)]
          · rw [if_neg hj2, if_neg hj2, if_neg (by omega)]
      · rw [if_neg h2, get_n, get_vl t j]
        by_cases hj : j = 0
        · rw [if_pos hj, if_pos hj, if_neg (by omega)]
        · rw [if_neg hj, if_neg hj]
          by_cases hj2 : j % 2 = 1
          · rw [if_pos hj2, if_pos hj2, if_neg (by omega)]
          · rw [if_neg hj2, if_neg hj2, ih _ _ hh]
            by_cases e : j = i
            · rw [if_pos e, if_pos (by omega)]
            · rw [if_neg e, if_neg (by omega)]
theorem get_set (t : Tr α) (i j : Nat) (x : α) : get (set t i x) j = if j = i then some x else get t j := by
  unfold set
  cases hb : Nat.blt i 65535 with
  | true => exact get_setA 16 t i j x (by have : i < 65535 := by simpa using hb
                                          show i + 1 < 65536; omega)
  | false => exact get_setA (i + 1) t i j x (Nat.lt_two_pow_self)
theorem get_set_eq (t : Tr α) (i : Nat) (x : α) : get (set t i x) i = some x := by rw [get_set, if_pos rfl]
theorem get_set_ne (t : Tr α) {i j : Nat} (x : α) (h : j ≠ i) : get (set t i x) j = get t j := by rw [get_set, if_neg h]

/-- A row of things, from a number on. -/
def fill (t : Tr α) : Nat → List α → Tr α
  | _, [] => t
  | i, x :: xs => fill (set t i x) (i + 1) xs
theorem get_fill : ∀ (xs : List α) (t : Tr α) (i j : Nat), get (fill t i xs) j = if i ≤ j ∧ j < i + xs.length then xs[j - i]? else get t j
  | [], t, i, j => by simp only [fill, List.length_nil]; rw [if_neg (by omega)]
  | x :: xs, t, i, j => by
    simp only [fill]
    rw [get_fill xs _ (i + 1) j, get_set]
    simp only [List.length_cons]
    by_cases e : j = i
    · subst e
      rw [if_neg (by omega), if_pos rfl, if_pos (by omega)]; simp
    · by_cases h : i + 1 ≤ j ∧ j < i + 1 + xs.length
      · rw [if_pos h, if_pos (by omega)]
        have : j - i = (j - (i + 1)) + 1 := by omega
        rw [this, List.getElem?_cons_succ]
      · rw [if_neg h, if_neg e, if_neg (by omega)]
end Tr

/-! ### Heaps -/
inductive CObj where
  | cells (n : Nat) (d : CV) (t : Tr CV) (T : TypeId)
  | map (es : List (CV × CV × Nat)) (clock : Nat)
  | loop (e : Tr CV) (ps : Array Tmp) (asg body : Code) (plan : Plan) (st : Nat) (pend : Option Code)
  | iter (k ck : Nat)
  | gone

def atC (d : CV) (t : Tr CV) (i : Nat) : CV := match t.get i with
  | some x => x
  | none => d

/-- n blocks; of those before m the ones that were written are in d (since the mark was set). -/
structure CH where
  n : Nat
  t : Tr CObj
  m : Nat
  d : List Nat

def liveO : Option CObj → Bool
  | some (.cells _ _ _ _) => true
  | some (.map _ _) => true
  | some (.loop _ _ _ _ _ _ _) => true
  | some (.iter _ _) => true
  | _ => false
def live (h : CH) (k : Nat) : Bool := liveO (h.t.get k)

/-- The entries of a map. -/
def MR (r : List RB) : List (CV × CV × Nat) → List MapEntry → Prop
  | [], ms => ms = []
  | (k, v, b) :: es, ms => ∃ (m : MapEntry) (us : List MapEntry), ms = m :: us ∧ VR r k m.key ∧ VR r v m.val ∧ m.born = b ∧ MR r es us
theorem MR.mono {r r' : List RB} (h : Pre r r') : ∀ (es : List (CV × CV × Nat)) (ms : List MapEntry), MR r es ms → MR r' es ms
  | [], _, e => e
  | (k, v, b) :: es, _, e => by
    simp only [MR] at e ⊢
    obtain ⟨m, us, e, h1, h2, h3, h4⟩ := e
    exact ⟨m, us, e, VR.mono h _ _ h1, VR.mono h _ _ h2, h3, MR.mono h es us h4⟩

def szT (P : Program) (T : TypeId) : Nat := match szOf P T with
  | some s => s
  | none => 0

def getE (e : Tr CV) (t : Nat) : CV := match e.get t with
  | some x => x
  | none => und
def ER (r : List RB) (e : Tr CV) (ρ : Env) : Prop := ∀ t, VR r (getE e t) (ρ t)
theorem ER.mono {r r' : List RB} (h : Pre r r') {e : Tr CV} {ρ : Env} (k : ER r e ρ) : ER r' e ρ := fun t => VR.mono h _ _ (k t)
/-- States of a loop over a function. -/
def stOf : Nat → LoopState
  | 0 => .ready
  | 1 => .busy
  | 2 => .done
  | _ => .exhausted
/-- What a block of the machine stands for. -/
def BR (P : Program) (r : List RB) (b : RB) (H : Heap) : CObj → Prop
  | .cells n d t T => ∃ c : Array Value, H b.blk = some (.cells c T (0, 0)) ∧ b.base + n + b.ext * szT P T ≤ c.size ∧ ∀ i, i < n → ∃ v, c[b.base + i]? = some v ∧ VR r (atC d t i) v
  | .map es ck => ∃ ms : List MapEntry, H b.blk = some (.map ⟨ms⟩ ck) ∧ MR r es ms
  | .loop e ps asg body plan st pend => ∃ (rec : Loop) (ρ : Env), H b.blk = some (.loop rec) ∧ rec.state = stOf st ∧ rec.pending = pend ∧ rec.params = ps ∧ ER r e ρ ∧
      ∀ (vs : List Value) (H1 : Heap) (K : Value → Heap → Prop), vs.length = ps.size → RoundC b.blk (fun ρ H Q => CodeW P plan asg ρ H Q) (fun ρ H Q => CodeW P plan body ρ H Q) (bindR ps.toList vs ρ) H1 K → RndW P b.blk rec.fn (bindT ps.toList vs rec.tmps) rec.assign rec.body H1 K
  | .iter k ck => b.base = 0 ∧ ∃ m : RB, r[k]? = some m ∧ H b.blk = some (.mapIter (some m.blk) ck #[] ck)
  | .gone => True

theorem BR.mono {P : Program} {r r' : List RB} {b : RB} {H : Heap} (hp : Pre r r') : ∀ (o : CObj), BR P r b H o → BR P r' b H o
  | .cells .., ⟨c, h1, h2, h3⟩ => ⟨c, h1, h2, fun i hi => by obtain ⟨v, hv, e⟩ := h3 i hi; exact ⟨v, hv, VR.mono hp _ _ e⟩⟩
  | .map .., ⟨ms, h1, h2⟩ => ⟨ms, h1, MR.mono hp _ _ h2⟩
  | .loop .., ⟨rec, ρ, h1, h2, h3, h4, h5, h6⟩ => ⟨rec, ρ, h1, h2, h3, h4, h5.mono hp, h6⟩
  | .iter .., ⟨h0, m, h1, h2⟩ => ⟨h0, m, hp _ _ h1, h2⟩
  | .gone, _ => trivial
theorem BR.same {P : Program} {r : List RB} {b : RB} {H H' : Heap} (e : H' b.blk = H b.blk) : ∀ (o : CObj), BR P r b H o → BR P r b H' o
  | .cells .., ⟨c, h1, h2, h3⟩ => ⟨c, by rw [e]; exact h1, h2, h3⟩
  | .map .., ⟨ms, h1, h2⟩ => ⟨ms, by rw [e]; exact h1, h2⟩
  | .loop .., ⟨rec, ρ, h1, h2⟩ => ⟨rec, ρ, by rw [e]; exact h1, h2⟩
  | .iter .., ⟨h0, m, h1, h2⟩ => ⟨h0, m, h1, by rw [e]; exact h2⟩
  | .gone, _ => trivial

theorem BR.same' {P : Program} {r : List RB} {b : RB} {H H' : Heap} {o : CObj} (e : o ≠ .gone → H' b.blk = H b.blk) (h : BR P r b H o) : BR P r b H' o := by
  cases o with
  | gone => trivial
  | _ => exact BR.same (e (by simp)) _ h

structure Rl (P : Program) (H0 : Heap) (r : List RB) (h : CH) (H : Heap) : Prop where
  len : r.length = h.n
  top : ∀ k, h.n ≤ k → h.t.get k = none
  blk : ∀ (k : Nat) (b : RB) (o : CObj), r[k]? = some b → h.t.get k = some o → BR P r b H o
  inj : ∀ (k k' : Nat) (b b' : RB), r[k]? = some b → r[k']? = some b' → live h k = true → live h k' = true → b.blk = b'.blk → k = k'
  new : ∀ (k : Nat) (b : RB), r[k]? = some b → H0 b.blk = none
  fr : ∀ b, H0 b ≠ none → H b = H0 b
  good : Sym.good H0

/-- How a run goes on from what a heap stands for. -/
structure Ex (r : List RB) (h : CH) (H : Heap) (r' : List RB) (h' : CH) (H' : Heap) : Prop where
  pre : Pre r r'
  m : h'.m = h.m
  d : ∀ k, k ∈ h.d → k ∈ h'.d
  same : ∀ (k : Nat) (b : RB), r[k]? = some b → live h k = true → k < h.m → k ∉ h'.d → H' b.blk = H b.blk ∧ live h' k = true
theorem Ex.refl (r : List RB) (h : CH) (H : Heap) : Ex r h H r h H := ⟨Pre.refl _, rfl, fun _ h => h, fun _ _ _ hs _ _ => ⟨rfl, hs⟩⟩
theorem Ex.trans {r1 r2 r3 : List RB} {h1 h2 h3 : CH} {H1 H2 H3 : Heap} (a : Ex r1 h1 H1 r2 h2 H2) (b : Ex r2 h2 H2 r3 h3 H3) : Ex r1 h1 H1 r3 h3 H3 :=
  ⟨a.pre.trans b.pre, b.m.trans a.m, fun k hk => b.d k (a.d k hk), fun k x hk hs hm hd => by
    obtain ⟨e1, s1⟩ := a.same k x hk hs hm fun h => hd (b.d k h)
    obtain ⟨e2, s2⟩ := b.same k x (a.pre k x hk) s1 (by rw [a.m]; exact hm) hd
    exact ⟨e2.trans e1, s2⟩⟩

/-- What comes of a step: a value, and a heap. -/
def Out (P : Program) (H0 : Heap) (r : List RB) (h : CH) (H : Heap) (y : CV) (h' : CH) (K : Value → Heap → Prop) : Prop :=
  ∀ (r' : List RB) (H' : Heap) (v : Value), Ex r h H r' h' H' → Rl P H0 r' h' H' → VR r' y v → K v H'

/-! ### Reading a block -/
def look (h : CH) (k : Nat) : Option (Nat × CV × Tr CV × TypeId) := match h.t.get k with
  | some (.cells n d t T) => some (n, d, t, T)
  | _ => none
def rd (h : CH) (k o : Nat) : Option CV := match h.t.get k with
  | some (.cells n d t _) => match Nat.blt o n with
    | true => some (atC d t o)
    | false => none
  | _ => none
theorem Rl.cells {P : Program} {H0 : Heap} {r : List RB} {h : CH} {H : Heap} (R : Rl P H0 r h H) {k : Nat} {n : Nat} {d : CV} {t : Tr CV} {T : Nat} (hk : h.t.get k = some (.cells n d t T)) :
    ∃ b c, r[k]? = some b ∧ H b.blk = some (.cells c T (0, 0)) ∧ b.base + n + b.ext * szT P T ≤ c.size ∧ ∀ i, i < n → ∃ v, c[b.base + i]? = some v ∧ VR r (atC d t i) v := by
  have hlt : k < r.length := by
    rw [R.len]
    refine Nat.lt_of_not_le fun hle => ?_
    rw [R.top k hle] at hk; cases hk
  obtain ⟨c, h1, h2, h3⟩ := R.blk k _ _ (List.getElem?_eq_getElem hlt) hk
  exact ⟨_, c, List.getElem?_eq_getElem hlt, h1, h2, h3⟩
theorem Rl.rd {P : Program} {H0 : Heap} {r : List RB} {h : CH} {H : Heap} (R : Rl P H0 r h H) {k o : Nat} {x : CV} (hx : rd h k o = some x) {b : RB} (hb : r[k]? = some b) :
    ∃ v, H.cell ⟨b.blk, b.base + o, none⟩ = some v ∧ VR r x v := by
  unfold Ev.rd at hx
  split at hx
  · rename_i n d t T hk
    split at hx
    · rename_i ho
      cases hx
      obtain ⟨b', c, hb', h1, h2, h3⟩ := R.cells hk
      rw [hb] at hb'; cases hb'
      obtain ⟨v, hv, e⟩ := h3 o (by simpa using ho)
      exact ⟨v, by simp only [Heap.cell, h1]; exact hv, e⟩
    · cases hx
  · cases hx

end Go.Ev
