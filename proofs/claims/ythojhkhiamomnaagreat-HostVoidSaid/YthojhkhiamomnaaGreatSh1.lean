/-
  A heap-only weakest-precondition reading of the model's operations, and its soundness (no program in sight).
-/
import Derived.Calls
import Derived.Orders
import Derived.KernelRfl
import Derived.LoopN
import Derived.WalkKit
import Derived.OrdersIn
import Derived.RangeFuncLeaves
import Derived.RangeFuncCalls
namespace Go.Sh

/-- Blocks by their numbers; from some number on there is none. -/
structure Heap where
  map : Nat → Option Obj
  fin : ∃ N, ∀ n, N ≤ n → map n = none

instance : CoeFun Heap (fun _ => Nat → Option Obj) := ⟨Heap.map⟩

theorem Heap.ext {H H' : Heap} (h : ∀ b, H b = H' b) : H = H' := by
  obtain ⟨m, f⟩ := H
  obtain ⟨m', f'⟩ := H'
  have : m = m' := funext h
  subst this; rfl

def hp (w : World) : Heap := ⟨fun b => w.heap[b]?, w.heap.size, fun n h => by simp [h]⟩

namespace Heap
def cell (H : Heap) (a : Addr) : Option Value :=
  match H a.block with
  | some (.cells c _ _) => if a.spot.isSome then none else c[a.off]?
  | _ => none
def shape (H : Heap) (r : Nat) : Option (TypeId × Nat) :=
  match H r with
  | some (.cells c elem _) => some (elem, c.size)
  | _ => none
def frozen (H : Heap) (a : Addr) : Bool :=
  match H a.block with
  | some (.cells _ _ (lo, hi)) => lo ≤ a.off && a.off < hi
  | _ => false
def upd (H : Heap) (n : Nat) (o : Obj) : Heap := ⟨fun b => if b = n then some o else H b, by
  obtain ⟨N, h⟩ := H.fin
  refine ⟨max N (n + 1), fun k hk => ?_⟩
  rw [if_neg (by omega)]
  exact h k (by omega)⟩
def setO (a : Addr) (v : Value) : Obj → Obj
  | .cells c e f => .cells (if a.spot.isSome then c else c.setIfInBounds a.off v) e f
  | o => o
def frzO (a : Addr) (n : Nat) : Obj → Obj
  | .cells c elem (lo, hi) => .cells c elem (if lo == hi then (a.off, a.off + n) else (min lo a.off, max hi (a.off + n)))
  | o => o
def alter (H : Heap) (n : Nat) (f : Obj → Obj) : Heap := ⟨fun b => if b = n then (H b).map f else H b, by
  obtain ⟨N, h⟩ := H.fin
  refine ⟨N, fun k hk => ?_⟩
  rw [h k hk]
  split <;> rfl⟩
def frz (H : Heap) (a : Addr) (n : Nat) : Heap := if n = 0 then H else H.alter a.block (frzO a n)
def set (H : Heap) (a : Addr) (v : Value) : Heap := H.alter a.block (setO a v)
end Heap

/-- The rest of the world is as it was. -/
structure Rest (w w' : World) : Prop where
  os : w'.os = w.os
  tape : w'.tape = w.tape
  output : w'.output = w.output
  dfr : ∀ (b : Nat) (ds : Option (List Deferred)), w.heap[b]? = some (Obj.deferred ds) → w'.heap[b]? = some (Obj.deferred ds)
  size : w.heap.size ≤ w'.heap.size

theorem Rest.refl (w : World) : Rest w w := ⟨rfl, rfl, rfl, fun _ _ h => h, Nat.le_refl _⟩
theorem Rest.trans {a b c : World} (h : Rest a b) (k : Rest b c) : Rest a c :=
  ⟨k.os.trans h.os, k.tape.trans h.tape, k.output.trans h.output, fun b ds hb => k.dfr b ds (h.dfr b ds hb), Nat.le_trans h.size k.size⟩
/-- Kinds of blocks. -/
def isC : Obj → Bool
  | .cells .. => true
  | _ => false
def isD : Obj → Bool
  | .deferred _ => true
  | _ => false

theorem hp_cell (w : World) (a : Addr) : (hp w).cell a = w.cell? a := rfl
theorem hp_shape (w : World) (r : Nat) : (hp w).shape r = w.shape? r := rfl
theorem hp_frozen (w : World) (a : Addr) : (hp w).frozen a = w.frozen? a := rfl

theorem hp_setCell (w : World) (a : Addr) (v : Value) : hp (w.setCell a v) = (hp w).set a v := by
  refine Heap.ext fun b => ?_
  simp only [hp, World.setCell, Heap.set, Heap.alter, Array.getElem?_modify]
  by_cases h : a.block = b
  · subst h
    simp only [if_true]
    cases w.heap[a.block]? with
    | none => rfl
    | some o => cases o <;> rfl
  · rw [if_neg h, if_neg (fun e => h e.symm)]

theorem hp_freeze (w : World) (a : Addr) (n : Nat) : hp (w.freeze a n) = (hp w).frz a n := by
  unfold World.freeze Heap.frz
  by_cases hn : n = 0
  · rw [if_pos hn, if_pos hn]
  rw [if_neg hn, if_neg hn]
  refine Heap.ext fun b => ?_
  simp only [hp, Heap.alter, Array.getElem?_modify]
  by_cases h : a.block = b
  · subst h
    simp only [if_true]
    cases w.heap[a.block]? with
    | none => rfl
    | some o => cases o <;> rfl
  · rw [if_neg h, if_neg (fun e => h e.symm)]

theorem rest_freeze (w : World) (a : Addr) (n : Nat) : Rest w (w.freeze a n) := by
  refine ⟨by unfold World.freeze; split <;> rfl, by unfold World.freeze; split <;> rfl, by unfold World.freeze; split <;> rfl, fun b ds hb => ?_, by unfold World.freeze; split <;> simp⟩
  have h : (hp (w.freeze a n)) b = some (Obj.deferred ds) := by
    rw [hp_freeze]
    have hb' : (hp w) b = some (Obj.deferred ds) := hb
    unfold Heap.frz
    split
    · exact hb'
    · simp only [Heap.alter]
      split
      · rw [hb']; rfl
      · exact hb'
  exact h
theorem rest_setCell (w : World) (a : Addr) (v : Value) : Rest w (w.setCell a v) := by
  refine ⟨rfl, rfl, rfl, fun b ds hb => ?_, by simp [World.setCell]⟩
  have h : (hp (w.setCell a v)) b = some (Obj.deferred ds) := by
    rw [hp_setCell]
    have hb' : (hp w) b = some (Obj.deferred ds) := hb
    simp only [Heap.set, Heap.alter]
    split
    · rw [hb']; rfl
    · exact hb'
  exact h
theorem rest_push (w : World) (o : Obj) : Rest w { w with heap := w.heap.push o } := by
  refine ⟨rfl, rfl, rfl, fun b ds hb => ?_, by simp⟩
  have hlt := (Array.getElem?_eq_some_iff.1 hb).1
  show (w.heap.push o)[b]? = _
  rw [Array.getElem?_push, if_neg (by omega)]
  exact hb
theorem hp_setObj (w : World) (r : Nat) (o o0 : Obj) (h : w.heap[r]? = some o0) : hp { w with heap := w.heap.setIfInBounds r o } = (hp w).upd r o := by
  have hlt := (Array.getElem?_eq_some_iff.1 h).1
  refine Heap.ext fun b => ?_
  simp only [hp, Heap.upd, Array.getElem?_setIfInBounds]
  by_cases e : r = b
  · subst e; simp [hlt]
  · rw [if_neg e, if_neg (fun e' => e e'.symm)]
theorem rest_setObj (w : World) (r : Nat) (o o0 : Obj) (h : w.heap[r]? = some o0) (hd : isD o0 = false) : Rest w { w with heap := w.heap.setIfInBounds r o } := by
  refine ⟨rfl, rfl, rfl, fun b ds hb => ?_, by simp⟩
  show (w.heap.setIfInBounds r o)[b]? = _
  rw [Array.getElem?_setIfInBounds, if_neg (fun e => by subst e; rw [h] at hb; cases hb; cases hd)]
  exact hb

theorem hp_push (w : World) (o : Obj) : hp { w with heap := w.heap.push o } = (hp w).upd w.heap.size o := by
  refine Heap.ext fun b => ?_
  simp only [hp, Heap.upd, Array.getElem?_push]

theorem hp_size (w : World) : hp w w.heap.size = none := by simp [hp]

def plainC : Value → Bool
  | .agg _ | .tuple _ => false
  | _ => true

/-- What a program of memory operations must meet, said of the heap alone: for every new block's number that is free, for every answer of the tape. -/
def SemW (P : Program) {α : Type} : Sem α → Heap → (α → Heap → Prop) → Prop
  | .pure a, H, K => K a H
  | .load _ a k, H, K => ∃ v, H.cell a = some v ∧ SemW P (k v) H K
  | .store _ a v k, H, K => plainC v = true ∧ (∃ u, H.cell a = some u) ∧ H.frozen a = false ∧ SemW P k (H.set a v) K
  | .new o k, H, K => ∀ n, H n = none → SemW P (k n) (H.upd n o) K
  | .shape r k, H, K => (∃ o, H r = some o) ∧ SemW P (k (H.shape r)) H K
  | .freeze a n k, H, K => (∃ o, H a.block = some o) ∧ SemW P k (H.frz a n) K
  | .frozen a k, H, K => (∃ o, H a.block = some o) ∧ SemW P (k (H.frozen a)) H K
  | .getObj r k, H, K => ∃ o, H r = some o ∧ isC o = false ∧ SemW P (k o) H K
  | .setObj r o k, H, K => (∃ o0, H r = some o0 ∧ isC o0 = false ∧ isD o0 = false) ∧ SemW P k (H.upd r o) K
  | .choose q k, H, K => (q.forced = true → SemW P (k 0) H K) ∧ (q.forced = false → ∀ t, SemW P (k (q.cut t)) H K)
  | .sys _ _, _, _ => False
  | .program k, H, K => SemW P (k P) H K
  | .mark _ k, H, K => SemW P k H K
  | .halt _, _, _ => False

theorem SemW.sound {P : Program} {α : Type} (s : Sem α) : ∀ (w : World) (K : α → Heap → Prop), SemW P s (hp w) K →
    ∃ x w', s.run P w = .ok x w' ∧ K x (hp w') ∧ Rest w w' := by
  induction s with
  | pure a => exact fun w K h => ⟨a, w, rfl, h, .refl w⟩
  | load m a k ih =>
    intro w K h
    obtain ⟨v, hv, h⟩ := h
    rw [hp_cell] at hv
    obtain ⟨x, w', hr, hk, hrest⟩ := ih v w K h
    exact ⟨x, w', by simp only [Sem.run, hv]; exact hr, hk, hrest⟩
  | store m a v k ih =>
    intro w K h
    obtain ⟨hp', ⟨u, hu⟩, hf, h⟩ := h
    rw [hp_cell] at hu
    rw [hp_frozen] at hf
    rw [← hp_setCell] at h
    obtain ⟨x, w', hr, hk, hrest⟩ := ih (w.setCell a v) K h
    refine ⟨x, w', ?_, hk, (rest_setCell w a v).trans hrest⟩
    cases v <;> first | (simp [plainC] at hp'; done) | (simp only [Sem.run, hu, hf]; exact hr)
  | new o k ih =>
    intro w K h
    have h1 := h w.heap.size (hp_size w)
    rw [← hp_push] at h1
    obtain ⟨x, w', hr, hk, hrest⟩ := ih w.heap.size _ K h1
    exact ⟨x, w', by simp only [Sem.run]; exact hr, hk, (rest_push w o).trans hrest⟩
  | shape r k ih =>
    intro w K ⟨_, h⟩
    obtain ⟨x, w', hr, hk, hrest⟩ := ih _ w K h
    exact ⟨x, w', by simp only [Sem.run]; exact hr, hk, hrest⟩
  | freeze a n k ih =>
    intro w K ⟨_, h⟩
    rw [← hp_freeze] at h
    obtain ⟨x, w', hr, hk, hrest⟩ := ih _ K h
    exact ⟨x, w', by simp only [Sem.run]; exact hr, hk, (rest_freeze w a n).trans hrest⟩
  | frozen a k ih =>
    intro w K ⟨_, h⟩
    obtain ⟨x, w', hr, hk, hrest⟩ := ih _ w K h
    exact ⟨x, w', by simp only [Sem.run]; exact hr, hk, hrest⟩
  | getObj r k ih =>
    intro w K h
    obtain ⟨o, ho, hc, h⟩ := h
    obtain ⟨x, w', hr, hk, hrest⟩ := ih o w K h
    have ho : w.heap[r]? = some o := ho
    refine ⟨x, w', ?_, hk, hrest⟩
    simp only [Sem.run, ho]
    cases o <;> first | (cases hc; done) | exact hr
  | setObj r o k ih =>
    intro w K h
    obtain ⟨⟨o0, ho, hc, hd⟩, h⟩ := h
    have ho : w.heap[r]? = some o0 := ho
    rw [← hp_setObj w r o o0 ho] at h
    obtain ⟨x, w', hr, hk, hrest⟩ := ih _ K h
    refine ⟨x, w', ?_, hk, (rest_setObj w r o o0 ho hd).trans hrest⟩
    simp only [Sem.run, ho]
    cases o0 <;> first | (cases hc; done) | exact hr
  | choose q k ih =>
    intro w K h
    cases hq : q.forced with
    | true =>
      obtain ⟨x, w', hr, hk, hrest⟩ := ih _ w K (h.1 hq)
      exact ⟨x, w', by simp only [Sem.run, hq]; exact hr, hk, hrest⟩
    | false =>
      obtain ⟨x, w', hr, hk, hrest⟩ := ih _ { w with drawn := w.drawn + 1 } K (h.2 hq (w.tape w.drawn q))
      exact ⟨x, w', by simp only [Sem.run, hq]; exact hr, hk, ⟨hrest.os, hrest.tape, hrest.output, hrest.dfr, hrest.size⟩⟩
  | sys c k ih => intro w K h; exact h.elim
  | program k ih =>
    intro w K h
    obtain ⟨x, w', hr, hk, hrest⟩ := ih _ w K h
    exact ⟨x, w', by simp only [Sem.run]; exact hr, hk, hrest⟩
  | mark m k ih =>
    intro w K h
    obtain ⟨x, w', hr, hk, hrest⟩ := ih w K h
    exact ⟨x, w', by simp only [Sem.run]; exact hr, hk, hrest⟩
  | halt h => intro w K h; exact h.elim

theorem SemW.mono {P : Program} {α : Type} (s : Sem α) : ∀ (H : Heap) (K K' : α → Heap → Prop), (∀ a H, K a H → K' a H) → SemW P s H K → SemW P s H K' := by
  induction s with
  | pure a => exact fun H K K' hk h => hk _ _ h
  | load m a k ih => exact fun H K K' hk ⟨v, hv, h⟩ => ⟨v, hv, ih v H K K' hk h⟩
  | store m a v k ih => exact fun H K K' hk ⟨h1, h2, h3, h⟩ => ⟨h1, h2, h3, ih _ K K' hk h⟩
  | new o k ih => exact fun H K K' hk h n hn => ih n _ K K' hk (h n hn)
  | shape r k ih => exact fun H K K' hk ⟨h0, h⟩ => ⟨h0, ih _ H K K' hk h⟩
  | freeze a n k ih => exact fun H K K' hk ⟨h0, h⟩ => ⟨h0, ih _ K K' hk h⟩
  | frozen a k ih => exact fun H K K' hk ⟨h0, h⟩ => ⟨h0, ih _ H K K' hk h⟩
  | getObj r k ih => exact fun H K K' hk ⟨o, h1, h2, h⟩ => ⟨o, h1, h2, ih o H K K' hk h⟩
  | setObj r o k ih => exact fun H K K' hk ⟨h1, h⟩ => ⟨h1, ih _ K K' hk h⟩
  | choose q k ih => exact fun H K K' hk h => ⟨fun hq => ih _ H K K' hk (h.1 hq), fun hq t => ih _ H K K' hk (h.2 hq t)⟩
  | sys c k ih => exact fun H K K' hk h => h.elim
  | program k ih => exact fun H K K' hk h => ih _ H K K' hk h
  | mark m k ih => exact fun H K K' hk h => ih H K K' hk h
  | halt h => exact fun H K K' hk h => h.elim

theorem SemW.bind {P : Program} {α β : Type} (s : Sem α) (f : α → Sem β) : ∀ (H : Heap) (K : β → Heap → Prop),
    SemW P (s >>= f) H K ↔ SemW P s H (fun a H' => SemW P (f a) H' K) := by
  induction s with
  | pure a => exact fun H K => Iff.rfl
  | load m a k ih => exact fun H K => ⟨fun ⟨v, hv, h⟩ => ⟨v, hv, (ih v H K).1 h⟩, fun ⟨v, hv, h⟩ => ⟨v, hv, (ih v H K).2 h⟩⟩
  | store m a v k ih => exact fun H K => ⟨fun ⟨h1, h2, h3, h⟩ => ⟨h1, h2, h3, (ih _ K).1 h⟩, fun ⟨h1, h2, h3, h⟩ => ⟨h1, h2, h3, (ih _ K).2 h⟩⟩
  | new o k ih => exact fun H K => ⟨fun h n hn => (ih n _ K).1 (h n hn), fun h n hn => (ih n _ K).2 (h n hn)⟩
  | shape r k ih => exact fun H K => ⟨fun ⟨h0, h⟩ => ⟨h0, (ih _ H K).1 h⟩, fun ⟨h0, h⟩ => ⟨h0, (ih _ H K).2 h⟩⟩
  | freeze a n k ih => exact fun H K => ⟨fun ⟨h0, h⟩ => ⟨h0, (ih _ K).1 h⟩, fun ⟨h0, h⟩ => ⟨h0, (ih _ K).2 h⟩⟩
  | frozen a k ih => exact fun H K => ⟨fun ⟨h0, h⟩ => ⟨h0, (ih _ H K).1 h⟩, fun ⟨h0, h⟩ => ⟨h0, (ih _ H K).2 h⟩⟩
  | getObj r k ih => exact fun H K => ⟨fun ⟨o, h1, h2, h⟩ => ⟨o, h1, h2, (ih o H K).1 h⟩, fun ⟨o, h1, h2, h⟩ => ⟨o, h1, h2, (ih o H K).2 h⟩⟩
  | setObj r o k ih => exact fun H K => ⟨fun ⟨h1, h⟩ => ⟨h1, (ih _ K).1 h⟩, fun ⟨h1, h⟩ => ⟨h1, (ih _ K).2 h⟩⟩
  | choose q k ih => exact fun H K => ⟨fun h => ⟨fun hq => (ih _ H K).1 (h.1 hq), fun hq t => (ih _ H K).1 (h.2 hq t)⟩, fun h => ⟨fun hq => (ih _ H K).2 (h.1 hq), fun hq t => (ih _ H K).2 (h.2 hq t)⟩⟩
  | sys c k ih => exact fun H K => Iff.rfl
  | program k ih => exact fun H K => ih _ H K
  | mark m k ih => exact fun H K => ih H K
  | halt h => exact fun H K => Iff.rfl

/-- A call of it enters a body. -/
def Enters (P : Program) (f : FuncId) : Prop := ∃ fn, P.funcs[f]? = some fn ∧ (fn.name == "runtime.NumGoroutine") = false ∧ fn.body.isNone = false

/-- A call, said of the heap alone: it returns, and R holds of the value and of the heap behind it. -/
def FnW (P : Program) (f : FuncId) (args : Array Value) (H : Heap) (R : Value → Heap → Prop) : Prop :=
  Enters P f ∧ ∀ w, hp w = H → Calls P f args w fun e w' => ∃ v, e = .returned v ∧ R v (hp w') ∧ Rest w w'

theorem FnW.mono {P : Program} {f : FuncId} {args : Array Value} {H : Heap} {R R' : Value → Heap → Prop} (h : FnW P f args H R)
    (hr : ∀ v H', R v H' → R' v H') : FnW P f args H R' :=
  ⟨h.1, fun w hw => (h.2 w hw).mono fun _ _ ⟨v, he, hv, hrest⟩ => ⟨v, he, hr _ _ hv, hrest⟩⟩

theorem semW_callFunc {P : Program} {f : FuncId} {args : Array Value} {H : Heap} {K : Next → Heap → Prop} (h : Enters P f) (hk : K (.enter f args) H) : SemW P (callFunc f args) H K := by
  obtain ⟨fn, hf, hn, hb⟩ := h
  unfold callFunc
  refine (SemW.bind _ _ _ _).2 ?_
  change SemW P (match P.funcs[f]? with | none => _ | some fn => _) H K
  rw [hf]
  change SemW P (if (fn.name == "runtime.NumGoroutine") = true then _ else if fn.body.isNone = true then _ else pure (.enter f args)) H K
  rw [if_neg (by rw [hn]; simp), if_neg (by rw [hb]; simp)]
  exact hk

/-- The fences: wide; in a round or not. -/
def Fw (r : Option Nat) : Fence := { Fence.wide with round := r }
theorem fw_fn (r : Option Nat) (f : FuncId) : (Fw r).fn f := trivial
theorem fw_room (r : Option Nat) (n : Nat) : (Fw r).room n := fun d h => by cases h
theorem calls_fw {P : Program} {f : FuncId} {args : Array Value} {w : World} {R : Ending → World → Prop} (r : Option Nat) {n : Nat} (h : Calls P f args w R) : CallsIn (Fw r) n P f args w R := by
  cases r with
  | none => exact callsIn_wide.2 h
  | some l => exact (callsIn_wide.2 h).inRound l

/-- Temporaries. -/
abbrev Env := Nat → Value
def ev (ρ : Env) : Operand → Value
  | .tmp t => ρ t
  | .const v => v
  | .global g => .pointer (some ⟨g, 0, none⟩)
  | .func f => .func (.func f) #[] #[]
def put (ρ : Env) (d : Option Tmp) (v : Value) : Env :=
  match d with
  | some d => fun i => match Nat.beq i d with | true => v | false => ρ i
  | none => ρ

/-- The temporaries in the frame are those of the environment; there are n of them. -/
structure Fits (n : Nat) (D : List Deferred) (ρ : Env) (a : Act) : Prop where
  size : a.tmps.size = n
  tmp : ∀ t, t < n → a.tmps.getD t undef = ρ t
  defers : a.defers = D

def dstIn (n : Nat) (d : Option Tmp) : Bool := match d with | some d => Nat.blt d n | none => true

theorem Fits.put {n : Nat} {D : List Deferred} {ρ : Env} {a : Act} (h : Fits n D ρ a) (d : Option Tmp) (v : Value) (hd : dstIn n d = true) : Fits n D (put ρ d v) (a.put d v) := by
  cases d with
  | none => exact h
  | some d =>
    have hd' : d < n := by simpa [dstIn] using hd
    refine ⟨by simp [Act.put, h.size], fun t ht => ?_, h.defers⟩
    simp only [Act.put, Sh.put]
    have hs := h.size
    by_cases e : t = d
    · subst e
      have : Nat.beq t t = true := Nat.beq_refl t
      rw [this]
      simp [Array.getD_eq_getD_getElem?, hs, ht]
    · have : Nat.beq t d = false := by
        cases hb : Nat.beq t d with
        | true => exact absurd (Nat.eq_of_beq_eq_true hb) e
        | false => rfl
      rw [this]
      have := h.tmp t ht
      simp only [Array.getD_eq_getD_getElem?, Array.getElem?_setIfInBounds] at this ⊢
      rw [if_neg (fun e' => e e'.symm)]
      exact this

end Go.Sh
