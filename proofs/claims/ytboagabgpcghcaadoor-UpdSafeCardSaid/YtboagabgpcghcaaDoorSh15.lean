/-
  Rows of rows that a call makes for itself.
-/
import Derived.Test.YtboagabgpcghcaaDoorSh14
set_option linter.all false
namespace Go.Sh
theorem Own.blk {H0 H : Heap} {a : Option Addr} {n cap sz : Nat} {T : TypeId} {xs : List Value} (h : Own H0 H a n cap sz T xs) {b : Nat} (hb : a = some ⟨b, 0, none⟩) : ∃ rest, Blk H b T ⟨xs ++ rest⟩ ∧ rest.length = (cap - n) * sz := by rcases h.2.2 with ⟨rfl, _⟩ | ⟨m, rest, rfl, _, hB, hr⟩; cases hb; cases hb; exact ⟨rest, hB, hr⟩
theorem Own.addr {H0 H : Heap} {a : Option Addr} {n cap sz : Nat} {T : TypeId} {xs : List Value} (h : Own H0 H a n cap sz T xs) (hn : 0 < n) : ∃ m, a = some ⟨m, 0, none⟩ := by rcases h.2.2 with ⟨_, h0, _⟩ | ⟨m, rest, rfl, _⟩; omega; exact ⟨m, rfl⟩
structure Inn where
  a : Option Addr
  n : Nat
  cap : Nat
  ys : List Value
def Inn.val (i : Inn) : Value := .slice i.a i.n i.cap
structure Deep (H0 H : Heap) (To Ti : TypeId) (sz : Nat) (ins : List Inn) (a : Option Addr) (c : Nat) : Prop where
  out : Own H0 H a ins.length c 1 To (ins.map Inn.val)
  inn : ∀ (j : Nat) (i : Inn), ins[j]? = some i -> Own H0 H i.a i.n i.cap sz Ti i.ys
  dis : ∀ (j j' : Nat) (i i' : Inn) (b : Nat), j ≠ j' -> ins[j]? = some i -> ins[j']? = some i' -> i.a = some ⟨b, 0, none⟩ -> i'.a ≠ some ⟨b, 0, none⟩
  capO : c <= 9223372036854775807
  capI : ∀ (j : Nat) (i : Inn), ins[j]? = some i -> i.cap <= 9223372036854775807
theorem Deep.apart {H0 H : Heap} {To Ti : TypeId} {sz : Nat} {ins : List Inn} {a : Option Addr} {c : Nat} (d : Deep H0 H To Ti sz ins a c) (hT : To ≠ Ti) {j : Nat} {i : Inn} (hi : ins[j]? = some i) {b : Nat} (hb : i.a = some ⟨b, 0, none⟩) : a ≠ some ⟨b, 0, none⟩ := fun h => by obtain ⟨_, h1, _⟩ := d.out.blk h; obtain ⟨_, h2, _⟩ := (d.inn j i hi).blk hb; refine hT ?_; unfold Blk at h1 h2; rw [h1] at h2; simp only [Option.some.injEq, Obj.cells.injEq] at h2; exact h2.2.1
theorem Deep.keep {H0 H H' : Heap} {To Ti : TypeId} {sz : Nat} {ins : List Inn} {a : Option Addr} {c : Nat} {S : Nat -> Prop} (d : Deep H0 H To Ti sz ins a c) (k : Keep S H H') (hs : ∀ b, S b -> H b = none) : Deep H0 H' To Ti sz ins a c :=
  ⟨d.out.keep k fun b hb hS => by obtain ⟨c, h⟩ := d.out.live hb; exact h.some (hs b hS), fun j i hi => (d.inn j i hi).keep k fun b hb hS => by obtain ⟨c, h⟩ := (d.inn j i hi).live hb; exact h.some (hs b hS), d.dis, d.capO, d.capI⟩
theorem Deep.cell {H0 H : Heap} {To Ti : TypeId} {sz : Nat} {ins : List Inn} {a : Option Addr} {c : Nat} (d : Deep H0 H To Ti sz ins a c) {j : Nat} {i : Inn} (hi : ins[j]? = some i) : ∃ m, a = some ⟨m, 0, none⟩ ∧ H.cell ⟨m, j, none⟩ = some i.val := by
  have hlt : j < ins.length := by rcases Nat.lt_or_ge j ins.length with h | h; exact h; rw [List.getElem?_eq_none h] at hi; cases hi
  obtain ⟨m, hm⟩ := d.out.addr (by omega)
  obtain ⟨rest, hb, _⟩ := d.out.blk hm; refine ⟨m, hm, ?_⟩; rw [hb.cell]; have : (ins.map Inn.val)[j]? = some i.val := by rw [List.getElem?_map, hi]; rfl
  simp only [List.getElem?_toArray]; rw [List.getElem?_append_left (by simpa using hlt)]
  exact this
end Go.Sh
