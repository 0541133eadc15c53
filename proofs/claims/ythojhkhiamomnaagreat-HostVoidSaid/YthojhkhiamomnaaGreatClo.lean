/-
  Which functions a function reaches, by a table and a mask: for programs whose own closed facts are too great to be reckoned as they stand.
-/
import Derived.Test.YthojhkhiamomnaaGreatRows
import Derived.KernelRfl
import Derived.JoinedOf
import Derived.ClosedOfChecked
set_option linter.all false
namespace Go.Clo
open Go

def cvM (LT : List (List Nat)) : Nat → List Nat → List Nat → Nat → List Nat
  | 0, _, seen, _ => seen.reverse
  | _ + 1, [], seen, _ => seen.reverse
  | n + 1, f :: todo, seen, m => match Nat.beq (Nat.land (Nat.shiftRight m f) 1) 1 with
    | true => cvM LT n todo seen m
    | false => cvM LT n (LT.getD f [] ++ todo) (f :: seen) (Nat.lor m (Nat.shiftLeft 1 f))

def In (m g : Nat) : Prop := Nat.beq (Nat.land (Nat.shiftRight m g) 1) 1 = true
theorem in_bit (m g : Nat) : In m g ↔ m.testBit g = true := by
  unfold In
  have h1 : Nat.land (Nat.shiftRight m g) 1 = (m >>> g) % 2 := Nat.and_one_is_mod _
  rw [h1, Nat.testBit_eq_decide_div_mod_eq, Nat.shiftRight_eq_div_pow]
  constructor
  · intro h; exact decide_eq_true (Nat.eq_of_beq_eq_true h)
  · intro h; rw [of_decide_eq_true h]; rfl
theorem in_set (m f g : Nat) : In (Nat.lor m (Nat.shiftLeft 1 f)) g ↔ g = f ∨ In m g := by
  rw [in_bit, in_bit]
  show (m ||| (1 <<< f)).testBit g = true ↔ _
  rw [Nat.testBit_or, Nat.one_shiftLeft, Nat.testBit_two_pow, Bool.or_eq_true, decide_eq_true_eq]
  exact ⟨fun h => h.elim .inr fun h => .inl h.symm, fun h => h.elim (fun h => .inr h.symm) .inl⟩
theorem cvM_eq {P : Program} {LT : List (List Nat)} (h : ∀ g, (P.funcs[g]?).elim [] P.leadsTo = LT.getD g []) : ∀ (n : Nat) (todo seen : List Nat) (m : Nat), (∀ g, In m g ↔ g ∈ seen) → P.closureVia n todo seen = cvM LT n todo seen m
  | 0, _, _, _, _ => by rw [Program.closureVia, cvM]
  | _ + 1, [], _, _, _ => by
    rw [Program.closureVia, cvM]
    intro h; cases h
  | n + 1, f :: todo, seen, m, hm => by
    rw [Program.closureVia, cvM]
    by_cases hf : f ∈ seen
    · have h1 := (hm f).2 hf
      unfold In at h1
      rw [if_pos (by simpa using hf), h1]
      exact cvM_eq h n todo seen m hm
    · have h1 : Nat.beq (Nat.land (Nat.shiftRight m f) 1) 1 = false := by
        cases e : Nat.beq (Nat.land (Nat.shiftRight m f) 1) 1 with
        | false => rfl
        | true => exact absurd ((hm f).1 e) hf
      rw [if_neg (by simpa using hf), h1, h f]
      exact cvM_eq h n _ _ _ fun g => by
        rw [in_set, hm g, List.mem_cons]
theorem closure_eq {P : Program} {LT : List (List Nat)} (hLT : P.funcs.toList.map P.leadsTo = LT) (f : Nat) : P.closure f = cvM LT (1 + (LT.map fun l => l.length + 1).sum) [f] [] 0 := by
  unfold Program.closure
  have e : (P.funcs.toList.map fun g => (P.leadsTo g).length + 1) = LT.map fun l => l.length + 1 := by
    rw [← hLT, List.map_map]; rfl
  rw [e]
  refine cvM_eq (fun g => ?_) _ _ _ _ fun g => ?_
  · rw [← hLT, List.getD_eq_getElem?_getD, List.getElem?_map, Array.getElem?_toList]
    cases P.funcs[g]? <;> rfl
  · unfold In
    have : Nat.land (Nat.shiftRight 0 g) 1 = 0 := by
      have h1 : Nat.land (Nat.shiftRight 0 g) 1 = (0 >>> g) % 2 := Nat.and_one_is_mod _
      rw [h1, Nat.zero_shiftRight]
    rw [this]; simp
/-- The functions that are reached, as they stand in a list. -/
theorem inPlace_eq {P : Program} {f : Nat} {L : List Nat} (h : P.closure f = L) : P.inPlace f = P.inPlaceOf L := by unfold Program.inPlace Program.inPlaceOf; rw [h]
theorem vars_eq {P : Program} {f : Nat} {L : List Nat} (h : P.closure f = L) : P.varsNamed f = P.varsOf L := by unfold Program.varsNamed Program.varsOf; rw [h]
theorem unfollowed_true {P : Program} {f : Nat} {L : List Nat} (h : P.closure f = L) (g : Nat) (hg : L.contains g = true) (hb : (P.funcs[g]?).any (fun fn => match fn.body with | some c => c.unfollowed | none => entryCalls fn) = true) : P.unfollowed f = true := by
  unfold Program.unfollowed
  rw [h, List.any_eq_true]
  exact ⟨g, by simpa using hg, hb⟩
theorem recurses_true {P : Program} {f : Nat} (h : P.unfollowed f = true) : P.recurses f = true := by unfold Program.recurses; rw [h, Bool.true_or]
end Go.Clo
