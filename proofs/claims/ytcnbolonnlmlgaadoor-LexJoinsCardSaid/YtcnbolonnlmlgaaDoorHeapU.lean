/-
  Small laws of the heap: what is shut, and blocks that are written as a whole.
-/
import Derived.Test.YtcnbolonnlmlgaaDoorEC
set_option linter.unusedVariables false
set_option linter.unusedSimpArgs false
namespace Go.Sh

theorem shutK {H0 H H2 : Heap} (k : Keep Nil H0 H) (hs : Shut H0 H H2) : Keep Nil H0 H2 :=
  ⟨fun b hb ha => by
    rcases hs b with e | ⟨e, _, _⟩
    · rw [e]; exact k.same b hb ha
    · exact absurd e ha, fun b ha => by
    rcases hs b with e | ⟨e, _, _⟩
    · rw [e]; exact k.live b ha
    · exact absurd e ha⟩
theorem shutB {H0 H H2 : Heap} {b : Nat} {T : TypeId} {c : Array Value} (h : Blk H b T c) (hs : Shut H0 H H2) : Blk H2 b T c := by
  rcases hs b with e | ⟨_, e, _⟩
  · exact h.same e
  · unfold Blk at h; rw [h] at e; cases e
/-- Cells of a block are written, one behind the other. -/
def stAll (b : Nat) : Nat → List Value → Heap → (Heap → Prop) → Prop
  | _, [], H, K => K H
  | o, v :: vs, H, K => StCell H ⟨b, o, none⟩ v fun H' => stAll b (o + 1) vs H' K
theorem stAll_blk {b : Nat} {T : TypeId} {K : Heap → Prop} : ∀ (vs : List Value) (o : Nat) (pre old : List Value) (H : Heap), Blk H b T ⟨pre ++ old⟩ → pre.length = o → old.length = vs.length → (∀ v ∈ vs, plainC v = true) →
    (∀ H', Blk H' b T ⟨pre ++ vs⟩ → (∀ x, x ≠ b → H' x = H x) → K H') → stAll b o vs H K
  | [], o, pre, old, H, hb, _, hl, _, hk => by
    have : old = [] := List.eq_nil_of_length_eq_zero hl
    subst this
    exact hk H hb fun _ _ => rfl
  | v :: vs, o, pre, [], H, _, _, hl, _, _ => by simp at hl
  | v :: vs, o, pre, w :: old, H, hb, ho, hl, hp, hk => by
    simp only [stAll]
    refine StCell.blk hb (by simp; omega) (hp v List.mem_cons_self) ?_
    have e : (⟨pre ++ w :: old⟩ : Array Value).setIfInBounds o v = ⟨(pre ++ [v]) ++ old⟩ := by
      apply Array.ext'
      simp only [Array.toList_setIfInBounds]
      rw [List.set_append_right _ _ (by omega), show o - pre.length = 0 by omega]
      simp
    rw [e]
    refine stAll_blk vs (o + 1) (pre ++ [v]) old _ Blk.upd_eq (by simp [ho]) (by simpa using hl) (fun x hx => hp x (List.mem_cons_of_mem _ hx)) fun H' h1 h2 => ?_
    refine hk H' (by simpa using h1) fun x hx => ?_
    rw [h2 x hx, Sh.upd_ne hx]
/-- A list without members. -/
theorem cellOk_nil {Z : Nat → Prop} {H : Heap} {ks : List Kd} : CellOk Z H (.lst ks) ([] : List (Tp ks)) (.slice none 0 0) := by
  simp only [CellOk]
  exact ⟨none, 0, 0, rfl, rfl, Nat.le_refl _, Nat.zero_le _, fun h => absurd h (Nat.lt_irrefl _)⟩
theorem cellOk_empty {Z : Nat → Prop} {H : Heap} {ks : List Kd} {v : Value} (h : CellOk Z H (.lst ks) ([] : List (Tp ks)) v) : ∃ a c, v = .slice a 0 c := by
  simp only [CellOk] at h
  obtain ⟨a, n, c, rfl, hn, _⟩ := h
  have hn : (0 : Nat) = n := hn
  exact ⟨a, c, by rw [hn]⟩

end Go.Sh
