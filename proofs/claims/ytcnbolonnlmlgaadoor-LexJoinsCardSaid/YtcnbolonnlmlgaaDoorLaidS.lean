/-
  What is known of the package-level variables that the law of texts comes to.
-/
import Derived.Test.YtcnbolonnlmlgaaDoorNum
import Derived.Test.YtcnbolonnlmlgaaDoorShelf
import Derived.Test.YtcnbolonnlmlgaaDoorEC
set_option linter.unusedSectionVars false
set_option linter.unusedSimpArgs false
set_option linter.unusedVariables false
namespace Go.Proofs.YtcnbolonnlmlgaaDoor
open Go.Sh

def powCells : Array Value := (Lib.pow10Tab.map fun z => Value.int .u64 z).toArray
def isErr (L : Nat → Option Obj) (b : Nat) : Prop := ∃ te pe T fr, L b = some (.cells #[.iface te pe] T fr)
instance : Laid where
  blocks := fun b => Nat.beq b g_internal_strconv_uint64pow10 || (Nat.beq b g_internal_bytealg_MaxLen || (Nat.beq b g_strconv_ErrSyntax || Nat.beq b g_strconv_ErrRange))
  ok := fun L => (∃ T fr, L g_internal_strconv_uint64pow10 = some (.cells powCells T fr)) ∧ (∃ m cs T fr, L g_internal_bytealg_MaxLen = some (.cells cs T fr) ∧ cs[0]? = some (.int .i64 m)) ∧ isErr L g_strconv_ErrSyntax ∧ isErr L g_strconv_ErrRange
theorem laid_pow {W : World} (h : Laid.ok (layH (hp W))) : ∃ T fr, W.heap[g_internal_strconv_uint64pow10]? = some (.cells powCells T fr) := h.1
theorem laid_max {W : World} (h : Laid.ok (layH (hp W))) : ∃ m, W.cell? ⟨g_internal_bytealg_MaxLen, 0, none⟩ = some (.int .i64 m) := by
  obtain ⟨m, cs, T, fr, h1, h2⟩ := h.2.1
  have h3 : W.heap[g_internal_bytealg_MaxLen]? = some (.cells cs T fr) := h1
  refine ⟨m, ?_⟩
  simp only [World.cell?, h3, Option.isSome_none, Bool.false_eq_true, if_false]
  exact h2
theorem err_cell {W : World} {b : Nat} (h : ∃ te pe T fr, W.heap[b]? = some (.cells #[.iface te pe] T fr)) : ∃ te pe, W.cell? ⟨b, 0, none⟩ = some (.iface te pe) := by
  obtain ⟨te, pe, T, fr, h⟩ := h
  refine ⟨te, pe, ?_⟩
  simp only [World.cell?, h, Option.isSome_none, Bool.false_eq_true, if_false]
  rfl
theorem laid_syn {W : World} (h : Laid.ok (layH (hp W))) : ∃ te pe, W.cell? ⟨g_strconv_ErrSyntax, 0, none⟩ = some (.iface te pe) := err_cell h.2.2.1
theorem laid_rng {W : World} (h : Laid.ok (layH (hp W))) : ∃ te pe, W.cell? ⟨g_strconv_ErrRange, 0, none⟩ = some (.iface te pe) := err_cell h.2.2.2
theorem rest_of {W W' : World} (h1 : W'.os = W.os) (h2 : W'.tape = W.tape) (h3 : W'.output = W.output) (h : ∀ (b : Nat) o, W.heap[b]? = some o → W'.heap[b]? = some o) : Go.Sh.Rest W W' := by
  refine ⟨h1, h2, h3, fun b ds hb => h b _ hb, ?_⟩
  cases hs : W.heap.size with
  | zero => omega
  | succ n =>
    have := h n _ (Array.getElem?_eq_getElem (by omega))
    have := (Array.getElem?_eq_some_iff.1 this).1
    omega
end Go.Proofs.YtcnbolonnlmlgaaDoor
