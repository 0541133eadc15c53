/-
  From the condition on a law's call to the row: 'it returns true, and what was there stays'.
-/
import Derived.Test.YtboagabgpcghcaaDoorSh13
import Derived.ProofKit
import Derived.WideKeyArgs
import Derived.Handed
import Derived.ChangeSlices
namespace Go.Sh
open Go.ChangeShapes Go.WideShapes Go.ChangeAt Go.RowKit
theorem Keep.below {W W' : World} (h : Keep Nil (hp W) (hp W')) (r : Rest W W') : Below W.heap.size W W' := by
  refine ⟨r.os, r.tape, r.output, ?_, fun k hk => h.same k (fun x => x) ?_⟩
  . cases hs : W.heap.size with
    | zero => omega
    | succ n =>
      have hlive := h.live n (by change W.heap[n]? ≠ none; rw [Array.getElem?_eq_getElem (by omega)]; simp)
      have : n < W'.heap.size := by apply Classical.byContradiction; intro hn; exact hlive (Array.getElem?_eq_none (by omega))
      omega
  change W.heap[k]? ≠ none; rw [Array.getElem?_eq_getElem hk]; simp
theorem trodAll_stays {H : Type} {enc : TypeId × Value -> H} {P : Program} (hl : laidOutB P = true) {W W' : World} {sp : Nat -> Bool} : ∀ {ts : List TypeId} {vs : List Value} {ds : List (DataW H)} {ps : List MemPlace},
    ts.all (fun t => P.readableRec t && decide (t < P.types.size)) = true -> DataW.TrodAll enc P W 0 (fun _ => true) true ts vs ds ps -> (∀ p ∈ ps, W.sameAt W' p) -> (∀ p ∈ ps, sp p.block = true) →
    DataW.TrodAll enc P W' 0 sp true ts vs ds ps := by
  intro ts; induction ts with
  | nil =>
    intro vs ds ps _ h _ _; cases vs <;> cases ds <;> first | exact h | exact h.elim
  | cons t ts ih =>
    intro vs ds ps ha h hs hp; obtain ⟨v, vs', d, ds', p, q, rfl, rfl, rfl, h1, h2⟩ := trodAll_cons h; simp only [List.all_cons, Bool.and_eq_true, decide_eq_true_eq] at ha; exact ⟨p, q, WideElems.Trod_stays hl ha.1.1 ha.1.2 h1 (fun x hx => hs x (List.mem_append_left _ hx)) (fun x hx => hp x (List.mem_append_left _ hx)),
      ih (by simpa using ha.2) h2 (fun x hx => hs x (List.mem_append_right _ hx)) (fun x hx => hp x (List.mem_append_right _ hx)), rfl⟩
theorem post_true {H : Type} {enc : TypeId × Value -> H} {P : Program} {f : Func} {s : ChangeSpec} {apart fresh handsOn : Bool} {W W' : World} {args : Array Value} {ds gs : List (DataW H)} {before : List MemPlace} {tb : TypeId}
    (hl : laidOutB P = true) (hpar : f.params.toList.all (fun t => P.readableRec t && decide (t < P.types.size)) = true) (hv : s.vars = []) (hrt : f.resultTypes = #[tb]) (htb : P.underlying tb = some .bool)
    (hW : DataW.Whole enc P f.params.toList s.vars apart W args.toList ds gs before)
    (hs : s.fn H (ds ++ gs) = { results := [.lit (.bool true)], args := ds }) (hb : Below W.heap.size W W') : s.post enc P f apart fresh handsOn false W args (.bool true) W' := by
  have hlt := hW.lt; have hW' := hW; obtain ⟨p, q, hA, hV, rfl, _, _⟩ := hW'; have hV' := hV; rw [hv] at hV'; obtain ⟨rfl, rfl⟩ := trodVars_none hV'; rw [List.append_nil] at hlt hW; refine ⟨ds, [], p, [], p, [], hW, ?_, ?_, ?_, ?_, fun h => by cases h⟩
  rw [hs, hrt]; exact trodAll_mk1 (shut_bool htb true); rw [hs]; exact trodAll_stays hl hpar hA (fun x hx => hb.same (hlt x hx)) (fun x hx => by simpa using hlt x hx)
  rw [hs, hv]; rfl
  . exact World.keptBut_mono (fun x hx => ⟨hx, .inr (.inl hx)⟩) (hb.frame (· ∈ p))
theorem cell_spot {H : Heap} {a : Addr} {v : Value} (h : H.cell a = some v) : a.spot = none ∧ ∃ c T fr, H a.block = some (.cells c T fr) ∧ c[a.off]? = some v := by
  unfold Heap.cell at h; split at h
  . rename_i c T fr hb; cases hs : a.spot with
    | none => rw [hs] at h; exact ⟨rfl, c, T, fr, hb, h⟩
    | some x => rw [hs] at h; cases h
  cases h
end Go.Sh
