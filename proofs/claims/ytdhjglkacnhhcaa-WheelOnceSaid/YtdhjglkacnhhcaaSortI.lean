/-
  The library's sort of numbers, of a row of the call's own.
-/
import Derived.Test.YtdhjglkacnhhcaaWh6
import Derived.Test.YtdhjglkacnhhcaaShelf
set_option linter.all false
set_option maxRecDepth 100000
namespace Go.Proofs.Ytdhjglkacnhhcaa
open Go.Sh Go.Wheel Go.Sort Go.RowKit

theorem sort_ok : SortOk := by
  intro H1 H0 a cap zs hlen ho
  refine ⟨⟨_, Try.func38, by kernel_rfl, by kernel_rfl⟩, fun w hw => ?_⟩
  subst hw
  rcases ho.2.2 with ⟨rfl, hz, rfl⟩ | ⟨m, rest, rfl, h0, hb, hr⟩
  · have hzs : zs = [] := List.eq_nil_of_length_eq_zero hz
    subst hzs
    refine (Try.slices_Sort_int_none none 0 w).mono ?_
    rintro e w' ⟨rfl, rfl⟩
    exact ⟨_, rfl, ⟨rfl, Keep.refl _ _, [], List.Perm.refl _, List.Pairwise.nil, ho⟩, Rest.refl _⟩
  · have hcell : w.heap[m]? = some (.cells ⟨iv zs ++ rest⟩ T_int (0, 0)) := hb
    have hlt := (Array.getElem?_eq_some_iff.1 hcell).1
    refine (Try.slices_Sort_int m 0 cap zs w ?_ hlt (by omega)).mono ?_
    · intro j hj
      simp only [List.size_toArray] at hj
      refine ⟨?_, ?_⟩
      · show (hp w).cell ⟨m, 0 + j, none⟩ = _
        rw [hb.cell]
        simp only [List.getElem?_toArray, Nat.zero_add]
        rw [List.getElem?_append_left (by simpa using hj)]
        simp [iv, hj]
      · show (hp w).frozen ⟨m, 0 + j, none⟩ = false
        exact blk_frozen hb
    · rintro e w' ⟨rfl, n, os, rfl⟩
      have hms : (zs.mergeSort fun x y => decide (x ≤ y)).length = zs.length := List.length_mergeSort _
      have hheap : ∀ x, (grow (Go.Sort.putRow (Value.int .i64) (Sort.ahead w n) m 0 (zs.mergeSort fun x y => decide (x ≤ y)).toArray) os).heap[x]? = if x = m then some (.cells ⟨iv (zs.mergeSort fun x y => decide (x ≤ y)) ++ rest⟩ T_int (0, 0)) else if x < w.heap.size then w.heap[x]? else os[x - w.heap.size]? := by
        intro x
        have hsz : (Go.Sort.putRow (Value.int .i64) (Sort.ahead w n) m 0 (zs.mergeSort fun x y => decide (x ≤ y)).toArray).heap.size = w.heap.size := by
          show (w.heap.modify m _).size = _
          simp
        show ((Go.Sort.putRow (Value.int .i64) (Sort.ahead w n) m 0 (zs.mergeSort fun x y => decide (x ≤ y)).toArray).heap ++ os)[x]? = _
        by_cases hx : x < w.heap.size
        · rw [Array.getElem?_append_left (by rw [hsz]; exact hx)]
          show (w.heap.modify m _)[x]? = _
          rw [Array.getElem?_modify]
          by_cases e : m = x
          · subst e
            rw [if_pos rfl, if_pos rfl, hcell]
            simp only [Option.map_some, onCells]
            congr 2
            apply Array.ext_getElem?
            intro j
            simp only [putCells, Array.getElem?_mapIdx, List.getElem?_toArray, Nat.zero_le, true_and, Nat.zero_add, Nat.sub_zero, List.size_toArray, hms]
            by_cases hj : j < zs.length
            · rw [List.getElem?_append_left (by simpa using hj), List.getElem?_append_left (by simp [hms]; exact hj)]
              simp only [iv, List.getElem?_map]
              rw [List.getElem?_eq_getElem hj, List.getElem?_eq_getElem (by rw [hms]; exact hj)]
              simp [hj, hms]
            · rw [List.getElem?_append_right (by simp; omega), List.getElem?_append_right (by simp [hms]; omega)]
              simp only [iv_length, hms]
              cases rest[j - zs.length]? with
              | none => rfl
              | some v => simp [hj]
          · rw [if_neg e, if_neg (fun h => e h.symm), if_pos hx]
        · rw [Array.getElem?_append_right (by rw [hsz]; omega), if_neg (by omega), if_neg hx, hsz]
      refine ⟨_, rfl, ⟨rfl, ⟨fun x hx hne => ?_, fun x hne => ?_⟩, (zs.mergeSort fun x y => decide (x ≤ y)), List.mergeSort_perm zs (fun x y => decide (x ≤ y)), ?_, ?_⟩, ?_⟩
      · have hxm : x ≠ m := fun e => hx (by rw [e])
        have hxl : x < w.heap.size := by
          refine Nat.lt_of_not_le fun h => hne ?_
          exact Array.getElem?_eq_none h
        show (grow _ os).heap[x]? = w.heap[x]?
        rw [hheap, if_neg hxm, if_pos hxl]
      · have hxl : x < w.heap.size := by
          refine Nat.lt_of_not_le fun h => hne ?_
          exact Array.getElem?_eq_none h
        show (grow _ os).heap[x]? ≠ none
        rw [hheap]
        split
        · simp
        · first | (rw [if_pos hxl]; exact hne) | exact hne
      · have h1 := List.pairwise_mergeSort (le := fun x y : Int => decide (x ≤ y)) (fun a b c h1 h2 => by simp only [decide_eq_true_eq] at *; omega) (fun a b => by simp only [Bool.or_eq_true, decide_eq_true_eq]; omega) zs
        exact h1.imp fun h => of_decide_eq_true h
      · refine ⟨by simp [hms], ho.le, .inr ⟨m, rest, rfl, h0, ?_, hr⟩⟩
        show (grow _ os).heap[m]? = _
        rw [hheap, if_pos rfl]
      · refine ⟨rfl, rfl, rfl, fun b ds hb' => ?_, ?_⟩
        · have hbm : b ≠ m := fun e => by subst e; rw [hcell] at hb'; cases hb'
          have hbl := (Array.getElem?_eq_some_iff.1 hb').1
          rw [hheap, if_neg hbm, if_pos hbl]; exact hb'
        · show w.heap.size ≤ ((Go.Sort.putRow (Value.int .i64) (Sort.ahead w n) m 0 (zs.mergeSort fun x y => decide (x ≤ y)).toArray).heap ++ os).size
          rw [Array.size_append]
          have : (Go.Sort.putRow (Value.int .i64) (Sort.ahead w n) m 0 (zs.mergeSort fun x y => decide (x ≤ y)).toArray).heap.size = w.heap.size := by
            show (w.heap.modify m _).size = _
            simp
          omega
end Go.Proofs.Ytdhjglkacnhhcaa
