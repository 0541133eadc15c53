/-
  The keys of a map, in order: the library's sort, and slices.Sorted.
-/
import Derived.Test.YtcdjiihnkinpcaaGreatKeys2
import Derived.Test.YtcdjiihnkinpcaaGreatShelf
set_option linter.all false
set_option maxRecDepth 100000
namespace Go.Proofs.YtcdjiihnkinpcaaGreat
open Go.Sh Go.Pc Go.Sort Go.RowKit

@[simp] theorem ivs_length (l : List Int) : (ivs l).length = l.length := by simp [ivs]
theorem sort_own {H1 H0 : Heap} {a : Option Addr} {cap : Nat} {zs : List Int} (hlen : zs.length ≤ 1000) (ho : Sh.Own H0 H1 a zs.length cap 1 T_int (ivs zs)) :
      FnW Tryz.prog f_slices_Sortasl_int_int ⟨[.slice a zs.length cap]⟩ H1 fun v H' => v = .tuple ⟨[]⟩ ∧ Keep (fun x => a = some ⟨x, 0, none⟩) H1 H' ∧ ∃ ys : List Int, ys.Perm zs ∧ ys.Pairwise (· ≤ ·) ∧ Sh.Own H0 H' a zs.length cap 1 T_int (ivs ys) := by
  refine ⟨⟨_, Tryz.func120, by kernel_rfl, by kernel_rfl⟩, fun w hw => ?_⟩
  subst hw
  rcases ho.2.2 with ⟨rfl, hz, rfl⟩ | ⟨m, rest, rfl, h0, hb, hr⟩
  · have hzs : zs = [] := List.eq_nil_of_length_eq_zero hz
    subst hzs
    refine (Tryz.slices_Sort_int_none none 0 w).mono ?_
    rintro e w' ⟨rfl, rfl⟩
    exact ⟨_, rfl, ⟨rfl, Keep.refl _ _, [], List.Perm.refl _, List.Pairwise.nil, ho⟩, Rest.refl _⟩
  · have hcell : w.heap[m]? = some (.cells ⟨ivs zs ++ rest⟩ T_int (0, 0)) := hb
    have hlt := (Array.getElem?_eq_some_iff.1 hcell).1
    refine (Tryz.slices_Sort_int m 0 cap zs w ?_ hlt (by omega)).mono ?_
    · intro j hj
      simp only [List.size_toArray] at hj
      refine ⟨?_, ?_⟩
      · show (hp w).cell ⟨m, 0 + j, none⟩ = _
        rw [hb.cell]
        simp only [List.getElem?_toArray, Nat.zero_add]
        rw [List.getElem?_append_left (by simpa using hj)]
        simp [ivs, hj]
      · show (hp w).frozen ⟨m, 0 + j, none⟩ = false
        exact blk_frozen hb
    · rintro e w' ⟨rfl, n, os, rfl⟩
      have hms : (zs.mergeSort fun x y => decide (x ≤ y)).length = zs.length := List.length_mergeSort _
      have hheap : ∀ x, (grow (Go.Sort.putRow (Value.int .i64) (Sort.ahead w n) m 0 (zs.mergeSort fun x y => decide (x ≤ y)).toArray) os).heap[x]? = if x = m then some (.cells ⟨ivs (zs.mergeSort fun x y => decide (x ≤ y)) ++ rest⟩ T_int (0, 0)) else if x < w.heap.size then w.heap[x]? else os[x - w.heap.size]? := by
        intro x
        have hsz : (Go.Sort.putRow (Value.int .i64) (Sort.ahead w n) m 0 (zs.mergeSort fun x y => decide (x ≤ y)).toArray).heap.size = w.heap.size := by
          show (w.heap.modify m _).size = _
          simp
        show ((Go.Sort.putRow (Value.int .i64) (Sort.ahead w n) m 0 (zs.mergeSort fun x y => decide (x ≤ y)).toArray).heap ++ os)[x]? = _
        by_cases hx : x < w.heap.size
        · rw [Array.getElem?_append_left (by rw [hsz]; exact hx)]
          show (w.heap.modify m _)[x]? = _
          rw [Array.getElem?_modify]
          by_cases e : m = x
          · subst e
            rw [if_pos rfl, if_pos rfl, hcell]
            simp only [Option.map_some, onCells]
            congr 2
            apply Array.ext_getElem?
            intro j
            simp only [putCells, Array.getElem?_mapIdx, List.getElem?_toArray, Nat.zero_le, true_and, Nat.zero_add, Nat.sub_zero, List.size_toArray, hms]
            by_cases hj : j < zs.length
            · rw [List.getElem?_append_left (by simpa using hj), List.getElem?_append_left (by simp [hms]; exact hj)]
              simp only [ivs, List.getElem?_map]
              rw [List.getElem?_eq_getElem hj, List.getElem?_eq_getElem (by rw [hms]; exact hj)]
              simp [hj, hms]
            · rw [List.getElem?_append_right (by simp; omega), List.getElem?_append_right (by simp [hms]; omega)]
              simp only [ivs_length, hms]
              cases rest[j - zs.length]? with
              | none => rfl
              | some v => simp [hj]
          · rw [if_neg e, if_neg (fun h => e h.symm), if_pos hx]
        · rw [Array.getElem?_append_right (by rw [hsz]; omega), if_neg (by omega), if_neg hx, hsz]
      refine ⟨_, rfl, ⟨rfl, ⟨fun x hx hne => ?_, fun x hne => ?_⟩, (zs.mergeSort fun x y => decide (x ≤ y)), List.mergeSort_perm zs (fun x y => decide (x ≤ y)), ?_, ?_⟩, ?_⟩
      · have hxm : x ≠ m := fun e => hx (by rw [e])
        have hxl : x < w.heap.size := by
          refine Nat.lt_of_not_le fun h => hne ?_
          exact Array.getElem?_eq_none h
        show (grow _ os).heap[x]? = w.heap[x]?
        rw [hheap, if_neg hxm, if_pos hxl]
      · have hxl : x < w.heap.size := by
          refine Nat.lt_of_not_le fun h => hne ?_
          exact Array.getElem?_eq_none h
        show (grow _ os).heap[x]? ≠ none
        rw [hheap]
        split
        · simp
        · first | (rw [if_pos hxl]; exact hne) | exact hne
      · have h1 := List.pairwise_mergeSort (le := fun x y : Int => decide (x ≤ y)) (fun a b c h1 h2 => by simp only [decide_eq_true_eq] at *; omega) (fun a b => by simp only [Bool.or_eq_true, decide_eq_true_eq]; omega) zs
        exact h1.imp fun h => of_decide_eq_true h
      · refine ⟨by simp [hms], ho.le, .inr ⟨m, rest, rfl, h0, ?_, hr⟩⟩
        show (grow _ os).heap[m]? = _
        rw [hheap, if_pos rfl]
      · refine ⟨rfl, rfl, rfl, fun b ds hb' => ?_, ?_⟩
        · have hbm : b ≠ m := fun e => by subst e; rw [hcell] at hb'; cases hb'
          have hbl := (Array.getElem?_eq_some_iff.1 hb').1
          rw [hheap, if_neg hbm, if_pos hbl]; exact hb'
        · show w.heap.size ≤ ((Go.Sort.putRow (Value.int .i64) (Sort.ahead w n) m 0 (zs.mergeSort fun x y => decide (x ≤ y)).toArray).heap ++ os).size
          rw [Array.size_append]
          have : (Go.Sort.putRow (Value.int .i64) (Sort.ahead w n) m 0 (zs.mergeSort fun x y => decide (x ≤ y)).toArray).heap.size = w.heap.size := by
            show (w.heap.modify m _).size = _
            simp
          omega

theorem keys_sorted {H : Heap} {bx bo mb ck : Nat} {es : List MapEntry} {ks : List Int} {f : MapEntry → Int} (hbx : H.cell ⟨bx, bo, none⟩ = some (.map (some mb))) (hm : H mb = some (.map ⟨es⟩ ck)) (hb : ∀ e ∈ es, e.born < ck) (hd : (es.map (·.born)).Nodup)
    (hks : ∀ e ∈ es, e.key = .int .i64 (f e)) (hke : ks = es.map f) (hl : es.length ≤ 1000) :
    FnW Tryz.prog f_slices_Sortedaint ⟨[.func (.func fKeys) #[] ⟨[.pointer (some ⟨bx, bo, none⟩)]⟩]⟩ H fun v H' => ∃ (a : Option Addr) (cap : Nat) (ys : List Int), v = .slice a ys.length cap ∧ Keep Nil H H' ∧ ys.Perm ks ∧ ys.Pairwise (· ≤ ·) ∧ Sh.Own H H' a ys.length cap 1 T_int (ivs ys) := by
  refine slices_Sortedaint_sh fKeys (.pointer (some ⟨bx, bo, none⟩)) ?_
  unfold slices_Sortedaint_p
  refine FnW.mono (slices_Collectaint_sh fKeys (.pointer (some ⟨bx, bo, none⟩)) (R := KeysOf H ks) ?_) fun v H1 hv => ?_
  · unfold slices_Collectaint_p
    refine FnW.mono (keys_appendSeq hbx hm hb hd hks hke (by omega)) fun v H1 hv => ?_
    have hv2 := hv
    obtain ⟨a, cap, xs, rfl, _⟩ := hv
    exact ⟨a, _, cap, rfl, fun H2 hs => hv2.shut hs⟩
  · obtain ⟨a, cap, xs, rfl, k1, hp, ho⟩ := hv
    refine ⟨a, _, cap, rfl, ?_⟩
    have hxl : xs.length ≤ 1000 := by rw [hp.length_eq, hke, List.length_map]; exact hl
    refine FnW.mono (sort_own hxl ho) fun v H2 hv => ?_
    obtain ⟨rfl, k2, ys, hq, hs, ho2⟩ := hv
    refine ⟨rfl, fun H3 hsh => ?_⟩
    have hyl : ys.length = xs.length := hq.length_eq
    refine ⟨a, cap, ys, by rw [hyl], shutK (k1.then k2 fun b hb => .inr (ho.free hb)) hsh, hq.trans hp, hs, ?_⟩
    rw [hyl]
    exact shutO ho2 hsh
end Go.Proofs.YtcdjiihnkinpcaaGreat
