/-
  Layer 2, the pool: what it holds, and what each call does, against plain lists.
-/
import Derived.Test.YtligjponbhnedaaBase1
set_option maxRecDepth 100000
namespace Go.Proofs.Ytligjponbhnedaa
open Go.Sh

/-- Buffers (ticket, bytes), those that are free in their order, how many lendings there were. -/
structure PoolM where
  bufs : List (Int × List UInt8)
  free : List Int
  count : Int

namespace PoolM
def tk (M : PoolM) (k : Nat) : Int := match M.bufs[k]? with | some x => x.1 | none => 0
def bytes (M : PoolM) (k : Nat) : List UInt8 := match M.bufs[k]? with | some x => x.2 | none => []
def findE (M : PoolM) (n t : Int) : Int := if n < 0 ∨ n ≥ M.bufs.length then 2 else if t < 1 ∨ M.tk n.toNat ≠ t then 5 else 0
def lend (M : PoolM) (b : List UInt8) : (Int × Int) × Int × PoolM :=
  if b.length > 1514 then ((0, 0), 3, M) else match M.free with
  | [] => ((0, 0), 4, M)
  | k :: fr => ((k, M.count + 1), 0, ⟨M.bufs.set k.toNat (M.count + 1, b), fr, M.count + 1⟩)
def read (M : PoolM) (n t : Int) : List UInt8 × Int := if M.findE n t = 0 then (M.bytes n.toNat, 0) else ([], M.findE n t)
def write (M : PoolM) (n t : Int) (b : List UInt8) : Int × PoolM :=
  if M.findE n t = 0 then (if b.length > 1514 then (3, M) else (0, ⟨M.bufs.set n.toNat (t, b), M.free, M.count⟩)) else (M.findE n t, M)
def give (M : PoolM) (n t : Int) : Int × PoolM :=
  if M.findE n t = 0 then (0, ⟨M.bufs.set n.toNat (0, []), M.free ++ [n], M.count⟩) else (M.findE n t, M)
def make (n : Nat) : PoolM := ⟨List.replicate n (0, []), (List.range n).map (fun i : Nat => (i : Int)), 0⟩

structure Inv (M : PoolM) : Prop where
  pos : 1 ≤ M.bufs.length
  le : M.bufs.length ≤ 256
  nodup : M.free.Nodup
  freeIn : ∀ k ∈ M.free, 0 ≤ k ∧ k < M.bufs.length ∧ M.tk k.toNat = 0
  inFree : ∀ k : Nat, k < M.bufs.length → M.tk k = 0 → (k : Int) ∈ M.free
  tickets : ∀ (k : Nat) (x : Int × List UInt8), M.bufs[k]? = some x → 0 ≤ x.1 ∧ x.1 ≤ M.count ∧ x.2.length ≤ 1514
  countPos : 0 ≤ M.count

theorem findE_zero {M : PoolM} {n t : Int} (h : M.findE n t = 0) : 0 ≤ n ∧ n.toNat < M.bufs.length ∧ 1 ≤ t ∧ M.tk n.toNat = t := by
  unfold findE at h
  split at h
  · cases h
  · rename_i h1
    split at h
    · cases h
    · rename_i h2
      exact ⟨by omega, by omega, by omega, by omega⟩
theorem findE_ne {M : PoolM} {n t : Int} (h : M.findE n t ≠ 0) : M.findE n t = 2 ∨ M.findE n t = 5 := by
  unfold findE at *
  split at h
  · rename_i h1; rw [if_pos h1]; exact .inl rfl
  · rename_i h1
    rw [if_neg h1]
    split at h
    · rename_i h2; rw [if_pos h2]; exact .inr rfl
    · exact absurd rfl h

theorem tk_get {M : PoolM} {k : Nat} (h : k < M.bufs.length) : M.bufs[k]? = some (M.tk k, M.bytes k) := by
  unfold tk bytes
  rw [List.getElem?_eq_getElem h]

/-- A nodup list of numbers below n, without one of them, is shorter than n. -/
theorem short : ∀ (n : Nat) (l : List Int), l.Nodup → (∀ k ∈ l, 0 ≤ k ∧ k < n) → l.length ≤ n := by
  intro n
  induction n with
  | zero =>
    intro l _ h
    cases l with
    | nil => simp
    | cons x xs => have := h x (by simp); omega
  | succ n ih =>
    intro l hn h
    have h1 := ih (l.filter fun k : Int => decide (k ≠ (n : Int))) (hn.sublist List.filter_sublist) (fun k hk => by
      simp only [List.mem_filter, decide_eq_true_eq] at hk
      have h2 := h k hk.1
      have h3 : k ≠ (n : Int) := hk.2
      omega)
    have h2 : l.length ≤ (l.filter fun k : Int => decide (k ≠ (n : Int))).length + 1 := by
      clear ih h1 h
      induction l with
      | nil => simp
      | cons x xs ih =>
        have hx := List.nodup_cons.1 hn
        by_cases e : x = (n : Int)
        · subst e
          have : xs.filter (fun k => decide (k ≠ (n : Int))) = xs := by
            rw [List.filter_eq_self]
            intro k hk
            simp only [decide_eq_true_eq]
            exact fun e => hx.1 (e ▸ hk)
          rw [List.filter_cons_of_neg (by simp), this]; simp
        · rw [List.filter_cons_of_pos (by simp [e])]
          have := ih hx.2
          simp only [List.length_cons]; omega
    omega

theorem Inv.free_le {M : PoolM} (h : M.Inv) : M.free.length ≤ M.bufs.length := short _ _ h.nodup fun k hk => ⟨(h.freeIn k hk).1, (h.freeIn k hk).2.1⟩
/-- Where one is lent not all are free. -/
theorem Inv.free_lt {M : PoolM} (h : M.Inv) {k : Nat} (hk : k < M.bufs.length) (ht : 0 < M.tk k) : M.free.length < M.bufs.length := by
  have hni : (k : Int) ∉ M.free := fun hc => by
    have := (h.freeIn _ hc).2.2
    simp at this; omega
  have := short M.bufs.length ((k : Int) :: M.free) (List.nodup_cons.2 ⟨hni, h.nodup⟩) fun j hj => by
    rcases List.mem_cons.1 hj with rfl | hj
    · omega
    · exact ⟨(h.freeIn j hj).1, (h.freeIn j hj).2.1⟩
  simp only [List.length_cons] at this
  omega

theorem tk_set {M : PoolM} {k : Nat} {x : Int × List UInt8} {fr : List Int} {c : Int} (hk : k < M.bufs.length) (j : Nat) : (⟨M.bufs.set k x, fr, c⟩ : PoolM).tk j = if j = k then x.1 else M.tk j := by
  unfold tk
  simp only [List.getElem?_set]
  by_cases e : j = k
  · subst e; simp [hk]
  · rw [if_neg (fun h => e h.symm), if_neg e]

theorem inv_lend {M : PoolM} (h : M.Inv) (b : List UInt8) : (M.lend b).2.2.Inv := by
  unfold lend
  split
  · exact h
  · rename_i hb
    split
    · exact h
    · rename_i k fr hf
      have hk := h.freeIn k (by rw [hf]; simp)
      have hkl : k.toNat < M.bufs.length := by omega
      have hkk : ((k.toNat : Nat) : Int) = k := by omega
      have hnd := h.nodup
      rw [hf] at hnd
      have hnd := List.nodup_cons.1 hnd
      refine ⟨by simpa using h.pos, by simpa using h.le, hnd.2, fun j hj => ?_, fun j hj ht => ?_, fun j x hx => ?_, by have := h.countPos; simp only; omega⟩
      · have hj' := h.freeIn j (by rw [hf]; simp [hj])
        refine ⟨hj'.1, by simpa using hj'.2.1, ?_⟩
        rw [tk_set hkl, if_neg]
        · exact hj'.2.2
        · intro e
          have : j = k := by omega
          subst this; exact hnd.1 hj
      · rw [tk_set hkl] at ht
        split at ht
        · have := h.countPos; simp only at ht; omega
        · rename_i hne
          have := h.inFree j (by simpa using hj) ht
          rw [hf] at this
          rcases List.mem_cons.1 this with e | e
          · exact absurd (by omega) hne
          · exact e
      · simp only [List.getElem?_set] at hx
        split at hx
        · cases hx
          exact ⟨by have := h.countPos; simp only; omega, Int.le_refl _, by simp only; omega⟩
        · have := h.tickets j x hx
          simp only; omega

theorem inv_write {M : PoolM} (h : M.Inv) (n t : Int) (b : List UInt8) : (M.write n t b).2.Inv := by
  unfold write
  split
  · rename_i h0
    obtain ⟨a1, a2, a3, a4⟩ := findE_zero h0
    split
    · exact h
    · rename_i hb
      have same : ∀ j, (⟨M.bufs.set n.toNat (t, b), M.free, M.count⟩ : PoolM).tk j = M.tk j := fun j => by
        rw [tk_set a2]; split
        · rename_i e; subst e; exact a4.symm
        · rfl
      refine ⟨by simpa using h.pos, by simpa using h.le, h.nodup, fun j hj => ?_, fun j hj ht => ?_, fun j x hx => ?_, h.countPos⟩
      · have := h.freeIn j hj
        exact ⟨this.1, by simpa using this.2.1, by rw [same]; exact this.2.2⟩
      · rw [same] at ht; exact h.inFree j (by simpa using hj) ht
      · simp only [List.getElem?_set] at hx
        split at hx
        · cases hx
          have := h.tickets _ _ (tk_get a2)
          simp only at this ⊢
          omega
        · exact h.tickets j x hx
  · exact h

theorem inv_give {M : PoolM} (h : M.Inv) (n t : Int) : (M.give n t).2.Inv := by
  unfold give
  split
  · rename_i h0
    obtain ⟨a1, a2, a3, a4⟩ := findE_zero h0
    have hnn : ((n.toNat : Nat) : Int) = n := by omega
    have hni : n ∉ M.free := fun hc => by
      have := (h.freeIn _ hc).2.2
      omega
    refine ⟨by simpa using h.pos, by simpa using h.le, ?_, fun j hj => ?_, fun j hj ht => ?_, fun j x hx => ?_, h.countPos⟩
    · refine List.nodup_append.2 ⟨h.nodup, by simp, fun x hx y hy => ?_⟩
      simp only [List.mem_singleton] at hy
      subst hy
      exact fun e => hni (e ▸ hx)
    · simp only [List.mem_append, List.mem_singleton] at hj
      rw [tk_set a2]
      rcases hj with hj | rfl
      · have := h.freeIn j hj
        refine ⟨this.1, by simpa using this.2.1, ?_⟩
        split
        · rfl
        · exact this.2.2
      · exact ⟨a1, by simp only [List.length_set]; omega, by rw [if_pos rfl]⟩
    · rw [tk_set a2] at ht
      simp only [List.mem_append, List.mem_singleton]
      split at ht
      · rename_i e; subst e; exact .inr hnn
      · exact .inl (h.inFree j (by simpa using hj) ht)
    · simp only [List.getElem?_set] at hx
      split at hx
      · cases hx; exact ⟨Int.le_refl _, h.countPos, by simp⟩
      · exact h.tickets j x hx
  · exact h

theorem inv_make {n : Nat} (h1 : 1 ≤ n) (h2 : n ≤ 256) : (make n).Inv := by
  have ht : ∀ j, (make n).tk j = 0 := fun j => by
    unfold tk make
    simp only [List.getElem?_replicate]
    split
    · rename_i x hx; split at hx
      · cases hx; rfl
      · cases hx
    · rfl
  refine ⟨by simpa [make] using h1, by simpa [make] using h2, ?_, fun k hk => ?_, fun k hk _ => ?_, fun k x hx => ?_, Int.le_refl _⟩
  · simp only [make]
    refine List.Pairwise.map _ (fun a b hab => ?_) List.nodup_range
    exact fun e => hab (by omega)
  · simp only [make, List.mem_map, List.mem_range] at hk ⊢
    obtain ⟨i, hi, rfl⟩ := hk
    exact ⟨by omega, by simp; omega, ht _⟩
  · simp only [make, List.mem_map, List.mem_range, List.length_replicate] at hk ⊢
    exact ⟨k, hk, rfl⟩
  · simp only [make, List.getElem?_replicate] at hx
    split at hx
    · cases hx; exact ⟨Int.le_refl _, Int.le_refl _, by simp⟩
    · cases hx
end PoolM

/-- The cells of the buffers. -/
def BufsAt (d : Array Value) (bufs : List (Int × List UInt8)) : Prop :=
  ∀ (k : Nat) (t : Int) (bs : List UInt8), bufs[k]? = some (t, bs) → d[k * 1516]? = some (.int .i64 t) ∧ (0 < t → d[k * 1516 + 1]? = some (.int .i64 bs.length) ∧ ∀ j, j < bs.length → d[k * 1516 + 2 + j]? = (u8s bs)[j]?)

theorem BufsAt.set {d d' : Array Value} {bufs : List (Int × List UInt8)} (h : BufsAt d bufs) {k : Nat} {t : Int} {bs : List UInt8}
    (out : ∀ j, j < k * 1516 ∨ k * 1516 + 1516 ≤ j → d'[j]? = d[j]?) (hlen : ∀ (i : Nat) (t : Int) (bs : List UInt8), bufs[i]? = some (t, bs) → bs.length ≤ 1514)
    (h1 : d'[k * 1516]? = some (.int .i64 t)) (h2 : 0 < t → d'[k * 1516 + 1]? = some (.int .i64 bs.length) ∧ ∀ j, j < bs.length → d'[k * 1516 + 2 + j]? = (u8s bs)[j]?) : BufsAt d' (bufs.set k (t, bs)) := by
  intro i t' bs' hi
  rw [List.getElem?_set] at hi
  by_cases e : k = i
  · subst e
    rw [if_pos rfl] at hi
    split at hi
    · cases hi; exact ⟨h1, h2⟩
    · cases hi
  · rw [if_neg e] at hi
    have hb := hlen _ _ _ hi
    obtain ⟨g1, g2⟩ := h i t' bs' hi
    refine ⟨by rw [out _ (by omega)]; exact g1, fun ht => ?_⟩
    obtain ⟨g3, g4⟩ := g2 ht
    refine ⟨by rw [out _ (by omega)]; exact g3, fun j hj => by rw [out _ (by omega)]; exact g4 j hj⟩

/-- The pool at block b, its buffers at block bl. -/
structure PoolAt (H : Heap) (b bl : Nat) (M : PoolM) (c d : Array Value) (first : Nat) : Prop where
  inv : M.Inv
  blkP : Blk H b T_pool_Pool c
  size : c.size = 260
  l : c[0]? = some (.slice (some ⟨bl, 0, none⟩) M.bufs.length M.bufs.length)
  first_ : c[257]? = some (.int .i64 first)
  many : c[258]? = some (.int .i64 M.free.length)
  count : c[259]? = some (.int .i64 M.count)
  firstLt : first < 256
  ring : ∀ (i : Nat) (k : Int), M.free[i]? = some k → c[1 + (first + i) % 256]? = some (.int .i64 k)
  blkB : Blk H bl T_pool_buffer d
  sizeB : d.size = M.bufs.length * 1516
  bufs : BufsAt d M.bufs

theorem PoolAt.ne {H : Heap} {b bl : Nat} {M : PoolM} {c d : Array Value} {f : Nat} (h : PoolAt H b bl M c d f) : b ≠ bl := fun e => by
  have h1 := h.blkP
  have h2 := h.blkB
  subst e
  unfold Blk at h1 h2
  rw [h1] at h2
  cases h2
theorem PoolAt.keep {S : Nat → Prop} {H H' : Heap} {b bl : Nat} {M : PoolM} {c d : Array Value} {f : Nat} (h : PoolAt H b bl M c d f) (k : Keep S H H') (h1 : ¬ S b) (h2 : ¬ S bl) : PoolAt H' b bl M c d f :=
  { h with blkP := k.blk h.blkP h1, blkB := k.blk h.blkB h2 }

theorem pool_is_spec {H : Heap} {b bl n m : Nat} {T : TypeId} {c : Array Value} (hb : Blk H b T c) (h0 : c[0]? = some (.slice (some ⟨bl, 0, none⟩) n m)) :
    FnW Try.prog f_pool_Pool_is ⟨[.pointer (some ⟨b, 0, none⟩)]⟩ H fun v H' => v = .bool true ∧ H = H' := by
  refine pool_Pool_is_sh b ?_
  exact ⟨_, _, _, by rw [hb.cell]; exact h0, rfl, rfl⟩

theorem pool_find_spec {H : Heap} {b bl : Nat} {M : PoolM} {c d : Array Value} {f : Nat} (hp : PoolAt H b bl M c d f) (n t : Int) :
    FnW Try.prog f_pool_Pool_find ⟨[.pointer (some ⟨b, 0, none⟩), .agg ⟨[.int .i64 n, .int .i64 t]⟩]⟩ H fun v H' => Keep Nil H H' ∧
      v = .tuple ⟨[.pointer (if M.findE n t = 0 then some ⟨bl, 0 + n.toNat * 1516, none⟩ else none), .int .i64 (M.findE n t)]⟩ := by
  refine pool_Pool_find_sh b n t ?_
  unfold pool_Pool_find_p
  refine NewW.intro fun m hm => ?_
  have k1 : Keep Nil H (H.upd m (.cells ⟨[.int .i64 n, .int .i64 t]⟩ T_pool_Handle)) := (Keep.refl _ _).new hm
  have hp1 := hp.keep k1 (fun h => h) (fun h => h)
  have hm1 : Blk (H.upd m (.cells ⟨[.int .i64 n, .int .i64 t]⟩ T_pool_Handle)) m T_pool_Handle ⟨[.int .i64 n, .int .i64 t]⟩ := Blk.upd_eq
  generalize H.upd m (.cells ⟨[.int .i64 n, .int .i64 t]⟩ T_pool_Handle) = H1 at *
  refine (pool_is_spec hp1.blkP hp1.l).mono ?_
  rintro v H2 ⟨rfl, rfl⟩
  refine ⟨_, rfl, ?_⟩
  simp only [Bool.not_true, IfB_false]
  have hN : H1.cell ⟨m, 0, none⟩ = some (.int .i64 n) := by rw [hm1.cell]; rfl
  have hT : H1.cell ⟨m, 1, none⟩ = some (.int .i64 t) := by rw [hm1.cell]; rfl
  have hL : H1.cell ⟨b, 0, none⟩ = some (.slice (some ⟨bl, 0, none⟩) M.bufs.length M.bufs.length) := by rw [hp1.blkP.cell]; exact hp1.l
  refine ⟨n, hN, ?_⟩
  have j0 : ∀ x : Bool, x = decide (n < 0 ∨ n ≥ M.bufs.length) → pool_Pool_find_j0 b m x H1 (fun v H' => Keep Nil H H' ∧ v = .tuple ⟨[.pointer (if M.findE n t = 0 then some ⟨bl, 0 + n.toNat * 1516, none⟩ else none), .int .i64 (M.findE n t)]⟩) := by
    intro x hx
    unfold pool_Pool_find_j0
    subst hx
    by_cases h1 : n < 0 ∨ n ≥ M.bufs.length
    · rw [decide_eq_true h1]
      have he : M.findE n t = 2 := by unfold PoolM.findE; rw [if_pos h1]
      refine ⟨k1, ?_⟩
      rw [he]; rfl
    · rw [decide_eq_false h1]
      have hlt : n.toNat < M.bufs.length := by omega
      have hnn : n = (n.toNat : Int) := by omega
      have j1 : ∀ x : Bool, x = decide (t < 1 ∨ M.tk n.toNat ≠ t) → pool_Pool_find_j1 b m x H1 (fun v H' => Keep Nil H H' ∧ v = .tuple ⟨[.pointer (if M.findE n t = 0 then some ⟨bl, 0 + n.toNat * 1516, none⟩ else none), .int .i64 (M.findE n t)]⟩) := by
        intro x hx
        unfold pool_Pool_find_j1
        subst hx
        by_cases h2 : t < 1 ∨ M.tk n.toNat ≠ t
        · rw [decide_eq_true h2]
          have he : M.findE n t = 5 := by unfold PoolM.findE; rw [if_neg h1, if_pos h2]
          refine ⟨k1, ?_⟩
          rw [he]; rfl
        · rw [decide_eq_false h2]
          have he : M.findE n t = 0 := by unfold PoolM.findE; rw [if_neg h1, if_neg h2]
          refine ⟨_, _, _, hL, n, hN, ?_⟩
          refine NilP.intro _ rfl (InB.intro n.toNat hnn hlt ?_)
          refine ⟨k1, ?_⟩
          rw [he]; rfl
      refine ⟨t, hT, ?_⟩
      by_cases h3 : t < 1
      · rw [decide_eq_true h3]
        exact j1 _ (by rw [decide_eq_true (.inl h3)])
      · rw [decide_eq_false h3]
        refine ⟨_, _, _, hL, n, hN, ?_⟩
        refine NilP.intro _ rfl (InB.intro n.toNat hnn hlt ?_)
        obtain ⟨g1, _⟩ := hp1.bufs _ _ _ (PoolM.tk_get hlt)
        refine ⟨M.tk n.toNat, by rw [hp1.blkB.cell, Nat.zero_add]; exact g1, t, hT, j1 _ ?_⟩
        by_cases e : M.tk n.toNat = t
        · rw [decide_eq_false (by simp [h3, e])]; simp [e]
        · rw [decide_eq_true (.inr e)]; simp [e]
  by_cases h3 : n < 0
  · rw [decide_eq_true h3]
    exact j0 _ (by rw [decide_eq_true (.inl h3)])
  · rw [decide_eq_false h3]
    refine ⟨n, hN, _, _, _, hL, j0 _ ?_⟩
    by_cases e : n ≥ M.bufs.length
    · rw [decide_eq_true e, decide_eq_true (.inr e)]
    · rw [decide_eq_false e, decide_eq_false (by simp [h3, e])]

end Go.Proofs.Ytligjponbhnedaa
