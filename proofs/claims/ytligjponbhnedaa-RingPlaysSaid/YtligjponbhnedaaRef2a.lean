/-
  Layer 2's other pool, that of the verifier: what it holds; its calls that change nothing.
-/
import Derived.Test.YtligjponbhnedaaPool5
set_option maxRecDepth 100000
namespace Go.Proofs.Ytligjponbhnedaa
open Go.Sh

def noHeap : Heap := ⟨fun _ => none, 0, fun _ _ => rfl⟩
theorem Keep.none {S : Nat → Prop} {H : Heap} : Keep S noHeap H := ⟨fun _ _ h => absurd rfl h, fun _ h => absurd rfl h⟩
theorem Blk.type {H : Heap} {b : Nat} {T T' : TypeId} {c c' : Array Value} (h : Blk H b T c) (h' : Blk H b T' c') : T = T' := by
  unfold Blk at h h'
  rw [h] at h'
  cases h'; rfl

def i64s (l : List Int) : List Value := l.map fun x => .int .i64 x
@[simp] theorem i64s_length (l : List Int) : (i64s l).length = l.length := by simp [i64s]
theorem i64s_get {l : List Int} {i : Nat} (h : i < l.length) : (i64s l)[i]? = some (.int .i64 l[i]) := by simp [i64s, h]

/-- The buffers: a ticket and a row of bytes each. -/
def RBufs (H : Heap) (d : Array Value) (l : List (Int × List UInt8)) : Prop :=
  ∀ (k : Nat) (t : Int) (bs : List UInt8), l[k]? = some (t, bs) → d[k * 2]? = some (.int .i64 t) ∧ ∃ a n cap, d[k * 2 + 1]? = some (.slice a n cap) ∧ Own noHeap H a n cap 1 T_uint8 (u8s bs)

theorem RBufs.keep {S : Nat → Prop} {H H' : Heap} {d : Array Value} {l : List (Int × List UInt8)} (h : RBufs H d l) (k : Keep S H H') (hs : ∀ x c, Blk H x T_uint8 c → ¬ S x) : RBufs H' d l := by
  intro i t bs hi
  obtain ⟨h1, a, n, cap, h2, h3⟩ := h i t bs hi
  refine ⟨h1, a, n, cap, h2, h3.keep k fun b hb => ?_⟩
  obtain ⟨c, hc⟩ := h3.live hb
  exact hs b c hc

theorem RBufs.set {H : Heap} {d d' : Array Value} {l : List (Int × List UInt8)} (h : RBufs H d l) {k : Nat} {t : Int} {bs : List UInt8} {a : Option Addr} {n cap : Nat}
    (h1 : d'[k * 2]? = some (.int .i64 t)) (h2 : d'[k * 2 + 1]? = some (.slice a n cap)) (h3 : Own noHeap H a n cap 1 T_uint8 (u8s bs)) (h4 : ∀ j, j ≠ k * 2 → j ≠ k * 2 + 1 → d'[j]? = d[j]?) : RBufs H d' (l.set k (t, bs)) := by
  intro i t' bs' hi
  by_cases e : i = k
  · subst e
    rw [List.getElem?_set] at hi
    simp only [if_true] at hi
    split at hi
    · cases hi
      exact ⟨h1, a, n, cap, h2, h3⟩
    · cases hi
  · rw [List.getElem?_set_ne (fun x => e x.symm)] at hi
    obtain ⟨g1, a', n', cap', g2, g3⟩ := h i t' bs' hi
    exact ⟨by rw [h4 _ (by omega) (by omega)]; exact g1, a', n', cap', by rw [h4 _ (by omega) (by omega)]; exact g2, g3⟩

structure RAt (H0 H : Heap) (b bl : Nat) (M : PoolM) (fa : Option Addr) (fc : Nat) (d : Array Value) : Prop where
  inv : M.Inv
  newP : H0 b = none
  newL : H0 bl = none
  blkP : Blk H b T_ref02_Pool ⟨[.slice (some ⟨bl, 0, none⟩) M.bufs.length M.bufs.length, .slice fa M.free.length fc, .int .i64 M.count]⟩
  free : Own H0 H fa M.free.length fc 1 T_int (i64s M.free)
  blkB : Blk H bl T_ref02_Buf d
  sizeB : d.size = M.bufs.length * 2
  bufs : RBufs H d M.bufs

/-- The blocks that its calls may turn. -/
def rset (b bl : Nat) (fa : Option Addr) : Nat → Prop := fun x => x = b ∨ x = bl ∨ fa = some ⟨x, 0, none⟩

theorem RAt.keep {S : Nat → Prop} {H0 H H' : Heap} {b bl : Nat} {M : PoolM} {fa : Option Addr} {fc : Nat} {d : Array Value} (h : RAt H0 H b bl M fa fc d) (k : Keep S H H')
    (hs : ∀ x T c, T = T_ref02_Pool ∨ T = T_ref02_Buf ∨ T = T_int ∨ T = T_uint8 → Blk H x T c → ¬ S x) : RAt H0 H' b bl M fa fc d :=
  { h with
    blkP := k.blk h.blkP (hs _ _ _ (.inl rfl) h.blkP)
    blkB := k.blk h.blkB (hs _ _ _ (.inr (.inl rfl)) h.blkB)
    free := h.free.keep k fun x hx => by
      obtain ⟨c, hc⟩ := h.free.live hx
      exact hs _ _ _ (.inr (.inr (.inl rfl))) hc
    bufs := h.bufs.keep k fun x c hc => hs _ _ _ (.inr (.inr (.inr rfl))) hc }
theorem RAt.keepN {H0 H H' : Heap} {b bl : Nat} {M : PoolM} {fa : Option Addr} {fc : Nat} {d : Array Value} (h : RAt H0 H b bl M fa fc d) (k : Keep Nil H H') : RAt H0 H' b bl M fa fc d :=
  h.keep k fun _ _ _ _ _ x => x
theorem RAt.types {H0 H : Heap} {b bl : Nat} {M : PoolM} {fa : Option Addr} {fc : Nat} {d : Array Value} (h : RAt H0 H b bl M fa fc d) {x : Nat} (hx : rset b bl fa x) : ∃ T c, (T = T_ref02_Pool ∨ T = T_ref02_Buf ∨ T = T_int) ∧ Blk H x T c := by
  rcases hx with rfl | rfl | hx
  · exact ⟨_, _, .inl rfl, h.blkP⟩
  · exact ⟨_, _, .inr (.inl rfl), h.blkB⟩
  · obtain ⟨c, hc⟩ := h.free.live hx
    exact ⟨_, c, .inr (.inr rfl), hc⟩
theorem RAt.fresh {H0 H : Heap} {b bl : Nat} {M : PoolM} {fa : Option Addr} {fc : Nat} {d : Array Value} (h : RAt H0 H b bl M fa fc d) {x : Nat} (hx : rset b bl fa x) : H0 x = none := by
  rcases hx with rfl | rfl | hx
  · exact h.newP
  · exact h.newL
  · exact h.free.free hx

theorem ref_find_spec {H0 H : Heap} {b bl : Nat} {M : PoolM} {fa : Option Addr} {fc : Nat} {d : Array Value} (hp : RAt H0 H b bl M fa fc d) (n t : Int) :
    FnW Try.prog f_ref02_Pool_find ⟨[.pointer (some ⟨b, 0, none⟩), .agg ⟨[.int .i64 n, .int .i64 t]⟩]⟩ H fun v H' => Keep Nil H H' ∧ v = .int .i64 (M.findE n t) := by
  refine ref02_Pool_find_sh b n t ?_
  unfold ref02_Pool_find_p
  refine NewW.intro fun m hm => ?_
  have k1 : Keep Nil H (H.upd m (.cells ⟨[.int .i64 n, .int .i64 t]⟩ T_ref02_Handle)) := (Keep.refl _ _).new hm
  have hp1 := hp.keepN k1
  have hm1 : Blk (H.upd m (.cells ⟨[.int .i64 n, .int .i64 t]⟩ T_ref02_Handle)) m T_ref02_Handle ⟨[.int .i64 n, .int .i64 t]⟩ := Blk.upd_eq
  generalize H.upd m (.cells ⟨[.int .i64 n, .int .i64 t]⟩ T_ref02_Handle) = H1 at *
  have hN : H1.cell ⟨m, 0, none⟩ = some (.int .i64 n) := by rw [hm1.cell]; rfl
  have hT : H1.cell ⟨m, 1, none⟩ = some (.int .i64 t) := by rw [hm1.cell]; rfl
  have hL : H1.cell ⟨b, 0, none⟩ = some (.slice (some ⟨bl, 0, none⟩) M.bufs.length M.bufs.length) := by rw [hp1.blkP.cell]; rfl
  refine ⟨n, hN, ?_⟩
  have j0 : ∀ x : Bool, x = decide (n < 0 ∨ n ≥ M.bufs.length) → ref02_Pool_find_j0 b m x H1 (fun v H' => Keep Nil H H' ∧ v = .int .i64 (M.findE n t)) := by
    intro x hx
    unfold ref02_Pool_find_j0
    subst hx
    by_cases h1 : n < 0 ∨ n ≥ M.bufs.length
    · rw [decide_eq_true h1]
      have he : M.findE n t = 2 := by unfold PoolM.findE; rw [if_pos h1]
      refine ⟨k1, ?_⟩
      rw [he]
    · rw [decide_eq_false h1]
      have hlt : n.toNat < M.bufs.length := by omega
      have hnn : n = (n.toNat : Int) := by omega
      have j1 : ∀ x : Bool, x = decide (t < 1 ∨ M.tk n.toNat ≠ t) → ref02_Pool_find_j1 x H1 (fun v H' => Keep Nil H H' ∧ v = .int .i64 (M.findE n t)) := by
        intro x hx
        unfold ref02_Pool_find_j1
        subst hx
        by_cases h2 : t < 1 ∨ M.tk n.toNat ≠ t
        · rw [decide_eq_true h2]
          have he : M.findE n t = 5 := by unfold PoolM.findE; rw [if_neg h1, if_pos h2]
          refine ⟨k1, ?_⟩
          rw [he]
        · rw [decide_eq_false h2]
          have he : M.findE n t = 0 := by unfold PoolM.findE; rw [if_neg h1, if_neg h2]
          refine ⟨k1, ?_⟩
          rw [he]
      refine ⟨t, hT, ?_⟩
      by_cases h3 : t < 1
      · rw [decide_eq_true h3]
        exact j1 _ (by rw [decide_eq_true (.inl h3)])
      · rw [decide_eq_false h3]
        refine ⟨_, _, _, hL, n, hN, ?_⟩
        refine NilP.intro _ rfl (InB.intro n.toNat hnn hlt ?_)
        obtain ⟨g1, _⟩ := hp1.bufs _ _ _ (PoolM.tk_get hlt)
        refine ⟨M.tk n.toNat, by rw [hp1.blkB.cell, Nat.zero_add]; exact g1, t, hT, j1 _ ?_⟩
        by_cases e : M.tk n.toNat = t
        · rw [decide_eq_false (by simp [h3, e])]; simp [e]
        · rw [decide_eq_true (.inr e)]; simp [e]
  by_cases h3 : n < 0
  · rw [decide_eq_true h3]
    exact j0 _ (by rw [decide_eq_true (.inl h3)])
  · rw [decide_eq_false h3]
    refine ⟨n, hN, _, _, _, hL, j0 _ ?_⟩
    by_cases e : n ≥ M.bufs.length
    · rw [decide_eq_true e, decide_eq_true (.inr e)]
    · rw [decide_eq_false e, decide_eq_false (by simp [h3, e])]

/-- append([]byte{}, x...): a copy of one's own. -/
theorem copy_bytes {H : Heap} {a : Option Addr} {n cap : Nat} {bs : List UInt8} {K : Nat → Value → Heap → Prop} (hr : IsBytes H a n bs) (hn : n ≤ 1000000)
    (h : ∀ m a' cap' H', Own H H' a' n cap' 1 T_uint8 (u8s bs) → Keep Nil H H' → K m (.slice a' n cap') H') :
    NewW H (.cells ⟨[]⟩ T_uint8) fun m H1 => AppW Try.prog #[T_sl_uint8, T_sl_uint8] T_sl_uint8 [.slice (some ⟨m, 0, none⟩) 0 0, .slice a n cap] H1 (K m) := by
  refine NewW.intro fun m hm => ?_
  have k1 : Keep Nil H (H.upd m (.cells ⟨[]⟩ T_uint8)) := (Keep.refl _ _).new hm
  obtain ⟨it, hi, hsz, hby⟩ := row_uint8.info
  refine own_append (H0 := H) (S := Nil) (sz := 1) (new := u8s bs) und_sl_uint8 und_sl_uint8 hi hsz hby (by omega) row_uint8.zero rfl (Own.start hm Blk.upd_eq) k1 (by rw [Nat.mul_one]; exact Reads.keep hr k1 fun _ _ h => h) (u8s_plain bs) (by omega) ?_
  intro a' cap' H' ho _ k
  rw [Nat.zero_add] at *
  exact h m a' cap' H' (by simpa using ho) k

theorem RAt.buf {H0 H : Heap} {b bl : Nat} {M : PoolM} {fa : Option Addr} {fc : Nat} {d : Array Value} (hp : RAt H0 H b bl M fa fc d) {k : Nat} (hk : k < M.bufs.length) :
    d[k * 2]? = some (.int .i64 (M.tk k)) ∧ (M.bytes k).length ≤ 1514 ∧ ∃ a n cap, d[k * 2 + 1]? = some (.slice a n cap) ∧ IsBytes H a n (M.bytes k) := by
  obtain ⟨g1, a, n, cap, g2, g3⟩ := hp.bufs _ _ _ (PoolM.tk_get hk)
  obtain ⟨_, _, g4⟩ := hp.inv.tickets _ _ (PoolM.tk_get hk)
  have := g3.reads
  rw [Nat.mul_one] at this
  exact ⟨g1, g4, a, n, cap, g2, this⟩

theorem ref_Read_spec {H0 H : Heap} {b bl : Nat} {M : PoolM} {fa : Option Addr} {fc : Nat} {d : Array Value} (hp : RAt H0 H b bl M fa fc d) (n t : Int) :
    FnW Try.prog f_ref02_Pool_Read ⟨[.pointer (some ⟨b, 0, none⟩), .agg ⟨[.int .i64 n, .int .i64 t]⟩]⟩ H fun v H' => Keep Nil H H' ∧ ∃ a m cap, v = .tuple ⟨[.slice a m cap, .int .i64 (M.read n t).2]⟩ ∧ IsBytes H' a m (M.read n t).1 := by
  refine ref02_Pool_Read_sh b n t ?_
  unfold ref02_Pool_Read_p
  refine pair_in fun h H1 _ k1 hB => (ref_find_spec (hp.keepN k1) n t).mono ?_
  rintro v H2 ⟨k2, rfl⟩
  have k12 := k1.trans k2
  have hB2 := k2.blk hB (nil_no h)
  have hp2 := hp.keepN k12
  refine ⟨_, rfl, ?_⟩
  unfold PoolM.read
  rw [findE_intne]
  by_cases h0 : M.findE n t = 0
  · rw [if_pos h0, h0, decide_eq_false (by simp), IfB_false]
    obtain ⟨a1, a2, a3, a4⟩ := PoolM.findE_zero h0
    obtain ⟨g1, g4, a, m, cap, g2, g3⟩ := hp2.buf a2
    have hm := g3.len
    have := copy_bytes (cap := cap) (K := fun x v H' => ∃ (x23a : Option Addr) (x23n x23c : Nat), v = (Value.slice x23a x23n x23c) ∧ (Keep Nil H H' ∧ ∃ a m cap, (Value.tuple ⟨[(Value.slice x23a x23n x23c), (Value.int .i64 0)]⟩) = Value.tuple ⟨[.slice a m cap, .int .i64 0]⟩ ∧ IsBytes H' a m (M.bytes n.toNat))) g3 (by omega) (fun _ a' cap' H' ho k => ⟨_, _, _, rfl, k12.trans k, _, _, _, rfl, by have := ho.reads; rw [Nat.mul_one] at this; exact this⟩)
    refine NewW.intro fun x hx => ?_
    have h3 := this x hx
    have kx : Keep Nil H2 (H2.upd x (.cells ⟨[]⟩ T_uint8)) := (Keep.refl _ _).new hx
    refine ⟨_, _, _, by rw [(kx.blk hp2.blkP (nil_no _)).cell]; rfl, n, by rw [(kx.blk hB2 (nil_no _)).cell]; rfl, NilP.intro _ rfl (InB.intro n.toNat (by omega) a2 ?_)⟩
    exact ⟨_, _, _, by rw [(kx.blk hp2.blkB (nil_no _)).cell]; simpa using g2, h3⟩
  · rw [if_neg h0, decide_eq_true (by simpa using h0), IfB_true]
    exact ⟨k12, _, _, _, rfl, Reads.nil⟩

end Go.Proofs.Ytligjponbhnedaa
