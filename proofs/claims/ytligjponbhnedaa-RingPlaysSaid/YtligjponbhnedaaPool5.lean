/-
  Layer 2, the pool: which buffers are lent; and the draw of a number below n.
-/
import Derived.Test.YtligjponbhnedaaVoid
import Derived.Test.YtligjponbhnedaaSh14
set_option maxRecDepth 100000
namespace Go.Proofs.Ytligjponbhnedaa
open Go.Sh

/-- A number below n that x stands for. -/
def amongV (x : Int) (n : Nat) : Nat := ((x % 18446744073709551616) % n).toNat
theorem amongV_lt (x : Int) {n : Nat} (h : 0 < n) : amongV x n < n := by
  unfold amongV
  have h1 := Int.emod_nonneg (x % 18446744073709551616) (b := (n : Int)) (by omega)
  have h2 := Int.emod_lt_of_pos (x % 18446744073709551616) (b := (n : Int)) (by omega)
  omega

theorem base_Among_spec {H : Heap} (x : Int) {n : Nat} (h0 : 0 < n) (h1 : n < 2 ^ 62) : FnW Try.prog f_base_Among ⟨[.int .i64 x, .int .i64 n]⟩ H fun v H' => v = .int .i64 (amongV x n) ∧ H = H' := by
  refine base_Among_sh x n ?_
  unfold base_Among_p
  rw [decide_eq_false (by omega), IfB_false]
  have hw : IntKind.wrap .u64 (n : Int) = n := by
    change (n : Int) % 18446744073709551616 = n
    omega
  have hx : IntKind.wrap .u64 x = x % 18446744073709551616 := rfl
  have h3 := Int.emod_nonneg x (b := 18446744073709551616) (by omega)
  have h4 : Int.tmod (x % 18446744073709551616) n = (amongV x n : Nat) := by
    rw [Int.tmod_eq_emod_of_nonneg h3]
    unfold amongV
    have := Int.emod_nonneg (x % 18446744073709551616) (b := (n : Int)) (by omega)
    omega
  have h5 := amongV_lt x h0
  refine ⟨by rw [hw]; omega, ?_⟩
  rw [hw, hx, h4, wrap_id (by omega) (by omega)]
  exact ⟨rfl, rfl⟩

/-- Pairs, cell behind cell. -/
def prs (l : List (Int × Int)) : List Value := l.flatMap fun p => [.int .i64 p.1, .int .i64 p.2]
theorem prs_append (a b : List (Int × Int)) : prs (a ++ b) = prs a ++ prs b := by simp [prs]
theorem prs_length (l : List (Int × Int)) : (prs l).length = l.length * 2 := by
  induction l with
  | nil => rfl
  | cons x xs ih => simp only [prs, List.flatMap_cons] at *; simp [ih]; omega
theorem prs_get0 (l : List (Int × Int)) {i : Nat} (h : i < l.length) : (prs l)[i * 2]? = some (.int .i64 l[i].1) := by
  induction l generalizing i with
  | nil => simp at h
  | cons x xs ih =>
    cases i with
    | zero => rfl
    | succ i =>
      simp only [List.length_cons] at h
      have := ih (i := i) (by omega)
      rw [show (i + 1) * 2 = i * 2 + 2 by omega]
      simpa [prs] using this
theorem prs_get1 (l : List (Int × Int)) {i : Nat} (h : i < l.length) : (prs l)[i * 2 + 1]? = some (.int .i64 l[i].2) := by
  induction l generalizing i with
  | nil => simp at h
  | cons x xs ih =>
    cases i with
    | zero => rfl
    | succ i =>
      simp only [List.length_cons] at h
      have := ih (i := i) (by omega)
      rw [show (i + 1) * 2 + 1 = i * 2 + 1 + 2 by omega]
      simpa [prs] using this

namespace PoolM
def lentTo (M : PoolM) (i : Nat) : List (Int × Int) := ((List.range i).filter fun k : Nat => decide (M.tk k > 0)).map fun k : Nat => ((k : Int), M.tk k)
/-- The handles of what is lent. -/
def lent (M : PoolM) : List (Int × Int) := M.lentTo M.bufs.length
theorem lentTo_succ (M : PoolM) (i : Nat) : M.lentTo (i + 1) = if M.tk i > 0 then M.lentTo i ++ [((i : Int), M.tk i)] else M.lentTo i := by
  unfold lentTo
  rw [List.range_succ, List.filter_append, List.map_append]
  by_cases h : M.tk i > 0
  · rw [if_pos h]; simp [h]
  · rw [if_neg h]; simp [h]
theorem lentTo_le (M : PoolM) (i : Nat) : (M.lentTo i).length ≤ i := by
  unfold lentTo
  rw [List.length_map]
  have := List.length_filter_le (fun k : Nat => decide (M.tk k > 0)) (List.range i)
  simpa using this
theorem lent_in {M : PoolM} {p : Int × Int} (h : p ∈ M.lent) : ∃ k : Nat, p = ((k : Int), M.tk k) ∧ k < M.bufs.length ∧ 0 < M.tk k := by
  unfold lent lentTo at h
  simp only [List.mem_map, List.mem_filter, List.mem_range, decide_eq_true_eq] at h
  obtain ⟨k, ⟨h1, h2⟩, rfl⟩ := h
  exact ⟨k, rfl, h1, h2⟩
theorem lent_findE {M : PoolM} {p : Int × Int} (h : p ∈ M.lent) : M.findE p.1 p.2 = 0 := by
  obtain ⟨k, rfl, h1, h2⟩ := lent_in h
  unfold findE
  rw [if_neg (by simp only; omega)]
  have : ((k : Int)).toNat = k := by omega
  simp only [this]
  rw [if_neg (by omega)]
end PoolM

theorem row_Handle : Row T_pool_Handle [.int .i64 0, .int .i64 0] 2 16 := Row.mk' (by kernel_rfl) (by kernel_rfl) rfl
theorem und_sl_Handle : Try.prog.underlying T_sl_pool_Handle = some (.slice T_pool_Handle) := by kernel_rfl
theorem row_RHandle : Row T_ref02_Handle [.int .i64 0, .int .i64 0] 2 16 := Row.mk' (by kernel_rfl) (by kernel_rfl) rfl
theorem und_sl_RHandle : Try.prog.underlying T_sl_pointsmanref02_Handle = some (.slice T_ref02_Handle) := by kernel_rfl
theorem und_sl_int : Try.prog.underlying T_sl_int = some (.slice T_int) := by kernel_rfl

/-- append(l, x), x of one element that is made in place. -/
theorem own_push {st e : TypeId} {H0 H : Heap} {a : Option Addr} {n cap sz by_ : Nat} {xs new z : List Value} {K : Nat → Value → Heap → Prop} {S : Nat → Prop} {T : TypeId}
    (hu : Try.prog.underlying st = some (.slice e)) (hr : Row e z sz by_) (hb0 : by_ ≠ 0) (hb1 : by_ ≤ 1024)
    (ho : Own H0 H a n cap sz e xs) (k0 : Keep S H0 H) (hl : new.length = sz) (hpl : ∀ v ∈ new, plainC v = true) (hn : n ≤ 1000000)
    (h : ∀ m a' cap' H', Own H0 H' a' (n + 1) cap' sz e (xs ++ new) → Keep (fun b => a = some ⟨b, 0, none⟩) H H' → Keep S H0 H' → K m (.slice a' (n + 1) cap') H') :
    NewW H (.cells ⟨new⟩ T) fun m H1 => AppW Try.prog #[st, st] st [.slice a n cap, .slice (some ⟨m, 0, none⟩) 1 1] H1 (K m) := by
  refine NewW.intro fun m hm => ?_
  have k1 : Keep Nil H (H.upd m (.cells ⟨new⟩ T)) := (Keep.refl _ _).new hm
  have hb : Blk (H.upd m (.cells ⟨new⟩ T)) m T ⟨new⟩ := Blk.upd_eq
  generalize H.upd m (.cells ⟨new⟩ T) = H1 at *
  obtain ⟨it, hi, hsz, hby⟩ := hr.info
  have hfit : (2 * (n + 1) + 192) * by_ ≤ 2 ^ 48 := by
    have : (2 * (n + 1) + 192) * by_ ≤ (2 * (n + 1) + 192) * 1024 := Nat.mul_le_mul_left _ hb1
    omega
  refine own_append (H0 := H0) (S := S) (new := new) (sz := sz) hu hu hi hsz hby hb0 hr.zero (by rw [hr.len]) (ho.keep k1 fun _ _ h => h) (k0.trans (k1.mono fun _ h => h.elim)) ?_ hpl hfit ?_
  · exact Reads.blk hb (by omega) (fun j hj => by simp)
  · intro a' cap' H' ho' k k'
    exact h m a' cap' H' ho' ((k1.mono fun _ h => h.elim).trans k) k'

theorem pool_Size_val {H : Heap} {b bl : Nat} {M : PoolM} {c d : Array Value} {f : Nat} (hp : PoolAt H b bl M c d f) :
    FnW Try.prog f_pool_Pool_Size ⟨[.pointer (some ⟨b, 0, none⟩)]⟩ H fun v H' => v = .int .i64 M.bufs.length ∧ H = H' := by
  refine pool_Pool_Size_sh b ?_
  unfold pool_Pool_Size_p
  refine (pool_is_spec hp.blkP hp.l).mono ?_
  rintro v H1 ⟨rfl, rfl⟩
  refine ⟨_, rfl, ?_⟩
  rw [Bool.not_true, IfB_false]
  exact ⟨_, _, _, by rw [hp.blkP.cell]; exact hp.l, rfl, rfl⟩

theorem pool_Lent_spec {H : Heap} {b bl : Nat} {M : PoolM} {c d : Array Value} {f : Nat} (hp : PoolAt H b bl M c d f) :
    FnW Try.prog f_pool_Pool_Lent ⟨[.pointer (some ⟨b, 0, none⟩)]⟩ H fun v H' => Keep Nil H H' ∧ ∃ a cap, v = .slice a M.lent.length cap ∧ Own H H' a M.lent.length cap 2 T_pool_Handle (prs M.lent) := by
  refine pool_Pool_Lent_sh b ?_
  unfold pool_Pool_Lent_p
  refine (pool_Size_val hp).mono ?_
  rintro v _ ⟨rfl, rfl⟩
  refine ⟨_, rfl, ?_⟩
  have hle := hp.inv.le
  refine LoopI.intro (fun k x H1 => ∃ (i : Nat) (a : Option Addr) (cap : Nat), x = ((a, (M.lentTo i).length, cap), ((i : Int), ())) ∧ i ≤ M.bufs.length ∧ k = M.bufs.length - i ∧ Keep Nil H H1 ∧ Own H H1 a (M.lentTo i).length cap 2 T_pool_Handle (prs (M.lentTo i))) M.bufs.length
    ⟨0, none, 0, rfl, Nat.zero_le _, by omega, Keep.refl _ _, Own.nil⟩ ?_
  rintro k x H1 ⟨i, a, cap, rfl, hi, rfl, k1, ho⟩ g
  unfold pool_Pool_Lent_l3
  have hp1 := hp.keep k1 (nil_no _) (nil_no _)
  simp only
  by_cases hlt : i < M.bufs.length
  · rw [decide_eq_true (by omega), IfB_true]
    refine ⟨_, _, _, by rw [hp1.blkP.cell]; exact hp1.l, NilP.intro _ rfl (InB.intro i rfl hlt ?_)⟩
    obtain ⟨g1, _⟩ := hp1.bufs _ _ _ (PoolM.tk_get hlt)
    refine ⟨M.tk i, by rw [hp1.blkB.cell, Nat.zero_add]; exact g1, ?_⟩
    have hle2 := M.lentTo_le i
    have hs := M.lentTo_succ i
    by_cases ht : M.tk i > 0
    · rw [decide_eq_true ht, IfB_true]
      rw [if_pos ht] at hs
      refine own_push und_sl_Handle row_Handle (by omega) (by omega) ho k1 rfl (by simp [plainC]) (by omega) fun m a' cap' H' ho' _ k' => ?_
      refine ⟨_, _, _, rfl, ?_⟩
      unfold pool_Pool_Lent_j0
      refine ⟨M.bufs.length - (i + 1), by omega, i + 1, a', cap', ?_, by omega, rfl, k', ?_⟩
      · rw [hs, wrap_id (by omega) (by omega)]
        simp
      · rw [hs, prs_append]
        simpa [prs] using ho'
    · rw [decide_eq_false ht, IfB_false]
      rw [if_neg ht] at hs
      unfold pool_Pool_Lent_j0
      refine ⟨M.bufs.length - (i + 1), by omega, i + 1, a, cap, ?_, by omega, rfl, k1, ?_⟩
      · rw [hs, wrap_id (by omega) (by omega)]
        simp
      · rw [hs]; exact ho
  · rw [decide_eq_false (by omega), IfB_false]
    have he : i = M.bufs.length := by omega
    subst he
    exact ⟨k1, a, cap, rfl, ho⟩

end Go.Proofs.Ytligjponbhnedaa
