/-
  Layer 2, the pool: Make, Lent; a pool that no call made.
-/
import Derived.Test.YtligjponbhnedaaPool3
set_option maxRecDepth 100000
namespace Go.Proofs.Ytligjponbhnedaa
open Go.Sh

noncomputable def zbuf : List Value := (zeroL Try.prog T_pool_buffer).getD []
theorem row_buffer : Row T_pool_buffer zbuf 1516 1536 := Row.mk' (by kernel_rfl) (by kernel_rfl) (by kernel_rfl)
theorem zbuf0 : zbuf[0]? = some (.int .i64 0) := by kernel_rfl
theorem und_sl_buffer : Try.prog.underlying T_sl_pool_buffer = some (.slice T_pool_buffer) := by kernel_rfl
theorem zpool_len : zl_T_pool_Pool.length = 260 := by kernel_rfl
theorem zpool257 : zl_T_pool_Pool[257]? = some (.int .i64 0) := by kernel_rfl
theorem zpool259 : zl_T_pool_Pool[259]? = some (.int .i64 0) := by kernel_rfl

theorem setL_one (l : List Value) (o : Nat) (v : Value) : setL l o [v] = l.set o v := rfl

theorem LoopI.intro {T : Type} {x0 : T} {H : Heap} {body : T → Heap → (T → Heap → Prop) → Prop} (I : Nat → T → Heap → Prop) (k : Nat) (h0 : I k x0 H)
    (h : ∀ k x H, I k x H → body x H fun x' H' => ∃ k', k' < k ∧ I k' x' H') : LoopI T x0 H body := ⟨I, k, h0, h⟩

theorem pool_Make_no {H : Heap} {n : Int} (h : n < 1 ∨ 256 < n) :
    FnW Try.prog f_pool_Make ⟨[.int .i64 n]⟩ H fun v H' => v = .tuple ⟨[.pointer none, .int .i64 2]⟩ ∧ H = H' := by
  refine pool_Make_sh n ?_
  unfold pool_Make_p
  by_cases h1 : n < 1
  · rw [decide_eq_true h1]
    exact ⟨rfl, rfl⟩
  · rw [decide_eq_false h1]
    have h2 : n > 256 := by omega
    rw [decide_eq_true h2]
    exact ⟨rfl, rfl⟩

theorem pool_Make_spec {H : Heap} {n : Nat} (h1 : 1 ≤ n) (h2 : n ≤ 256) :
    FnW Try.prog f_pool_Make ⟨[.int .i64 n]⟩ H fun v H' => Keep Nil H H' ∧ ∃ b bl c d f, H b = none ∧ H bl = none ∧ v = .tuple ⟨[.pointer (some ⟨b, 0, none⟩), .int .i64 0]⟩ ∧ PoolAt H' b bl (PoolM.make n) c d f := by
  refine pool_Make_sh n ?_
  unfold pool_Make_p
  rw [decide_eq_false (by omega), decide_eq_false (by omega), IfB_false]
  unfold pool_Make_j0
  rw [IfB_false]
  obtain ⟨it, hi, hsz, hby⟩ := row_buffer.info
  refine MakeW.intro und_sl_buffer hi row_buffer.zero (by rw [hsz]; exact row_buffer.len) (Nat.le_refl n) (by omega) (by rw [hby]; omega) fun bl hbl => ?_
  refine ⟨_, _, _, rfl, ?_⟩
  have hzl : (repL n zbuf).length = n * 1516 := by rw [repL_length, row_buffer.len]
  have k1 : Keep Nil H (H.upd bl (.cells ⟨repL n zbuf⟩ T_pool_buffer)) := (Keep.refl _ _).new hbl
  have hB1 : Blk (H.upd bl (.cells ⟨repL n zbuf⟩ T_pool_buffer)) bl T_pool_buffer ⟨repL n zbuf⟩ := Blk.upd_eq
  generalize H.upd bl (.cells ⟨repL n zbuf⟩ T_pool_buffer) = H1 at *
  refine NewW.intro fun b hb => ?_
  have hb0 := k1.free hb
  have hne : bl ≠ b := hB1.ne hb
  rw [setL_one, setL_one]
  have k2 := k1.new (o := .cells ⟨(zl_T_pool_Pool.set 0 (.slice (some ⟨bl, 0, none⟩) n n)).set 258 (.int .i64 n)⟩ T_pool_Pool) hb
  have hB2 := hB1.upd_ne (o := .cells ⟨(zl_T_pool_Pool.set 0 (.slice (some ⟨bl, 0, none⟩) n n)).set 258 (.int .i64 n)⟩ T_pool_Pool) hne
  have hP2 : Blk (H1.upd b (.cells ⟨(zl_T_pool_Pool.set 0 (.slice (some ⟨bl, 0, none⟩) n n)).set 258 (.int .i64 n)⟩ T_pool_Pool)) b T_pool_Pool ⟨(zl_T_pool_Pool.set 0 (.slice (some ⟨bl, 0, none⟩) n n)).set 258 (.int .i64 n)⟩ := Blk.upd_eq
  generalize (H1.upd b (.cells ⟨(zl_T_pool_Pool.set 0 (.slice (some ⟨bl, 0, none⟩) n n)).set 258 (.int .i64 n)⟩ T_pool_Pool)) = H2 at *
  have zl := zpool_len
  refine LoopI.intro (fun k x H3 => ∃ i : Nat, x = ((i : Int), ()) ∧ i ≤ n ∧ k = n - i ∧ Keep Nil H H3 ∧ Blk H3 bl T_pool_buffer ⟨repL n zbuf⟩ ∧ ∃ c : Array Value, Blk H3 b T_pool_Pool c ∧ c.size = 260 ∧
    c[0]? = some (.slice (some ⟨bl, 0, none⟩) n n) ∧ c[257]? = some (.int .i64 0) ∧ c[258]? = some (.int .i64 n) ∧ c[259]? = some (.int .i64 0) ∧ ∀ j, j < i → c[1 + j]? = some (.int .i64 j)) n
    ⟨0, rfl, Nat.zero_le _, by omega, k2, hB2, _, hP2, by simp [zl], ?_, ?_, ?_, ?_, fun j hj => by omega⟩ ?_
  · simp [zl]
  · simp [zpool257]
  · simp [zl]
  · simp [zpool259]
  · rintro k x H3 ⟨i, rfl, hin, rfl, k3, hB3, c, hP3, hs, g0, g1, g2, g3, gj⟩ _
    unfold pool_Make_l5
    by_cases hlt : i < n
    · have hd : decide ((i : Int) < (n : Int)) = true := decide_eq_true (by omega)
      simp only [hd, IfB_true]
      refine InB.intro i rfl (by omega) ?_
      refine StCell.blk hP3 (by omega) rfl ?_
      refine ⟨n - (i + 1), by omega, i + 1, ?_, by omega, rfl, k3.upd (.inr hb0), hB3.upd_ne hne, _, Blk.upd_eq, by simp [hs], ?_, ?_, ?_, ?_, fun j hj => ?_⟩
      · rw [wrap_id (by omega) (by omega)]; simp
      · rw [Array.getElem?_setIfInBounds_ne (by omega)]; exact g0
      · rw [Array.getElem?_setIfInBounds_ne (by omega)]; exact g1
      · rw [Array.getElem?_setIfInBounds_ne (by omega)]; exact g2
      · rw [Array.getElem?_setIfInBounds_ne (by omega)]; exact g3
      · by_cases e : j = i
        · subst e
          have : 1 + j * 1 = 1 + j := by omega
          rw [this, Array.getElem?_setIfInBounds_self_of_lt (by omega)]
        · rw [Array.getElem?_setIfInBounds_ne (by omega)]; exact gj j (by omega)
    · have hd : decide ((i : Int) < (n : Int)) = false := decide_eq_false (by omega)
      simp only [hd, IfB_false]
      obtain rfl : i = n := by omega
      have hml : (PoolM.make i).bufs.length = i := by simp [PoolM.make]
      have hmf : (PoolM.make i).free.length = i := by simp [PoolM.make]
      refine ⟨k3, b, bl, c, ⟨repL i zbuf⟩, 0, hb0, hbl, rfl, ⟨PoolM.inv_make h1 h2, hP3, hs, by rw [hml]; exact g0, g1, by rw [hmf]; exact g2, g3, by omega, fun j x hx => ?_, hB3, by rw [hml]; simpa using hzl, ?_⟩⟩
      · simp only [PoolM.make, List.getElem?_map] at hx
        by_cases hj : j < i
        · rw [List.getElem?_range hj] at hx
          cases hx
          rw [Nat.zero_add, Nat.mod_eq_of_lt (by omega)]
          exact gj j hj
        · rw [List.getElem?_eq_none (by simpa using hj)] at hx; cases hx
      · intro j t bs hx
        simp only [PoolM.make, List.getElem?_replicate] at hx
        split at hx
        · rename_i hj
          cases hx
          refine ⟨?_, fun h => by omega⟩
          have := repL_get zbuf (by rw [row_buffer.len]; omega) i (j * 1516) (by rw [row_buffer.len]; omega)
          rw [row_buffer.len, Nat.mul_mod_left] at this
          rw [show (⟨repL i zbuf⟩ : Array Value)[j * 1516]? = (repL i zbuf)[j * 1516]? from by simp, this]
          exact zbuf0
        · cases hx

end Go.Proofs.Ytligjponbhnedaa
