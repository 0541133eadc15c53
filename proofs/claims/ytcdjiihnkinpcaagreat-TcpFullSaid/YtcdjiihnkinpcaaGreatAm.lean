/-
  The draw of a number below n, for the machine.
-/
import Derived.Test.YtcdjiihnkinpcaaGreatItsA
import Derived.Test.YtcdjiihnkinpcaaGreatEv11
set_option linter.all false
set_option maxRecDepth 100000
namespace Go.Proofs.YtcdjiihnkinpcaaGreat
open Go.Sh Go.Ev

/-- A number below n that x stands for. -/
def amongV (x : Int) (n : Nat) : Nat := ((x % 18446744073709551616) % n).toNat
theorem amongV_lt (x : Int) {n : Nat} (h : 0 < n) : amongV x n < n := by
  unfold amongV
  have h1 := Int.emod_nonneg (x % 18446744073709551616) (b := (n : Int)) (by omega)
  have h2 := Int.emod_lt_of_pos (x % 18446744073709551616) (b := (n : Int)) (by omega)
  omega
theorem am_shutE {H H2 : Heap} (hs : Shut H H H2) : H = H2 := Heap.ext fun b => by
  rcases hs b with h | ⟨h1, h2, _⟩
  · exact h.symm
  · rw [h1] at h2; cases h2
theorem base_Among_spec {H : Heap} (x : Int) {n : Nat} (h0 : 0 < n) (h1 : n < 2 ^ 62) : FnW Tryz.prog f_base_Among ⟨[.int .i64 x, .int .i64 n]⟩ H fun v H' => v = .int .i64 (amongV x n) ∧ H = H' := by
  refine base_Among_sh x n ?_
  unfold base_Among_p
  rw [decide_eq_false (by omega), IfB_false]
  have hw : IntKind.wrap .u64 (n : Int) = n := by
    change (n : Int) % 18446744073709551616 = n
    omega
  have hx : IntKind.wrap .u64 x = x % 18446744073709551616 := rfl
  have h3 := Int.emod_nonneg x (b := 18446744073709551616) (by omega)
  have h4 : Int.tmod (x % 18446744073709551616) n = (amongV x n : Nat) := by
    rw [Int.tmod_eq_emod_of_nonneg h3]
    unfold amongV
    have := Int.emod_nonneg (x % 18446744073709551616) (b := (n : Int)) (by omega)
    omega
  have h5 := amongV_lt x h0
  refine ⟨by rw [hw]; omega, ?_⟩
  rw [hw, hx, h4, wrap_id (by omega) (by omega)]
  exact fun H2 hs => ⟨rfl, am_shutE hs⟩
/-- It suffices to run at each number below m that may come. -/
theorem am_run {plans : FuncId → Plan} {d : Nat} {f : FuncId} {m : Nat} (h0 : 0 < m) (h1 : m < 2 ^ 62) (hf : (Nat.blt f yB && !(isExt Tryz.prog f)) = true) (ha : Nat.blt f_base_Among yB = true) {x : Int} {good : Heap → Prop} {ov : Ev.Calls} (hov : @CallOk (symOf x good) Tryz.prog ov)
    {cs : List CV} {vs : List Value} (hv : ∀ r, @VRs (symOf x good) r cs vs) (hrun : ∀ r : Nat, r < m → isTrue (cFn Tryz.prog plans (ovOr (ovAm f_base_Among m r) ov) d f cs ch0) = true) (H : Heap) (hg : good H) :
    FnW Tryz.prog f ⟨vs⟩ H fun v H' => v = .bool true ∧ Keep Nil H H' := by
  letI : Sym := symOf x good
  exact ev_true (ovOr.ok (ovAm.ok ha fun H => base_Among_spec x h0 h1) hov) hf (hv []) (hrun _ (amongV_lt x h0)) H hg
end Go.Proofs.YtcdjiihnkinpcaaGreat
