/-
  A run that branches on a number alone that a function makes of what is handed in.
-/
import Derived.Test.YtcdjiihnkinpcaaGreatEv10
noncomputable section
set_option linter.all false
namespace Go.Ev
open Go.Sh

/-- A function that of the number known by name 0, and the number m, makes r. -/
def ovAm (F : FuncId) (m r : Int) : Calls := fun f xs h => match Nat.beq f F, xs with
  | true, [.sym i, .int .i64 k] => (match Nat.beq i 0 && decide (k = m) with
    | true => some (.int .i64 r, h)
    | false => none)
  | _, _ => none
theorem ovAm.ok [Sym] {P : Program} {F : FuncId} {m r : Int} (hlt : Nat.blt F yB = true) (hF : ∀ H, FnW P F ⟨[Sym.val 0, .int .i64 m]⟩ H fun v H' => v = .int .i64 r ∧ H = H') : CallOk P (ovAm F m r) := by
  intro H0 f xs h y h' hc r0 H vs R hv
  unfold ovAm at hc
  split at hc
  · rename_i i k hf
    split at hc
    · rename_i hi
      cases hc
      simp only [Bool.and_eq_true] at hi
      have h1 := Nat.eq_of_beq_eq_true hi.1
      have h2 := of_decide_eq_true hi.2
      subst h1 h2
      simp only [VRs, VR] at hv
      obtain ⟨v, us, rfl, rfl, w, ws, rfl, rfl, rfl⟩ := hv
      rw [Nat.eq_of_beq_eq_true hf]
      refine CalW.fn hlt ?_
      exact (hF H).mono fun v H' ⟨h1, h2⟩ => by
        subst h1 h2
        exact ret_keep R (Keep.refl _ _) rfl
    · cases hc
  · cases hc
/-- What is known by name: one number. -/
abbrev symOf (n : Int) (good : Heap → Prop := fun _ => True) : Sym := ⟨fun _ => .int .i64 n, fun _ => ⟨_, _, rfl⟩, good⟩
end Go.Ev
