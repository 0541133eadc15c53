/-
  Pieces of code: where they stand, and what stands behind them.
-/
import Derived.Test.YthojhkhiamomnaaGreatSh15
namespace Go.Sh

def cL : Code → Code
  | .seq a _ => a
  | c => c
def cR : Code → Code
  | .seq _ b => b
  | c => c
def cK : Code → Code
  | .block _ c => c
  | c => c
def cS : Code → Code
  | .scope c => c
  | .loop c => c
  | c => c
def cA : Code → Code
  | .rangeFunc _ _ a _ => a
  | c => c
def cB : Code → Code
  | .rangeFunc _ _ _ b => b
  | c => c
def isCondSkip (t : Tmp) : Code → Bool
  | .cond (.tmp t') _ .skip => Nat.beq t' t
  | _ => false
theorem condSkip {t : Tmp} {c : Code} (h : isCondSkip t c = true) : ∃ x, c = .cond (.tmp t) x .skip := by
  unfold isCondSkip at h
  split at h
  · rw [Nat.eq_of_beq_eq_true h]; exact ⟨_, rfl⟩
  · cases h
/-- What stands behind a piece. -/
def pieceQ (K : Env → Heap → Prop) (Q : Post) : Post := fun e ρ H => match e with
  | .normal => K ρ H
  | .ret => Q .ret ρ H
  | _ => False
end Go.Sh
