/-
  HOW THE MACHINE IS TO READ THESE FUNCTIONS: printed by a program of ours over this translation.
-/
import Derived.Test.YtdhjglkacnhhcaaEv9
import Derived.Test.YtdhjglkacnhhcaaRows
set_option linter.all false
namespace Go.Proofs.Ytdhjglkacnhhcaa
open Go.Sh Go.Ev
def evPlans : List (Nat × Plan) := [(15, ⟨[], [], [(6, 1000000)], []⟩),
  (17, ⟨[], [], [(4, 1000000)], []⟩),
  (24, ⟨[], [], [(5, 1000000)], []⟩),
  (32, ⟨[], [], [(2000000, 1000000)], []⟩),
  (35, ⟨[], [], [(5, 1000000)], []⟩),
  (40, ⟨[], [], [(2, 1000000)], []⟩),
  (41, ⟨[], [], [(2, 1000000)], []⟩),
  (43, ⟨[], [], [(1, 1000000), (4, 1000000)], []⟩),
  (44, ⟨[], [], [(4, 1000000), (8, 1000000)], []⟩),
  (45, ⟨[], [], [(5, 1000000)], []⟩),
  (47, ⟨[], [], [(2, 1000000)], []⟩),
  (48, ⟨[], [], [(3, 1000000), (5, 1000000), (14, 1000000), (20, 1000000)], []⟩),
  (50, ⟨[], [], [(3, 1000000), (5, 1000000)], []⟩),
  (51, ⟨[], [], [(3, 1000000), (5, 1000000), (13, 1000000), (15, 1000000)], []⟩),
  (54, ⟨[], [], [(1, 1000000)], []⟩)]
def planAt (f : FuncId) : List (Nat × Plan) → Plan
  | [] => ⟨[], [], [], []⟩
  | (k, p) :: l => match Nat.beq f k with
    | true => p
    | false => planAt f l
def plansOf (f : FuncId) : Plan := planAt f evPlans
abbrev f_law04_WheelVoid : FuncId := 7
end Go.Proofs.Ytdhjglkacnhhcaa
