/-
  No cell of these rows narrows 'for every input' (looked for: loops, veiled, ifaces, maps, wideKeys, modest, calm, conditions, laid).
  DERIVED. THE GIVEN ROWS OF THIS SEAT. 4 by the template 'for every input the law returns true; each argument reads behind the call as it read before'; 0 by the template 'total and deterministic' (their statements: YtgdkenndkhnkdaaTotals.lean).
  GIVEN WITH THE SEED: the statements are not yours to turn. If you find one false, say at which input.
  Laid BY PROGRAM, IN A SANDBOX (cutbox-rows.mjs): the forced cells as the released guide's own fill.sh prints them over the translation 64c48592fac4e849… (all of the seat's roots in one cut). By AI agents, Wed Nov 11 2026. No macro, syntax, notation, axiom, sorry.
-/
import Derived.Test.YtgdkenndkhnkdaaChecked
import GoSem.Claim
import GoSem.ClaimJoined
import GoSem.ClaimMapViews
import Derived.JoinedTies
import Derived.KernelRfl
namespace Go.Proofs.Ytgdkenndkhnkdaa
/- THE CELL 'sum', in the pinned program and in every row, IS THE sha256 OF THE DUMP (.gsa) THAT YtgdkenndkhnkdaaProg.lean LOADS. Nothing in Lean hashes anything: it is a label: what it is worth is what the hold of that sum in a sandbox is worth. -/
noncomputable def Try.pinned : Pinned := { name := "ytgdkenndkhnkdaa", sum := "64c48592fac4e84949e8920375e16b7f19b772a589afa0a0e8b9af8d0cae291b", checked := Try.checked }
namespace Rows
def none {H : Type} : Left H := { results := [], args := [] }

/-- 'pointsmanlaw33.PackMakes': WHATEVER THE INPUT: true; the input reads as it did. -/
def packMakesSpec : ChangeSpec := { name := "packMakes", fn := fun _ => fun
  | [d1, d2] => { results := [.lit (.bool true)], args := [d1, d2] }
  | _ => none }
def packMakesRow : OpenClaim := { program := "ytgdkenndkhnkdaa", sum := "64c48592fac4e84949e8920375e16b7f19b772a589afa0a0e8b9af8d0cae291b", func := "pointsman/pointsmanlaw33.PackMakes", spec := "packMakes", unfollowed := true, recurses := true, apart := false }
def PackMakesSaid : Prop := packMakesRow.holds Try.pinned (OpenSpec.ofChange packMakesSpec)

/-- ITS FALSE NEIGHBOUR: 'it returns false'. Refute it at one input. -/
def packMakesWrong : ChangeSpec := { name := "packMakes", fn := fun _ => fun
  | [d1, d2] => { results := [.lit (.bool false)], args := [d1, d2] }
  | _ => none }
def PackMakesWrongFalsely : Prop := packMakesRow.holds Try.pinned (OpenSpec.ofChange packMakesWrong)

/-- 'pointsmanlaw33.PackFew': WHATEVER THE INPUT: true; the input reads as it did. -/
def packFewSpec : ChangeSpec := { name := "packFew", fn := fun _ => fun
  | [d1, d2, d3, d4] => { results := [.lit (.bool true)], args := [d1, d2, d3, d4] }
  | _ => none }
def packFewRow : OpenClaim := { program := "ytgdkenndkhnkdaa", sum := "64c48592fac4e84949e8920375e16b7f19b772a589afa0a0e8b9af8d0cae291b", func := "pointsman/pointsmanlaw33.PackFew", spec := "packFew", unfollowed := true, recurses := true, apart := false }
def PackFewSaid : Prop := packFewRow.holds Try.pinned (OpenSpec.ofChange packFewSpec)

/-- ITS FALSE NEIGHBOUR: 'it returns false'. Refute it at one input. -/
def packFewWrong : ChangeSpec := { name := "packFew", fn := fun _ => fun
  | [d1, d2, d3, d4] => { results := [.lit (.bool false)], args := [d1, d2, d3, d4] }
  | _ => none }
def PackFewWrongFalsely : Prop := packFewRow.holds Try.pinned (OpenSpec.ofChange packFewWrong)

/-- 'pointsmanlaw33.PackVoid': WHATEVER THE INPUT: true; the input reads as it did. -/
def packVoidSpec : ChangeSpec := { name := "packVoid", fn := fun _ => fun
  | [d] => { results := [.lit (.bool true)], args := [d] }
  | _ => none }
def packVoidRow : OpenClaim := { program := "ytgdkenndkhnkdaa", sum := "64c48592fac4e84949e8920375e16b7f19b772a589afa0a0e8b9af8d0cae291b", func := "pointsman/pointsmanlaw33.PackVoid", spec := "packVoid", unfollowed := true, recurses := true, apart := false }
def PackVoidSaid : Prop := packVoidRow.holds Try.pinned (OpenSpec.ofChange packVoidSpec)

/-- ITS FALSE NEIGHBOUR: 'it returns false'. Refute it at one input. -/
def packVoidWrong : ChangeSpec := { name := "packVoid", fn := fun _ => fun
  | [d] => { results := [.lit (.bool false)], args := [d] }
  | _ => none }
def PackVoidWrongFalsely : Prop := packVoidRow.holds Try.pinned (OpenSpec.ofChange packVoidWrong)

/-- 'pointsmanlaw33.PackPaces': WHATEVER THE INPUT: true; the input reads as it did. -/
def packPacesSpec : ChangeSpec := { name := "packPaces", fn := fun _ => fun
  | [d1, d2] => { results := [.lit (.bool true)], args := [d1, d2] }
  | _ => none }
def packPacesRow : OpenClaim := { program := "ytgdkenndkhnkdaa", sum := "64c48592fac4e84949e8920375e16b7f19b772a589afa0a0e8b9af8d0cae291b", func := "pointsman/pointsmanlaw33.PackPaces", spec := "packPaces", unfollowed := true, recurses := true, apart := false }
def PackPacesSaid : Prop := packPacesRow.holds Try.pinned (OpenSpec.ofChange packPacesSpec)

/-- ITS FALSE NEIGHBOUR: 'it returns false'. Refute it at one input. -/
def packPacesWrong : ChangeSpec := { name := "packPaces", fn := fun _ => fun
  | [d1, d2] => { results := [.lit (.bool false)], args := [d1, d2] }
  | _ => none }
def PackPacesWrongFalsely : Prop := packPacesRow.holds Try.pinned (OpenSpec.ofChange packPacesWrong)

/- THE SECOND FORM. 'bulk': how many values and letters a reading holds, each counted each time it is reached (what is shared counts as often as it is met; a slice's spare places count too). A statement '..UptoSaid' is the law's where the arguments, and the package variables that the reading takes, are together of bulk at most 1048576: NARROWER than '..Said'. Prove '..Said' where nothing that the law and all that it calls make is longer than what came in: it says more and counts as full. Else prove '..UptoSaid'. A law counts once. -/
mutual
def uptoBulk {H : Type} : DataW H → Nat
  | .lit (.string bytes) => bytes.length + 1
  | .lit _ => 1
  | .nil => 1
  | .ptr d => uptoBulk d + 1
  | .slice elems spare => uptoBulkAll elems + uptoBulkAll spare + 1
  | .agg parts => uptoBulkAll parts + 1
  | .iface _ d => uptoBulk d + 1
  | .map entries => uptoBulkEntries entries + 1
  | .held _ => 1
def uptoBulkAll {H : Type} : List (DataW H) → Nat
  | [] => 0
  | d :: r => uptoBulk d + uptoBulkAll r
def uptoBulkEntries {H : Type} : List (Lit × DataW H) → Nat
  | [] => 0
  | x :: r => uptoBulkEntry x + uptoBulkEntries r
def uptoBulkEntry {H : Type} : Lit × DataW H → Nat
  | (.string bytes, d) => bytes.length + uptoBulk d + 1
  | (_, d) => uptoBulk d + 1
 end
def uptoSmall : (H : Type) → List (DataW H) → Bool := fun _ ds => decide (uptoBulkAll ds ≤ 1048576)
def OpenSpec.upto (s : _root_.Go.ChangeSpec) : _root_.Go.OpenSpec := { _root_.Go.OpenSpec.ofChange s with cond := some uptoSmall }

/-- 'pointsmanlaw33.PackMakes', WHERE WHAT IT READS IS OF BULK AT MOST 1048576: true; the input reads as it did. -/
def packMakesUptoRow : OpenClaim := { program := "ytgdkenndkhnkdaa", sum := "64c48592fac4e84949e8920375e16b7f19b772a589afa0a0e8b9af8d0cae291b", func := "pointsman/pointsmanlaw33.PackMakes", spec := "packMakes", unfollowed := true, recurses := true, apart := false, narrowed := true }
def PackMakesUptoSaid : Prop := packMakesUptoRow.holds Try.pinned (OpenSpec.upto packMakesSpec)

/-- 'pointsmanlaw33.PackFew', WHERE WHAT IT READS IS OF BULK AT MOST 1048576: true; the input reads as it did. -/
def packFewUptoRow : OpenClaim := { program := "ytgdkenndkhnkdaa", sum := "64c48592fac4e84949e8920375e16b7f19b772a589afa0a0e8b9af8d0cae291b", func := "pointsman/pointsmanlaw33.PackFew", spec := "packFew", unfollowed := true, recurses := true, apart := false, narrowed := true }
def PackFewUptoSaid : Prop := packFewUptoRow.holds Try.pinned (OpenSpec.upto packFewSpec)

/-- 'pointsmanlaw33.PackVoid', WHERE WHAT IT READS IS OF BULK AT MOST 1048576: true; the input reads as it did. -/
def packVoidUptoRow : OpenClaim := { program := "ytgdkenndkhnkdaa", sum := "64c48592fac4e84949e8920375e16b7f19b772a589afa0a0e8b9af8d0cae291b", func := "pointsman/pointsmanlaw33.PackVoid", spec := "packVoid", unfollowed := true, recurses := true, apart := false, narrowed := true }
def PackVoidUptoSaid : Prop := packVoidUptoRow.holds Try.pinned (OpenSpec.upto packVoidSpec)

/-- 'pointsmanlaw33.PackPaces', WHERE WHAT IT READS IS OF BULK AT MOST 1048576: true; the input reads as it did. -/
def packPacesUptoRow : OpenClaim := { program := "ytgdkenndkhnkdaa", sum := "64c48592fac4e84949e8920375e16b7f19b772a589afa0a0e8b9af8d0cae291b", func := "pointsman/pointsmanlaw33.PackPaces", spec := "packPaces", unfollowed := true, recurses := true, apart := false, narrowed := true }
def PackPacesUptoSaid : Prop := packPacesUptoRow.holds Try.pinned (OpenSpec.upto packPacesSpec)

end Rows
end Go.Proofs.Ytgdkenndkhnkdaa
