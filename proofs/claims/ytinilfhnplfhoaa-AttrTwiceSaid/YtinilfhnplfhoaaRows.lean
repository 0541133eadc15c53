/-
  No cell of these rows narrows 'for every input' (looked for: loops, veiled, ifaces, maps, wideKeys, modest, calm, conditions, laid).
  DERIVED. THE GIVEN ROWS OF THIS SEAT. 5 by the template 'for every input the law returns true; each argument reads behind the call as it read before'; 0 by the template 'total and deterministic' (their statements: YtinilfhnplfhoaaTotals.lean).
  GIVEN WITH THE SEED: the statements are not yours to turn. If you find one false, say at which input.
  Laid BY PROGRAM, IN A SANDBOX (cutbox-rows.mjs): the forced cells as the released guide's own fill.sh prints them over the translation 3dc44922a968eb17… (all of the seat's roots in one cut). By AI agents, Wed Nov 11 2026. No macro, syntax, notation, axiom, sorry.
-/
import Derived.Test.YtinilfhnplfhoaaChecked
import GoSem.Claim
import GoSem.ClaimJoined
import GoSem.ClaimMapViews
import Derived.JoinedTies
import Derived.KernelRfl
namespace Go.Proofs.Ytinilfhnplfhoaa
/- THE CELL 'sum', in the pinned program and in every row, IS THE sha256 OF THE DUMP (.gsa) THAT YtinilfhnplfhoaaProg.lean LOADS. Nothing in Lean hashes anything: it is a label: what it is worth is what the hold of that sum in a sandbox is worth. -/
noncomputable def Try.pinned : Pinned := { name := "ytinilfhnplfhoaa", sum := "3dc44922a968eb1747968db95082c2b4287cafd89494afc8605313c7166ebf4d", checked := Try.checked }
namespace Rows
def none {H : Type} : Left H := { results := [], args := [] }

/-- 'pointsmanlaw20.AttrPuts': WHATEVER THE INPUT: true; the input reads as it did. -/
def attrPutsSpec : ChangeSpec := { name := "attrPuts", fn := fun _ => fun
  | [d1, d2] => { results := [.lit (.bool true)], args := [d1, d2] }
  | _ => none }
def attrPutsRow : OpenClaim := { program := "ytinilfhnplfhoaa", sum := "3dc44922a968eb1747968db95082c2b4287cafd89494afc8605313c7166ebf4d", func := "pointsman/pointsmanlaw20.AttrPuts", spec := "attrPuts", unfollowed := true, recurses := true, apart := false }
def AttrPutsSaid : Prop := attrPutsRow.holds Try.pinned (OpenSpec.ofChange attrPutsSpec)

/-- ITS FALSE NEIGHBOUR: 'it returns false'. Refute it at one input. -/
def attrPutsWrong : ChangeSpec := { name := "attrPuts", fn := fun _ => fun
  | [d1, d2] => { results := [.lit (.bool false)], args := [d1, d2] }
  | _ => none }
def AttrPutsWrongFalsely : Prop := attrPutsRow.holds Try.pinned (OpenSpec.ofChange attrPutsWrong)

/-- 'pointsmanlaw20.AttrTells': WHATEVER THE INPUT: true; the input reads as it did. -/
def attrTellsSpec : ChangeSpec := { name := "attrTells", fn := fun _ => fun
  | [d1, d2] => { results := [.lit (.bool true)], args := [d1, d2] }
  | _ => none }
def attrTellsRow : OpenClaim := { program := "ytinilfhnplfhoaa", sum := "3dc44922a968eb1747968db95082c2b4287cafd89494afc8605313c7166ebf4d", func := "pointsman/pointsmanlaw20.AttrTells", spec := "attrTells", unfollowed := true, recurses := true, apart := false }
def AttrTellsSaid : Prop := attrTellsRow.holds Try.pinned (OpenSpec.ofChange attrTellsSpec)

/-- ITS FALSE NEIGHBOUR: 'it returns false'. Refute it at one input. -/
def attrTellsWrong : ChangeSpec := { name := "attrTells", fn := fun _ => fun
  | [d1, d2] => { results := [.lit (.bool false)], args := [d1, d2] }
  | _ => none }
def AttrTellsWrongFalsely : Prop := attrTellsRow.holds Try.pinned (OpenSpec.ofChange attrTellsWrong)

/-- 'pointsmanlaw20.AttrBack': WHATEVER THE INPUT: true; the input reads as it did. -/
def attrBackSpec : ChangeSpec := { name := "attrBack", fn := fun _ => fun
  | [d1, d2] => { results := [.lit (.bool true)], args := [d1, d2] }
  | _ => none }
def attrBackRow : OpenClaim := { program := "ytinilfhnplfhoaa", sum := "3dc44922a968eb1747968db95082c2b4287cafd89494afc8605313c7166ebf4d", func := "pointsman/pointsmanlaw20.AttrBack", spec := "attrBack", inPlace := ["slices.overlaps[pointsman/api.Raw]"], unfollowed := true, recurses := true, apart := false }
def AttrBackSaid : Prop := attrBackRow.holds Try.pinned (OpenSpec.ofChange attrBackSpec)

/-- ITS FALSE NEIGHBOUR: 'it returns false'. Refute it at one input. -/
def attrBackWrong : ChangeSpec := { name := "attrBack", fn := fun _ => fun
  | [d1, d2] => { results := [.lit (.bool false)], args := [d1, d2] }
  | _ => none }
def AttrBackWrongFalsely : Prop := attrBackRow.holds Try.pinned (OpenSpec.ofChange attrBackWrong)

/-- 'pointsmanlaw20.AttrSafe': WHATEVER THE INPUT: true; the input reads as it did. -/
def attrSafeSpec : ChangeSpec := { name := "attrSafe", fn := fun _ => fun
  | [d1, d2, d3] => { results := [.lit (.bool true)], args := [d1, d2, d3] }
  | _ => none }
def attrSafeRow : OpenClaim := { program := "ytinilfhnplfhoaa", sum := "3dc44922a968eb1747968db95082c2b4287cafd89494afc8605313c7166ebf4d", func := "pointsman/pointsmanlaw20.AttrSafe", spec := "attrSafe", inPlace := ["slices.overlaps[pointsman/api.Raw]"], unfollowed := true, recurses := true, apart := false }
def AttrSafeSaid : Prop := attrSafeRow.holds Try.pinned (OpenSpec.ofChange attrSafeSpec)

/-- ITS FALSE NEIGHBOUR: 'it returns false'. Refute it at one input. -/
def attrSafeWrong : ChangeSpec := { name := "attrSafe", fn := fun _ => fun
  | [d1, d2, d3] => { results := [.lit (.bool false)], args := [d1, d2, d3] }
  | _ => none }
def AttrSafeWrongFalsely : Prop := attrSafeRow.holds Try.pinned (OpenSpec.ofChange attrSafeWrong)

/-- 'pointsmanlaw20.AttrTwice': WHATEVER THE INPUT: true; the input reads as it did. -/
def attrTwiceSpec : ChangeSpec := { name := "attrTwice", fn := fun _ => fun
  | [d1, d2, d3] => { results := [.lit (.bool true)], args := [d1, d2, d3] }
  | _ => none }
def attrTwiceRow : OpenClaim := { program := "ytinilfhnplfhoaa", sum := "3dc44922a968eb1747968db95082c2b4287cafd89494afc8605313c7166ebf4d", func := "pointsman/pointsmanlaw20.AttrTwice", spec := "attrTwice", inPlace := ["slices.overlaps[pointsman/api.Raw]"], unfollowed := true, recurses := true, apart := false }
def AttrTwiceSaid : Prop := attrTwiceRow.holds Try.pinned (OpenSpec.ofChange attrTwiceSpec)

/-- ITS FALSE NEIGHBOUR: 'it returns false'. Refute it at one input. -/
def attrTwiceWrong : ChangeSpec := { name := "attrTwice", fn := fun _ => fun
  | [d1, d2, d3] => { results := [.lit (.bool false)], args := [d1, d2, d3] }
  | _ => none }
def AttrTwiceWrongFalsely : Prop := attrTwiceRow.holds Try.pinned (OpenSpec.ofChange attrTwiceWrong)

/- THE SECOND FORM. 'bulk': how many values and letters a reading holds, each counted each time it is reached (what is shared counts as often as it is met; a slice's spare places count too). A statement '..UptoSaid' is the law's where the arguments, and the package variables that the reading takes, are together of bulk at most 1048576: NARROWER than '..Said'. Prove '..Said' where nothing that the law and all that it calls make is longer than what came in: it says more and counts as full. Else prove '..UptoSaid'. A law counts once. -/
mutual
def uptoBulk {H : Type} : DataW H → Nat
  | .lit (.string bytes) => bytes.length + 1
  | .lit _ => 1
  | .nil => 1
  | .ptr d => uptoBulk d + 1
  | .slice elems spare => uptoBulkAll elems + uptoBulkAll spare + 1
  | .agg parts => uptoBulkAll parts + 1
  | .iface _ d => uptoBulk d + 1
  | .map entries => uptoBulkEntries entries + 1
  | .held _ => 1
def uptoBulkAll {H : Type} : List (DataW H) → Nat
  | [] => 0
  | d :: r => uptoBulk d + uptoBulkAll r
def uptoBulkEntries {H : Type} : List (Lit × DataW H) → Nat
  | [] => 0
  | x :: r => uptoBulkEntry x + uptoBulkEntries r
def uptoBulkEntry {H : Type} : Lit × DataW H → Nat
  | (.string bytes, d) => bytes.length + uptoBulk d + 1
  | (_, d) => uptoBulk d + 1
 end
def uptoSmall : (H : Type) → List (DataW H) → Bool := fun _ ds => decide (uptoBulkAll ds ≤ 1048576)
def OpenSpec.upto (s : _root_.Go.ChangeSpec) : _root_.Go.OpenSpec := { _root_.Go.OpenSpec.ofChange s with cond := some uptoSmall }

/-- 'pointsmanlaw20.AttrPuts', WHERE WHAT IT READS IS OF BULK AT MOST 1048576: true; the input reads as it did. -/
def attrPutsUptoRow : OpenClaim := { program := "ytinilfhnplfhoaa", sum := "3dc44922a968eb1747968db95082c2b4287cafd89494afc8605313c7166ebf4d", func := "pointsman/pointsmanlaw20.AttrPuts", spec := "attrPuts", unfollowed := true, recurses := true, apart := false, narrowed := true }
def AttrPutsUptoSaid : Prop := attrPutsUptoRow.holds Try.pinned (OpenSpec.upto attrPutsSpec)

/-- 'pointsmanlaw20.AttrTells', WHERE WHAT IT READS IS OF BULK AT MOST 1048576: true; the input reads as it did. -/
def attrTellsUptoRow : OpenClaim := { program := "ytinilfhnplfhoaa", sum := "3dc44922a968eb1747968db95082c2b4287cafd89494afc8605313c7166ebf4d", func := "pointsman/pointsmanlaw20.AttrTells", spec := "attrTells", unfollowed := true, recurses := true, apart := false, narrowed := true }
def AttrTellsUptoSaid : Prop := attrTellsUptoRow.holds Try.pinned (OpenSpec.upto attrTellsSpec)

/-- 'pointsmanlaw20.AttrBack', WHERE WHAT IT READS IS OF BULK AT MOST 1048576: true; the input reads as it did. -/
def attrBackUptoRow : OpenClaim := { program := "ytinilfhnplfhoaa", sum := "3dc44922a968eb1747968db95082c2b4287cafd89494afc8605313c7166ebf4d", func := "pointsman/pointsmanlaw20.AttrBack", spec := "attrBack", inPlace := ["slices.overlaps[pointsman/api.Raw]"], unfollowed := true, recurses := true, apart := false, narrowed := true }
def AttrBackUptoSaid : Prop := attrBackUptoRow.holds Try.pinned (OpenSpec.upto attrBackSpec)

/-- 'pointsmanlaw20.AttrSafe', WHERE WHAT IT READS IS OF BULK AT MOST 1048576: true; the input reads as it did. -/
def attrSafeUptoRow : OpenClaim := { program := "ytinilfhnplfhoaa", sum := "3dc44922a968eb1747968db95082c2b4287cafd89494afc8605313c7166ebf4d", func := "pointsman/pointsmanlaw20.AttrSafe", spec := "attrSafe", inPlace := ["slices.overlaps[pointsman/api.Raw]"], unfollowed := true, recurses := true, apart := false, narrowed := true }
def AttrSafeUptoSaid : Prop := attrSafeUptoRow.holds Try.pinned (OpenSpec.upto attrSafeSpec)

/-- 'pointsmanlaw20.AttrTwice', WHERE WHAT IT READS IS OF BULK AT MOST 1048576: true; the input reads as it did. -/
def attrTwiceUptoRow : OpenClaim := { program := "ytinilfhnplfhoaa", sum := "3dc44922a968eb1747968db95082c2b4287cafd89494afc8605313c7166ebf4d", func := "pointsman/pointsmanlaw20.AttrTwice", spec := "attrTwice", inPlace := ["slices.overlaps[pointsman/api.Raw]"], unfollowed := true, recurses := true, apart := false, narrowed := true }
def AttrTwiceUptoSaid : Prop := attrTwiceUptoRow.holds Try.pinned (OpenSpec.upto attrTwiceSpec)

end Rows
end Go.Proofs.Ytinilfhnplfhoaa
