/-
  No cell of these rows narrows 'for every input' (looked for: loops, veiled, ifaces, maps, wideKeys, modest, calm, conditions, laid).
  DERIVED. THE GIVEN ROWS OF THIS SEAT. 3 by the template 'for every input the law returns true; each argument reads behind the call as it read before'; 0 by the template 'total and deterministic' (their statements: YtmiepjlnfclelaaGreatTotals.lean).
  GIVEN WITH THE SEED: the statements are not yours to turn. If you find one false, say at which input.
  Laid BY PROGRAM, IN A SANDBOX (cutbox-rows.mjs): the forced cells as the released guide's own fill.sh prints them over the translation 27c4165800d7f9d7… (all of the seat's roots in one cut). By AI agents, Wed Nov 11 2026. No macro, syntax, notation, axiom, sorry.
-/
import Derived.Test.YtmiepjlnfclelaaGreatChecked
import GoSem.Claim
import GoSem.ClaimJoined
import GoSem.ClaimMapViews
import Derived.JoinedTies
import Derived.KernelRfl
namespace Go.Proofs.YtmiepjlnfclelaaGreat
/- THE CELL 'sum', in the pinned program and in every row, IS THE sha256 OF THE DUMP (.gsa) THAT YtmiepjlnfclelaaGreatProg.lean LOADS. Nothing in Lean hashes anything: it is a label: what it is worth is what the hold of that sum in a sandbox is worth. -/
noncomputable def Tryz.pinned : Pinned := { name := "ytmiepjlnfclelaagreat", sum := "27c4165800d7f9d7e2971b9145fbf896655d90dc9f3e9dc188d63ad7210f17fa", checked := Tryz.checked }
namespace Rows
def none {H : Type} : Left H := { results := [], args := [] }

/-- 'pointsmanlaw15.ConnStream': WHATEVER THE INPUT: true; the input reads as it did. -/
def connStreamSpec : ChangeSpec := { name := "connStream", fn := fun _ => fun
  | [d1, d2, d3] => { results := [.lit (.bool true)], args := [d1, d2, d3] }
  | _ => none }
def connStreamRow : OpenClaim := { program := "ytmiepjlnfclelaagreat", sum := "27c4165800d7f9d7e2971b9145fbf896655d90dc9f3e9dc188d63ad7210f17fa", func := "pointsman/pointsmanlaw15.ConnStream", spec := "connStream", apart := false }
def ConnStreamSaid : Prop := connStreamRow.holds Tryz.pinned (OpenSpec.ofChange connStreamSpec)

/-- ITS FALSE NEIGHBOUR: 'it returns false'. Refute it at one input. -/
def connStreamWrong : ChangeSpec := { name := "connStream", fn := fun _ => fun
  | [d1, d2, d3] => { results := [.lit (.bool false)], args := [d1, d2, d3] }
  | _ => none }
def ConnStreamWrongFalsely : Prop := connStreamRow.holds Tryz.pinned (OpenSpec.ofChange connStreamWrong)

/-- 'pointsmanlaw15.ConnSilent': WHATEVER THE INPUT: true; the input reads as it did. -/
def connSilentSpec : ChangeSpec := { name := "connSilent", fn := fun _ => fun
  | [d] => { results := [.lit (.bool true)], args := [d] }
  | _ => none }
def connSilentRow : OpenClaim := { program := "ytmiepjlnfclelaagreat", sum := "27c4165800d7f9d7e2971b9145fbf896655d90dc9f3e9dc188d63ad7210f17fa", func := "pointsman/pointsmanlaw15.ConnSilent", spec := "connSilent", apart := false }
def ConnSilentSaid : Prop := connSilentRow.holds Tryz.pinned (OpenSpec.ofChange connSilentSpec)

/-- ITS FALSE NEIGHBOUR: 'it returns false'. Refute it at one input. -/
def connSilentWrong : ChangeSpec := { name := "connSilent", fn := fun _ => fun
  | [d] => { results := [.lit (.bool false)], args := [d] }
  | _ => none }
def ConnSilentWrongFalsely : Prop := connSilentRow.holds Tryz.pinned (OpenSpec.ofChange connSilentWrong)

/-- 'pointsmanlaw15.ConnVoid': WHATEVER THE INPUT: true; the input reads as it did. -/
def connVoidSpec : ChangeSpec := { name := "connVoid", fn := fun _ => fun
  | [d1, d2, d3] => { results := [.lit (.bool true)], args := [d1, d2, d3] }
  | _ => none }
def connVoidRow : OpenClaim := { program := "ytmiepjlnfclelaagreat", sum := "27c4165800d7f9d7e2971b9145fbf896655d90dc9f3e9dc188d63ad7210f17fa", func := "pointsman/pointsmanlaw15.ConnVoid", spec := "connVoid", apart := false }
def ConnVoidSaid : Prop := connVoidRow.holds Tryz.pinned (OpenSpec.ofChange connVoidSpec)

/-- ITS FALSE NEIGHBOUR: 'it returns false'. Refute it at one input. -/
def connVoidWrong : ChangeSpec := { name := "connVoid", fn := fun _ => fun
  | [d1, d2, d3] => { results := [.lit (.bool false)], args := [d1, d2, d3] }
  | _ => none }
def ConnVoidWrongFalsely : Prop := connVoidRow.holds Tryz.pinned (OpenSpec.ofChange connVoidWrong)

/- THE SECOND FORM. 'bulk': how many values and letters a reading holds, each counted each time it is reached (what is shared counts as often as it is met; a slice's spare places count too). A statement '..UptoSaid' is the law's where the arguments, and the package variables that the reading takes, are together of bulk at most 1048576: NARROWER than '..Said'. Prove '..Said' where nothing that the law and all that it calls make is longer than what came in: it says more and counts as full. Else prove '..UptoSaid'. A law counts once. -/
mutual
def uptoBulk {H : Type} : DataW H → Nat
  | .lit (.string bytes) => bytes.length + 1
  | .lit _ => 1
  | .nil => 1
  | .ptr d => uptoBulk d + 1
  | .slice elems spare => uptoBulkAll elems + uptoBulkAll spare + 1
  | .agg parts => uptoBulkAll parts + 1
  | .iface _ d => uptoBulk d + 1
  | .map entries => uptoBulkEntries entries + 1
  | .held _ => 1
def uptoBulkAll {H : Type} : List (DataW H) → Nat
  | [] => 0
  | d :: r => uptoBulk d + uptoBulkAll r
def uptoBulkEntries {H : Type} : List (Lit × DataW H) → Nat
  | [] => 0
  | x :: r => uptoBulkEntry x + uptoBulkEntries r
def uptoBulkEntry {H : Type} : Lit × DataW H → Nat
  | (.string bytes, d) => bytes.length + uptoBulk d + 1
  | (_, d) => uptoBulk d + 1
 end
def uptoSmall : (H : Type) → List (DataW H) → Bool := fun _ ds => decide (uptoBulkAll ds ≤ 1048576)
def OpenSpec.upto (s : _root_.Go.ChangeSpec) : _root_.Go.OpenSpec := { _root_.Go.OpenSpec.ofChange s with cond := some uptoSmall }

/-- 'pointsmanlaw15.ConnStream', WHERE WHAT IT READS IS OF BULK AT MOST 1048576: true; the input reads as it did. -/
def connStreamUptoRow : OpenClaim := { program := "ytmiepjlnfclelaagreat", sum := "27c4165800d7f9d7e2971b9145fbf896655d90dc9f3e9dc188d63ad7210f17fa", func := "pointsman/pointsmanlaw15.ConnStream", spec := "connStream", apart := false, narrowed := true }
def ConnStreamUptoSaid : Prop := connStreamUptoRow.holds Tryz.pinned (OpenSpec.upto connStreamSpec)

/-- 'pointsmanlaw15.ConnSilent', WHERE WHAT IT READS IS OF BULK AT MOST 1048576: true; the input reads as it did. -/
def connSilentUptoRow : OpenClaim := { program := "ytmiepjlnfclelaagreat", sum := "27c4165800d7f9d7e2971b9145fbf896655d90dc9f3e9dc188d63ad7210f17fa", func := "pointsman/pointsmanlaw15.ConnSilent", spec := "connSilent", apart := false, narrowed := true }
def ConnSilentUptoSaid : Prop := connSilentUptoRow.holds Tryz.pinned (OpenSpec.upto connSilentSpec)

/-- 'pointsmanlaw15.ConnVoid', WHERE WHAT IT READS IS OF BULK AT MOST 1048576: true; the input reads as it did. -/
def connVoidUptoRow : OpenClaim := { program := "ytmiepjlnfclelaagreat", sum := "27c4165800d7f9d7e2971b9145fbf896655d90dc9f3e9dc188d63ad7210f17fa", func := "pointsman/pointsmanlaw15.ConnVoid", spec := "connVoid", apart := false, narrowed := true }
def ConnVoidUptoSaid : Prop := connVoidUptoRow.holds Tryz.pinned (OpenSpec.upto connVoidSpec)

end Rows
end Go.Proofs.YtmiepjlnfclelaaGreat
