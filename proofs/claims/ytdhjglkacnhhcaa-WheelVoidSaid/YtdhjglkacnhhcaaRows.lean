/-
  No cell of these rows narrows 'for every input' (looked for: loops, veiled, ifaces, maps, wideKeys, modest, calm, conditions, laid).
  DERIVED. THE GIVEN ROWS OF THIS SEAT. 5 by the template 'for every input the law returns true; each argument reads behind the call as it read before'; 0 by the template 'total and deterministic' (their statements: YtdhjglkacnhhcaaTotals.lean).
  GIVEN WITH THE SEED: the statements are not yours to turn. If you find one false, say at which input.
  Laid BY PROGRAM, IN A SANDBOX (cutbox-rows.mjs): the forced cells as the released guide's own fill.sh prints them over the translation 75c3c14f8fdba901… (all of the seat's roots in one cut). By AI agents, Wed Nov 11 2026. No macro, syntax, notation, axiom, sorry.
-/
import Derived.Test.YtdhjglkacnhhcaaChecked
import GoSem.Claim
import GoSem.ClaimJoined
import GoSem.ClaimMapViews
import Derived.JoinedTies
import Derived.KernelRfl
namespace Go.Proofs.Ytdhjglkacnhhcaa
/- THE CELL 'sum', in the pinned program and in every row, IS THE sha256 OF THE DUMP (.gsa) THAT YtdhjglkacnhhcaaProg.lean LOADS. Nothing in Lean hashes anything: it is a label: what it is worth is what the hold of that sum in a sandbox is worth. -/
noncomputable def Try.pinned : Pinned := { name := "ytdhjglkacnhhcaa", sum := "75c3c14f8fdba90110514ccbc7dba69fe5bf78cc8a12da057ecdd5eaba5f7c3f", checked := Try.checked }
namespace Rows
def none {H : Type} : Left H := { results := [], args := [] }

/-- 'pointsmanlaw04.WheelFull': WHATEVER THE INPUT: true; the input reads as it did. -/
def wheelFullSpec : ChangeSpec := { name := "wheelFull", fn := fun _ => fun
  | [d1, d2] => { results := [.lit (.bool true)], args := [d1, d2] }
  | _ => none }
def wheelFullRow : OpenClaim := { program := "ytdhjglkacnhhcaa", sum := "75c3c14f8fdba90110514ccbc7dba69fe5bf78cc8a12da057ecdd5eaba5f7c3f", func := "pointsman/pointsmanlaw04.WheelFull", spec := "wheelFull", unfollowed := true, recurses := true, apart := false }
def WheelFullSaid : Prop := wheelFullRow.holds Try.pinned (OpenSpec.ofChange wheelFullSpec)

/-- ITS FALSE NEIGHBOUR: 'it returns false'. Refute it at one input. -/
def wheelFullWrong : ChangeSpec := { name := "wheelFull", fn := fun _ => fun
  | [d1, d2] => { results := [.lit (.bool false)], args := [d1, d2] }
  | _ => none }
def WheelFullWrongFalsely : Prop := wheelFullRow.holds Try.pinned (OpenSpec.ofChange wheelFullWrong)

/-- 'pointsmanlaw04.WheelSkips': WHATEVER THE INPUT: true; the input reads as it did. -/
def wheelSkipsSpec : ChangeSpec := { name := "wheelSkips", fn := fun _ => fun
  | [d1, d2] => { results := [.lit (.bool true)], args := [d1, d2] }
  | _ => none }
def wheelSkipsRow : OpenClaim := { program := "ytdhjglkacnhhcaa", sum := "75c3c14f8fdba90110514ccbc7dba69fe5bf78cc8a12da057ecdd5eaba5f7c3f", func := "pointsman/pointsmanlaw04.WheelSkips", spec := "wheelSkips", unfollowed := true, recurses := true, apart := false }
def WheelSkipsSaid : Prop := wheelSkipsRow.holds Try.pinned (OpenSpec.ofChange wheelSkipsSpec)

/-- ITS FALSE NEIGHBOUR: 'it returns false'. Refute it at one input. -/
def wheelSkipsWrong : ChangeSpec := { name := "wheelSkips", fn := fun _ => fun
  | [d1, d2] => { results := [.lit (.bool false)], args := [d1, d2] }
  | _ => none }
def WheelSkipsWrongFalsely : Prop := wheelSkipsRow.holds Try.pinned (OpenSpec.ofChange wheelSkipsWrong)

/-- 'pointsmanlaw04.WheelOnce': WHATEVER THE INPUT: true; the input reads as it did. -/
def wheelOnceSpec : ChangeSpec := { name := "wheelOnce", fn := fun _ => fun
  | [d1, d2] => { results := [.lit (.bool true)], args := [d1, d2] }
  | _ => none }
def wheelOnceRow : OpenClaim := { program := "ytdhjglkacnhhcaa", sum := "75c3c14f8fdba90110514ccbc7dba69fe5bf78cc8a12da057ecdd5eaba5f7c3f", func := "pointsman/pointsmanlaw04.WheelOnce", spec := "wheelOnce", unfollowed := true, recurses := true, apart := false }
def WheelOnceSaid : Prop := wheelOnceRow.holds Try.pinned (OpenSpec.ofChange wheelOnceSpec)

/-- ITS FALSE NEIGHBOUR: 'it returns false'. Refute it at one input. -/
def wheelOnceWrong : ChangeSpec := { name := "wheelOnce", fn := fun _ => fun
  | [d1, d2] => { results := [.lit (.bool false)], args := [d1, d2] }
  | _ => none }
def WheelOnceWrongFalsely : Prop := wheelOnceRow.holds Try.pinned (OpenSpec.ofChange wheelOnceWrong)

/-- 'pointsmanlaw04.WheelPlays': WHATEVER THE INPUT: true; the input reads as it did. -/
def wheelPlaysSpec : ChangeSpec := { name := "wheelPlays", fn := fun _ => fun
  | [d] => { results := [.lit (.bool true)], args := [d] }
  | _ => none }
def wheelPlaysRow : OpenClaim := { program := "ytdhjglkacnhhcaa", sum := "75c3c14f8fdba90110514ccbc7dba69fe5bf78cc8a12da057ecdd5eaba5f7c3f", func := "pointsman/pointsmanlaw04.WheelPlays", spec := "wheelPlays", unfollowed := true, recurses := true, apart := false }
def WheelPlaysSaid : Prop := wheelPlaysRow.holds Try.pinned (OpenSpec.ofChange wheelPlaysSpec)

/-- ITS FALSE NEIGHBOUR: 'it returns false'. Refute it at one input. -/
def wheelPlaysWrong : ChangeSpec := { name := "wheelPlays", fn := fun _ => fun
  | [d] => { results := [.lit (.bool false)], args := [d] }
  | _ => none }
def WheelPlaysWrongFalsely : Prop := wheelPlaysRow.holds Try.pinned (OpenSpec.ofChange wheelPlaysWrong)

/-- 'pointsmanlaw04.WheelVoid': WHATEVER THE INPUT: true; the input reads as it did. -/
def wheelVoidSpec : ChangeSpec := { name := "wheelVoid", fn := fun _ => fun
  | [d1, d2] => { results := [.lit (.bool true)], args := [d1, d2] }
  | _ => none }
def wheelVoidRow : OpenClaim := { program := "ytdhjglkacnhhcaa", sum := "75c3c14f8fdba90110514ccbc7dba69fe5bf78cc8a12da057ecdd5eaba5f7c3f", func := "pointsman/pointsmanlaw04.WheelVoid", spec := "wheelVoid", unfollowed := true, recurses := true, apart := false }
def WheelVoidSaid : Prop := wheelVoidRow.holds Try.pinned (OpenSpec.ofChange wheelVoidSpec)

/-- ITS FALSE NEIGHBOUR: 'it returns false'. Refute it at one input. -/
def wheelVoidWrong : ChangeSpec := { name := "wheelVoid", fn := fun _ => fun
  | [d1, d2] => { results := [.lit (.bool false)], args := [d1, d2] }
  | _ => none }
def WheelVoidWrongFalsely : Prop := wheelVoidRow.holds Try.pinned (OpenSpec.ofChange wheelVoidWrong)

/- THE SECOND FORM. 'bulk': how many values and letters a reading holds, each counted each time it is reached (what is shared counts as often as it is met; a slice's spare places count too). A statement '..UptoSaid' is the law's where the arguments, and the package variables that the reading takes, are together of bulk at most 1048576: NARROWER than '..Said'. Prove '..Said' where nothing that the law and all that it calls make is longer than what came in: it says more and counts as full. Else prove '..UptoSaid'. A law counts once. -/
mutual
def uptoBulk {H : Type} : DataW H → Nat
  | .lit (.string bytes) => bytes.length + 1
  | .lit _ => 1
  | .nil => 1
  | .ptr d => uptoBulk d + 1
  | .slice elems spare => uptoBulkAll elems + uptoBulkAll spare + 1
  | .agg parts => uptoBulkAll parts + 1
  | .iface _ d => uptoBulk d + 1
  | .map entries => uptoBulkEntries entries + 1
  | .held _ => 1
def uptoBulkAll {H : Type} : List (DataW H) → Nat
  | [] => 0
  | d :: r => uptoBulk d + uptoBulkAll r
def uptoBulkEntries {H : Type} : List (Lit × DataW H) → Nat
  | [] => 0
  | x :: r => uptoBulkEntry x + uptoBulkEntries r
def uptoBulkEntry {H : Type} : Lit × DataW H → Nat
  | (.string bytes, d) => bytes.length + uptoBulk d + 1
  | (_, d) => uptoBulk d + 1
 end
def uptoSmall : (H : Type) → List (DataW H) → Bool := fun _ ds => decide (uptoBulkAll ds ≤ 1048576)
def OpenSpec.upto (s : _root_.Go.ChangeSpec) : _root_.Go.OpenSpec := { _root_.Go.OpenSpec.ofChange s with cond := some uptoSmall }

/-- 'pointsmanlaw04.WheelFull', WHERE WHAT IT READS IS OF BULK AT MOST 1048576: true; the input reads as it did. -/
def wheelFullUptoRow : OpenClaim := { program := "ytdhjglkacnhhcaa", sum := "75c3c14f8fdba90110514ccbc7dba69fe5bf78cc8a12da057ecdd5eaba5f7c3f", func := "pointsman/pointsmanlaw04.WheelFull", spec := "wheelFull", unfollowed := true, recurses := true, apart := false, narrowed := true }
def WheelFullUptoSaid : Prop := wheelFullUptoRow.holds Try.pinned (OpenSpec.upto wheelFullSpec)

/-- 'pointsmanlaw04.WheelSkips', WHERE WHAT IT READS IS OF BULK AT MOST 1048576: true; the input reads as it did. -/
def wheelSkipsUptoRow : OpenClaim := { program := "ytdhjglkacnhhcaa", sum := "75c3c14f8fdba90110514ccbc7dba69fe5bf78cc8a12da057ecdd5eaba5f7c3f", func := "pointsman/pointsmanlaw04.WheelSkips", spec := "wheelSkips", unfollowed := true, recurses := true, apart := false, narrowed := true }
def WheelSkipsUptoSaid : Prop := wheelSkipsUptoRow.holds Try.pinned (OpenSpec.upto wheelSkipsSpec)

/-- 'pointsmanlaw04.WheelOnce', WHERE WHAT IT READS IS OF BULK AT MOST 1048576: true; the input reads as it did. -/
def wheelOnceUptoRow : OpenClaim := { program := "ytdhjglkacnhhcaa", sum := "75c3c14f8fdba90110514ccbc7dba69fe5bf78cc8a12da057ecdd5eaba5f7c3f", func := "pointsman/pointsmanlaw04.WheelOnce", spec := "wheelOnce", unfollowed := true, recurses := true, apart := false, narrowed := true }
def WheelOnceUptoSaid : Prop := wheelOnceUptoRow.holds Try.pinned (OpenSpec.upto wheelOnceSpec)

/-- 'pointsmanlaw04.WheelPlays', WHERE WHAT IT READS IS OF BULK AT MOST 1048576: true; the input reads as it did. -/
def wheelPlaysUptoRow : OpenClaim := { program := "ytdhjglkacnhhcaa", sum := "75c3c14f8fdba90110514ccbc7dba69fe5bf78cc8a12da057ecdd5eaba5f7c3f", func := "pointsman/pointsmanlaw04.WheelPlays", spec := "wheelPlays", unfollowed := true, recurses := true, apart := false, narrowed := true }
def WheelPlaysUptoSaid : Prop := wheelPlaysUptoRow.holds Try.pinned (OpenSpec.upto wheelPlaysSpec)

/-- 'pointsmanlaw04.WheelVoid', WHERE WHAT IT READS IS OF BULK AT MOST 1048576: true; the input reads as it did. -/
def wheelVoidUptoRow : OpenClaim := { program := "ytdhjglkacnhhcaa", sum := "75c3c14f8fdba90110514ccbc7dba69fe5bf78cc8a12da057ecdd5eaba5f7c3f", func := "pointsman/pointsmanlaw04.WheelVoid", spec := "wheelVoid", unfollowed := true, recurses := true, apart := false, narrowed := true }
def WheelVoidUptoSaid : Prop := wheelVoidUptoRow.holds Try.pinned (OpenSpec.upto wheelVoidSpec)

end Rows
end Go.Proofs.Ytdhjglkacnhhcaa
