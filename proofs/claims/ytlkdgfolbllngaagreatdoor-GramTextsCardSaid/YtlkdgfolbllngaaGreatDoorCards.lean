/-
  DERIVED. GIVEN WITH THE SEED: THE CARDS: each row of YtlkdgfolbllngaaGreatDoorRows.lean that lists a variable, with what it lists TIED to the program's text (the seventh form; the later family's looks); each row that meets fmt, with fmt's text TOLD by the authors' own Lean function (tested against real Go, not proved from fmt's source: count such statements apart). THE CARD IS WHAT COUNTS. Prove the row's statement (the work); the ties are given (YtlkdgfolbllngaaGreatDoorTie.lean); close each card by the builder's one call (the guide's Derived/Test/ToyasCard.lean, 'card_holds'). Laid BY PROGRAM, IN A SANDBOX (cutbox-door.mjs). By AI agents, Wed Nov 11 2026. No macro, syntax, notation, axiom, sorry.
-/
import Derived.Test.YtlkdgfolbllngaaGreatDoorRows
import GoSem.ClaimSeven
namespace Go.Proofs.YtlkdgfolbllngaaGreatDoor
namespace Rows

/-- THE TIED CARD OF 'pointsmanlaw25.GramReads'. -/
def gramReadsCard : Claim7 := { stood := { row := gramReadsRow, standIns := [], harness := (true, "c4104bf2cebdfa01eb93f73322d4dc9bf024a0232eab27cad2fd09b48d4b7eee"), looks := true }, kinds := [], alts := [], laidByText := true, laidKinds := [.data, .data, .data, .data, .sentinel, .sentinel, .pinned], laidTests := true, laidLooks := .later }
def GramReadsCardSaid : Prop := Claim7.holds Tryz.pinned (.plain (OpenSpec.ofChange gramReadsSpec)) gramReadsCard

/-- THE TIED CARD OF 'pointsmanlaw25.GramBack'. -/
def gramBackCard : Claim7 := { stood := { row := gramBackRow, standIns := [], harness := (true, "c4104bf2cebdfa01eb93f73322d4dc9bf024a0232eab27cad2fd09b48d4b7eee"), looks := true }, kinds := [], alts := [], laidByText := true, laidKinds := [.data, .data, .data, .data, .sentinel, .sentinel, .pinned], laidTests := true, laidLooks := .later }
def GramBackCardSaid : Prop := Claim7.holds Tryz.pinned (.plain (OpenSpec.ofChange gramBackSpec)) gramBackCard

/-- THE TIED CARD OF 'pointsmanlaw25.GramTexts'. -/
def gramTextsCard : Claim7 := { stood := { row := gramTextsRow, standIns := [], harness := (true, "c4104bf2cebdfa01eb93f73322d4dc9bf024a0232eab27cad2fd09b48d4b7eee"), looks := true }, kinds := [], alts := [], laidByText := true, laidKinds := [.data, .data, .data, .data, .sentinel, .sentinel, .pinned], laidTests := true, laidLooks := .later }
def GramTextsCardSaid : Prop := Claim7.holds Tryz.pinned (.plain (OpenSpec.ofChange gramTextsSpec)) gramTextsCard

/-- THE SECOND FORM's CARD OF 'pointsmanlaw25.GramReads'. -/
def gramReadsUptoCard : Claim7 := { stood := { row := gramReadsUptoRow, standIns := [], harness := (true, "c4104bf2cebdfa01eb93f73322d4dc9bf024a0232eab27cad2fd09b48d4b7eee"), looks := true }, kinds := [], alts := [], laidByText := true, laidKinds := [.data, .data, .data, .data, .sentinel, .sentinel, .pinned], laidTests := true, laidLooks := .later }
def GramReadsUptoCardSaid : Prop := Claim7.holds Tryz.pinned (.plain (OpenSpec.upto gramReadsSpec)) gramReadsUptoCard

/-- THE SECOND FORM's CARD OF 'pointsmanlaw25.GramBack'. -/
def gramBackUptoCard : Claim7 := { stood := { row := gramBackUptoRow, standIns := [], harness := (true, "c4104bf2cebdfa01eb93f73322d4dc9bf024a0232eab27cad2fd09b48d4b7eee"), looks := true }, kinds := [], alts := [], laidByText := true, laidKinds := [.data, .data, .data, .data, .sentinel, .sentinel, .pinned], laidTests := true, laidLooks := .later }
def GramBackUptoCardSaid : Prop := Claim7.holds Tryz.pinned (.plain (OpenSpec.upto gramBackSpec)) gramBackUptoCard

/-- THE SECOND FORM's CARD OF 'pointsmanlaw25.GramTexts'. -/
def gramTextsUptoCard : Claim7 := { stood := { row := gramTextsUptoRow, standIns := [], harness := (true, "c4104bf2cebdfa01eb93f73322d4dc9bf024a0232eab27cad2fd09b48d4b7eee"), looks := true }, kinds := [], alts := [], laidByText := true, laidKinds := [.data, .data, .data, .data, .sentinel, .sentinel, .pinned], laidTests := true, laidLooks := .later }
def GramTextsUptoCardSaid : Prop := Claim7.holds Tryz.pinned (.plain (OpenSpec.upto gramTextsSpec)) gramTextsUptoCard
end Rows
end Go.Proofs.YtlkdgfolbllngaaGreatDoor
