/-
  DERIVED. GIVEN WITH THE SEED: THE CARDS: each row of YtolmljommmhpkaaDoorRows.lean that lists a variable, with what it lists TIED to the program's text (the seventh form; the later family's looks); each row that meets fmt, with fmt's text TOLD by the authors' own Lean function (tested against real Go, not proved from fmt's source: count such statements apart). THE CARD IS WHAT COUNTS. Prove the row's statement (the work); the ties are given (YtolmljommmhpkaaDoorTie.lean); close each card by the builder's one call (the guide's Derived/Test/ToyasCard.lean, 'card_holds'). Laid BY PROGRAM, IN A SANDBOX (cutbox-door.mjs). By AI agents, Wed Nov 11 2026. No macro, syntax, notation, axiom, sorry.
-/
import Derived.Test.YtolmljommmhpkaaDoorRows
import GoSem.ClaimSeven
namespace Go.Proofs.YtolmljommmhpkaaDoor
namespace Rows

/-- THE TIED CARD OF 'pointsmanlaw07.IpBuilds'. -/
def ipBuildsCard : Claim7 := { stood := { row := ipBuildsRow, standIns := [], harness := (true, "2dba4e975ebc66f6eb22ed5400c522c0fee9ecf7bd67302a355eebf2da63ca75"), looks := true }, kinds := [], alts := [], laidByText := true, laidKinds := [.data, .data, .data], laidTests := true, laidLooks := .later }
def IpBuildsCardSaid : Prop := Claim7.holds Tryd.pinned (.plain (OpenSpec.ofChange ipBuildsSpec)) ipBuildsCard

/-- THE TIED CARD OF 'pointsmanlaw07.IpReads'. -/
def ipReadsCard : Claim7 := { stood := { row := ipReadsRow, standIns := [], harness := (true, "2dba4e975ebc66f6eb22ed5400c522c0fee9ecf7bd67302a355eebf2da63ca75"), looks := true }, kinds := [], alts := [], laidByText := true, laidKinds := [.data, .data, .data], laidTests := true, laidLooks := .later }
def IpReadsCardSaid : Prop := Claim7.holds Tryd.pinned (.plain (OpenSpec.ofChange ipReadsSpec)) ipReadsCard

/-- THE TIED CARD OF 'pointsmanlaw07.IpBack'. -/
def ipBackCard : Claim7 := { stood := { row := ipBackRow, standIns := [], harness := (true, "2dba4e975ebc66f6eb22ed5400c522c0fee9ecf7bd67302a355eebf2da63ca75"), looks := true }, kinds := [], alts := [], laidByText := true, laidKinds := [.data, .data, .data], laidTests := true, laidLooks := .later }
def IpBackCardSaid : Prop := Claim7.holds Tryd.pinned (.plain (OpenSpec.ofChange ipBackSpec)) ipBackCard

/-- THE TIED CARD OF 'pointsmanlaw07.IpFinds'. -/
def ipFindsCard : Claim7 := { stood := { row := ipFindsRow, standIns := [], harness := (true, "2dba4e975ebc66f6eb22ed5400c522c0fee9ecf7bd67302a355eebf2da63ca75"), looks := true }, kinds := [], alts := [], laidByText := true, laidKinds := [.data, .data, .data], laidTests := true, laidLooks := .later }
def IpFindsCardSaid : Prop := Claim7.holds Tryd.pinned (.plain (OpenSpec.ofChange ipFindsSpec)) ipFindsCard

/-- THE TIED CARD OF 'pointsmanlaw07.IpCuts'. -/
def ipCutsCard : Claim7 := { stood := { row := ipCutsRow, standIns := [], harness := (true, "2dba4e975ebc66f6eb22ed5400c522c0fee9ecf7bd67302a355eebf2da63ca75"), looks := true }, kinds := [], alts := [], laidByText := true, laidKinds := [.data, .data, .data], laidTests := true, laidLooks := .later }
def IpCutsCardSaid : Prop := Claim7.holds Tryd.pinned (.plain (OpenSpec.ofChange ipCutsSpec)) ipCutsCard

/-- THE TIED CARD OF 'pointsmanlaw07.IpPieces'. -/
def ipPiecesCard : Claim7 := { stood := { row := ipPiecesRow, standIns := [], harness := (true, "2dba4e975ebc66f6eb22ed5400c522c0fee9ecf7bd67302a355eebf2da63ca75"), looks := true }, kinds := [], alts := [], laidByText := true, laidKinds := [.data, .data, .data], laidTests := true, laidLooks := .later }
def IpPiecesCardSaid : Prop := Claim7.holds Tryd.pinned (.plain (OpenSpec.ofChange ipPiecesSpec)) ipPiecesCard

/-- THE TIED CARD OF 'pointsmanlaw07.IpTexts'. -/
def ipTextsCard : Claim7 := { stood := { row := ipTextsRow, standIns := [], harness := (true, "2dba4e975ebc66f6eb22ed5400c522c0fee9ecf7bd67302a355eebf2da63ca75"), looks := true }, kinds := [], alts := [], laidByText := true, laidKinds := [.data, .data, .data, .data, .sentinel, .sentinel, .pinned], laidTests := true, laidLooks := .later }
def IpTextsCardSaid : Prop := Claim7.holds Tryd.pinned (.plain (OpenSpec.ofChange ipTextsSpec)) ipTextsCard

/-- THE SECOND FORM's CARD OF 'pointsmanlaw07.IpBuilds'. -/
def ipBuildsUptoCard : Claim7 := { stood := { row := ipBuildsUptoRow, standIns := [], harness := (true, "2dba4e975ebc66f6eb22ed5400c522c0fee9ecf7bd67302a355eebf2da63ca75"), looks := true }, kinds := [], alts := [], laidByText := true, laidKinds := [.data, .data, .data], laidTests := true, laidLooks := .later }
def IpBuildsUptoCardSaid : Prop := Claim7.holds Tryd.pinned (.plain (OpenSpec.upto ipBuildsSpec)) ipBuildsUptoCard

/-- THE SECOND FORM's CARD OF 'pointsmanlaw07.IpReads'. -/
def ipReadsUptoCard : Claim7 := { stood := { row := ipReadsUptoRow, standIns := [], harness := (true, "2dba4e975ebc66f6eb22ed5400c522c0fee9ecf7bd67302a355eebf2da63ca75"), looks := true }, kinds := [], alts := [], laidByText := true, laidKinds := [.data, .data, .data], laidTests := true, laidLooks := .later }
def IpReadsUptoCardSaid : Prop := Claim7.holds Tryd.pinned (.plain (OpenSpec.upto ipReadsSpec)) ipReadsUptoCard

/-- THE SECOND FORM's CARD OF 'pointsmanlaw07.IpBack'. -/
def ipBackUptoCard : Claim7 := { stood := { row := ipBackUptoRow, standIns := [], harness := (true, "2dba4e975ebc66f6eb22ed5400c522c0fee9ecf7bd67302a355eebf2da63ca75"), looks := true }, kinds := [], alts := [], laidByText := true, laidKinds := [.data, .data, .data], laidTests := true, laidLooks := .later }
def IpBackUptoCardSaid : Prop := Claim7.holds Tryd.pinned (.plain (OpenSpec.upto ipBackSpec)) ipBackUptoCard

/-- THE SECOND FORM's CARD OF 'pointsmanlaw07.IpFinds'. -/
def ipFindsUptoCard : Claim7 := { stood := { row := ipFindsUptoRow, standIns := [], harness := (true, "2dba4e975ebc66f6eb22ed5400c522c0fee9ecf7bd67302a355eebf2da63ca75"), looks := true }, kinds := [], alts := [], laidByText := true, laidKinds := [.data, .data, .data], laidTests := true, laidLooks := .later }
def IpFindsUptoCardSaid : Prop := Claim7.holds Tryd.pinned (.plain (OpenSpec.upto ipFindsSpec)) ipFindsUptoCard

/-- THE SECOND FORM's CARD OF 'pointsmanlaw07.IpCuts'. -/
def ipCutsUptoCard : Claim7 := { stood := { row := ipCutsUptoRow, standIns := [], harness := (true, "2dba4e975ebc66f6eb22ed5400c522c0fee9ecf7bd67302a355eebf2da63ca75"), looks := true }, kinds := [], alts := [], laidByText := true, laidKinds := [.data, .data, .data], laidTests := true, laidLooks := .later }
def IpCutsUptoCardSaid : Prop := Claim7.holds Tryd.pinned (.plain (OpenSpec.upto ipCutsSpec)) ipCutsUptoCard

/-- THE SECOND FORM's CARD OF 'pointsmanlaw07.IpPieces'. -/
def ipPiecesUptoCard : Claim7 := { stood := { row := ipPiecesUptoRow, standIns := [], harness := (true, "2dba4e975ebc66f6eb22ed5400c522c0fee9ecf7bd67302a355eebf2da63ca75"), looks := true }, kinds := [], alts := [], laidByText := true, laidKinds := [.data, .data, .data], laidTests := true, laidLooks := .later }
def IpPiecesUptoCardSaid : Prop := Claim7.holds Tryd.pinned (.plain (OpenSpec.upto ipPiecesSpec)) ipPiecesUptoCard

/-- THE SECOND FORM's CARD OF 'pointsmanlaw07.IpTexts'. -/
def ipTextsUptoCard : Claim7 := { stood := { row := ipTextsUptoRow, standIns := [], harness := (true, "2dba4e975ebc66f6eb22ed5400c522c0fee9ecf7bd67302a355eebf2da63ca75"), looks := true }, kinds := [], alts := [], laidByText := true, laidKinds := [.data, .data, .data, .data, .sentinel, .sentinel, .pinned], laidTests := true, laidLooks := .later }
def IpTextsUptoCardSaid : Prop := Claim7.holds Tryd.pinned (.plain (OpenSpec.upto ipTextsSpec)) ipTextsUptoCard
end Rows
end Go.Proofs.YtolmljommmhpkaaDoor
