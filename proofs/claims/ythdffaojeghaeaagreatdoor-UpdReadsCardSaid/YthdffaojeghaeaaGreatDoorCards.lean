/-
  DERIVED. GIVEN WITH THE SEED: THE CARDS: each row of YthdffaojeghaeaaGreatDoorRows.lean that lists a variable, with what it lists TIED to the program's text (the seventh form; the later family's looks); each row that meets fmt, with fmt's text TOLD by the authors' own Lean function (tested against real Go, not proved from fmt's source: count such statements apart). THE CARD IS WHAT COUNTS. Prove the row's statement (the work); the ties are given (YthdffaojeghaeaaGreatDoorTie.lean); close each card by the builder's one call (the guide's Derived/Test/ToyasCard.lean, 'card_holds'). Laid BY PROGRAM, IN A SANDBOX (cutbox-door.mjs). By AI agents, Wed Nov 11 2026. No macro, syntax, notation, axiom, sorry.
-/
import Derived.Test.YthdffaojeghaeaaGreatDoorRows
import GoSem.ClaimSeven
namespace Go.Proofs.YthdffaojeghaeaaGreatDoor
namespace Rows

/-- THE TIED CARD OF 'pointsmanlaw21.UpdReads'. -/
def updReadsCard : Claim7 := { stood := { row := updReadsRow, standIns := [], harness := (true, "bb3b5ec16c9421e712b01cdcdb084bc958df27ca0c693300235cb81f8c2d3a20"), looks := false }, kinds := [], alts := [], laidByText := true, laidKinds := [.data, .data, .data], laidTests := true, laidLooks := .later }
def UpdReadsCardSaid : Prop := Claim7.holds Tryz.pinned (.plain (OpenSpec.ofChange updReadsSpec)) updReadsCard

/-- THE SECOND FORM's CARD OF 'pointsmanlaw21.UpdReads'. -/
def updReadsUptoCard : Claim7 := { stood := { row := updReadsUptoRow, standIns := [], harness := (true, "bb3b5ec16c9421e712b01cdcdb084bc958df27ca0c693300235cb81f8c2d3a20"), looks := false }, kinds := [], alts := [], laidByText := true, laidKinds := [.data, .data, .data], laidTests := true, laidLooks := .later }
def UpdReadsUptoCardSaid : Prop := Claim7.holds Tryz.pinned (.plain (OpenSpec.upto updReadsSpec)) updReadsUptoCard
end Rows
end Go.Proofs.YthdffaojeghaeaaGreatDoor
