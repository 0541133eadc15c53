/-
  DERIVED. GIVEN WITH THE SEED: THE CARDS: each row of YtboagabgpcghcaaGreatDoorRows.lean that lists a variable, with what it lists TIED to the program's text (the seventh form; the later family's looks); each row that meets fmt, with fmt's text TOLD by the authors' own Lean function (tested against real Go, not proved from fmt's source: count such statements apart). THE CARD IS WHAT COUNTS. Prove the row's statement (the work); the ties are given (YtboagabgpcghcaaGreatDoorTie.lean); close each card by the builder's one call (the guide's Derived/Test/ToyasCard.lean, 'card_holds'). Laid BY PROGRAM, IN A SANDBOX (cutbox-door.mjs). By AI agents, Wed Nov 11 2026. No macro, syntax, notation, axiom, sorry.
-/
import Derived.Test.YtboagabgpcghcaaGreatDoorRows
import GoSem.ClaimSeven
namespace Go.Proofs.YtboagabgpcghcaaGreatDoor
namespace Rows

/-- THE TIED CARD OF 'pointsmanlaw21.UpdReads'. -/
def updReadsCard : Claim7 := { stood := { row := updReadsRow, standIns := [], harness := (true, "f0ece80c07ee29861796522814b1054ac4fbfeb9b924c81167a20fcdb9f14a78"), looks := true }, kinds := [], alts := [], laidByText := true, laidKinds := [.data, .data, .data], laidTests := true, laidLooks := .later }
def UpdReadsCardSaid : Prop := Claim7.holds Tryz.pinned (.plain (OpenSpec.ofChange updReadsSpec)) updReadsCard

/-- THE TIED CARD OF 'pointsmanlaw21.UpdBack'. -/
def updBackCard : Claim7 := { stood := { row := updBackRow, standIns := [], harness := (true, "f0ece80c07ee29861796522814b1054ac4fbfeb9b924c81167a20fcdb9f14a78"), looks := true }, kinds := [], alts := [], laidByText := true, laidKinds := [.data, .data, .data], laidTests := true, laidLooks := .later }
def UpdBackCardSaid : Prop := Claim7.holds Tryz.pinned (.plain (OpenSpec.ofChange updBackSpec)) updBackCard

/-- THE TIED CARD OF 'pointsmanlaw21.UpdBuilds'. -/
def updBuildsCard : Claim7 := { stood := { row := updBuildsRow, standIns := [], harness := (true, "f0ece80c07ee29861796522814b1054ac4fbfeb9b924c81167a20fcdb9f14a78"), looks := true }, kinds := [], alts := [], laidByText := true, laidKinds := [.data, .data, .data], laidTests := true, laidLooks := .later }
def UpdBuildsCardSaid : Prop := Claim7.holds Tryz.pinned (.plain (OpenSpec.ofChange updBuildsSpec)) updBuildsCard

/-- THE TIED CARD OF 'pointsmanlaw21.UpdTells'. -/
def updTellsCard : Claim7 := { stood := { row := updTellsRow, standIns := [], harness := (true, "f0ece80c07ee29861796522814b1054ac4fbfeb9b924c81167a20fcdb9f14a78"), looks := true }, kinds := [], alts := [], laidByText := true, laidKinds := [.data, .data, .data, .data, .sentinel, .sentinel, .pinned], laidTests := true, laidLooks := .later }
def UpdTellsCardSaid : Prop := Claim7.holds Tryz.pinned (.plain (OpenSpec.ofChange updTellsSpec)) updTellsCard

/-- THE SECOND FORM's CARD OF 'pointsmanlaw21.UpdReads'. -/
def updReadsUptoCard : Claim7 := { stood := { row := updReadsUptoRow, standIns := [], harness := (true, "f0ece80c07ee29861796522814b1054ac4fbfeb9b924c81167a20fcdb9f14a78"), looks := true }, kinds := [], alts := [], laidByText := true, laidKinds := [.data, .data, .data], laidTests := true, laidLooks := .later }
def UpdReadsUptoCardSaid : Prop := Claim7.holds Tryz.pinned (.plain (OpenSpec.upto updReadsSpec)) updReadsUptoCard

/-- THE SECOND FORM's CARD OF 'pointsmanlaw21.UpdBack'. -/
def updBackUptoCard : Claim7 := { stood := { row := updBackUptoRow, standIns := [], harness := (true, "f0ece80c07ee29861796522814b1054ac4fbfeb9b924c81167a20fcdb9f14a78"), looks := true }, kinds := [], alts := [], laidByText := true, laidKinds := [.data, .data, .data], laidTests := true, laidLooks := .later }
def UpdBackUptoCardSaid : Prop := Claim7.holds Tryz.pinned (.plain (OpenSpec.upto updBackSpec)) updBackUptoCard

/-- THE SECOND FORM's CARD OF 'pointsmanlaw21.UpdBuilds'. -/
def updBuildsUptoCard : Claim7 := { stood := { row := updBuildsUptoRow, standIns := [], harness := (true, "f0ece80c07ee29861796522814b1054ac4fbfeb9b924c81167a20fcdb9f14a78"), looks := true }, kinds := [], alts := [], laidByText := true, laidKinds := [.data, .data, .data], laidTests := true, laidLooks := .later }
def UpdBuildsUptoCardSaid : Prop := Claim7.holds Tryz.pinned (.plain (OpenSpec.upto updBuildsSpec)) updBuildsUptoCard

/-- THE SECOND FORM's CARD OF 'pointsmanlaw21.UpdTells'. -/
def updTellsUptoCard : Claim7 := { stood := { row := updTellsUptoRow, standIns := [], harness := (true, "f0ece80c07ee29861796522814b1054ac4fbfeb9b924c81167a20fcdb9f14a78"), looks := true }, kinds := [], alts := [], laidByText := true, laidKinds := [.data, .data, .data, .data, .sentinel, .sentinel, .pinned], laidTests := true, laidLooks := .later }
def UpdTellsUptoCardSaid : Prop := Claim7.holds Tryz.pinned (.plain (OpenSpec.upto updTellsSpec)) updTellsUptoCard
end Rows
end Go.Proofs.YtboagabgpcghcaaGreatDoor
