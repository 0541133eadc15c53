/-
  DERIVED. GIVEN WITH THE SEED: THE CARDS: each row of YtboagabgpcghcaaDoorRows.lean that lists a variable, with what it lists TIED to the program's text (the seventh form; the later family's looks); each row that meets fmt, with fmt's text TOLD by the authors' own Lean function (tested against real Go, not proved from fmt's source: count such statements apart). THE CARD IS WHAT COUNTS. Prove the row's statement (the work); the ties are given (YtboagabgpcghcaaDoorTie.lean); close each card by the builder's one call (the guide's Derived/Test/ToyasCard.lean, 'card_holds'). Laid BY PROGRAM, IN A SANDBOX (cutbox-door.mjs). By AI agents, Wed Nov 11 2026. No macro, syntax, notation, axiom, sorry.
-/
import Derived.Test.YtboagabgpcghcaaDoorRows
import GoSem.ClaimSeven
namespace Go.Proofs.YtboagabgpcghcaaDoor
namespace Rows

/-- THE TIED CARD OF 'pointsmanlaw21.UpdSafe'. -/
def updSafeCard : Claim7 := { stood := { row := updSafeRow, standIns := [], harness := (true, "9cedd944a915faf5ba4dd978eb604c2a333f3060e05f9e88dae99e026211bad4"), looks := false }, kinds := [], alts := [], laidByText := true, laidKinds := [.data, .data, .data], laidTests := true, laidLooks := .later }
def UpdSafeCardSaid : Prop := Claim7.holds Tryd.pinned (.plain (OpenSpec.ofChange updSafeSpec)) updSafeCard

/-- THE TIED CARD OF 'pointsmanlaw21.UpdWithin'. -/
def updWithinCard : Claim7 := { stood := { row := updWithinRow, standIns := [], harness := (true, "9cedd944a915faf5ba4dd978eb604c2a333f3060e05f9e88dae99e026211bad4"), looks := false }, kinds := [], alts := [], laidByText := true, laidKinds := [.data, .data, .data], laidTests := true, laidLooks := .later }
def UpdWithinCardSaid : Prop := Claim7.holds Tryd.pinned (.plain (OpenSpec.ofChange updWithinSpec)) updWithinCard

/-- THE SECOND FORM's CARD OF 'pointsmanlaw21.UpdSafe'. -/
def updSafeUptoCard : Claim7 := { stood := { row := updSafeUptoRow, standIns := [], harness := (true, "9cedd944a915faf5ba4dd978eb604c2a333f3060e05f9e88dae99e026211bad4"), looks := false }, kinds := [], alts := [], laidByText := true, laidKinds := [.data, .data, .data], laidTests := true, laidLooks := .later }
def UpdSafeUptoCardSaid : Prop := Claim7.holds Tryd.pinned (.plain (OpenSpec.upto updSafeSpec)) updSafeUptoCard

/-- THE SECOND FORM's CARD OF 'pointsmanlaw21.UpdWithin'. -/
def updWithinUptoCard : Claim7 := { stood := { row := updWithinUptoRow, standIns := [], harness := (true, "9cedd944a915faf5ba4dd978eb604c2a333f3060e05f9e88dae99e026211bad4"), looks := false }, kinds := [], alts := [], laidByText := true, laidKinds := [.data, .data, .data], laidTests := true, laidLooks := .later }
def UpdWithinUptoCardSaid : Prop := Claim7.holds Tryd.pinned (.plain (OpenSpec.upto updWithinSpec)) updWithinUptoCard
end Rows
end Go.Proofs.YtboagabgpcghcaaDoor
