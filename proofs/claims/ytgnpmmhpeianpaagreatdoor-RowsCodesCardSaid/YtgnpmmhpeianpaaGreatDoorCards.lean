/-
  DERIVED. GIVEN WITH THE SEED: THE CARDS: each row of YtgnpmmhpeianpaaGreatDoorRows.lean that lists a variable, with what it lists TIED to the program's text (the seventh form; the later family's looks); each row that meets fmt, with fmt's text TOLD by the authors' own Lean function (tested against real Go, not proved from fmt's source: count such statements apart). THE CARD IS WHAT COUNTS. Prove the row's statement (the work); the ties are given (YtgnpmmhpeianpaaGreatDoorTie.lean); close each card by the builder's one call (the guide's Derived/Test/ToyasCard.lean, 'card_holds'). Laid BY PROGRAM, IN A SANDBOX (cutbox-door.mjs). By AI agents, Wed Nov 11 2026. No macro, syntax, notation, axiom, sorry.
-/
import Derived.Test.YtgnpmmhpeianpaaGreatDoorRows
import GoSem.ClaimSeven
namespace Go.Proofs.YtgnpmmhpeianpaaGreatDoor
namespace Rows

/-- THE TIED CARD OF 'sawyerlaw18.RowsCodes'. -/
def rowsCodesCard : Claim7 := { stood := { row := rowsCodesRow, standIns := [], harness := (true, "0e718624bec17abbaf62e7b16e18ced728a439b343286c7aea4ab39d14a65454"), looks := true }, kinds := [], alts := [], laidByText := true, laidKinds := [.data, .data, .data, .sentinel, .sentinel], laidTests := true, laidLooks := .later }
def RowsCodesCardSaid : Prop := Claim7.holds Tryz.pinned (.plain (OpenSpec.ofChange rowsCodesSpec)) rowsCodesCard

/-- THE SECOND FORM's CARD OF 'sawyerlaw18.RowsCodes'. -/
def rowsCodesUptoCard : Claim7 := { stood := { row := rowsCodesUptoRow, standIns := [], harness := (true, "0e718624bec17abbaf62e7b16e18ced728a439b343286c7aea4ab39d14a65454"), looks := true }, kinds := [], alts := [], laidByText := true, laidKinds := [.data, .data, .data, .sentinel, .sentinel], laidTests := true, laidLooks := .later }
def RowsCodesUptoCardSaid : Prop := Claim7.holds Tryz.pinned (.plain (OpenSpec.upto rowsCodesSpec)) rowsCodesUptoCard
end Rows
end Go.Proofs.YtgnpmmhpeianpaaGreatDoor
