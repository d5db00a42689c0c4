/-
  DERIVED. GIVEN WITH THE SEED: THE CARDS: each row of YtiomlnhfhmpejaaGreatDoorRows.lean that lists a variable, with what it lists TIED to the program's text (the seventh form; the later family's looks); each row that meets fmt, with fmt's text TOLD by the authors' own Lean function (tested against real Go, not proved from fmt's source: count such statements apart). THE CARD IS WHAT COUNTS. Prove the row's statement (the work); the ties are given (YtiomlnhfhmpejaaGreatDoorTie.lean); close each card by the builder's one call (the guide's Derived/Test/ToyasCard.lean, 'card_holds'). Laid BY PROGRAM, IN A SANDBOX (cutbox-door.mjs). By AI agents, Wed Nov 11 2026. No macro, syntax, notation, axiom, sorry.
-/
import Derived.Test.YtiomlnhfhmpejaaGreatDoorRows
import GoSem.ClaimSeven
namespace Go.Proofs.YtiomlnhfhmpejaaGreatDoor
namespace Rows

/-- THE TIED CARD OF 'sawyerlaw18.RowsFresh'. -/
def rowsFreshCard : Claim7 := { stood := { row := rowsFreshRow, standIns := [], harness := (true, "d4552765f24988e3ba5e16e437a381a0a5bed5f52140f915a4700b6af9d4be2c"), looks := true }, kinds := [], alts := [], laidByText := true, laidKinds := [.data, .data, .data, .sentinel, .sentinel], laidTests := true, laidLooks := .later }
def RowsFreshCardSaid : Prop := Claim7.holds Tryz.pinned (.plain (OpenSpec.ofChange rowsFreshSpec)) rowsFreshCard

/-- THE TIED CARD OF 'sawyerlaw18.RowsNone'. -/
def rowsNoneCard : Claim7 := { stood := { row := rowsNoneRow, standIns := [], harness := (true, "d4552765f24988e3ba5e16e437a381a0a5bed5f52140f915a4700b6af9d4be2c"), looks := true }, kinds := [], alts := [], laidByText := true, laidKinds := [.data, .data, .data, .sentinel, .sentinel], laidTests := true, laidLooks := .later }
def RowsNoneCardSaid : Prop := Claim7.holds Tryz.pinned (.plain (OpenSpec.ofChange rowsNoneSpec)) rowsNoneCard

/-- THE SECOND FORM's CARD OF 'sawyerlaw18.RowsFresh'. -/
def rowsFreshUptoCard : Claim7 := { stood := { row := rowsFreshUptoRow, standIns := [], harness := (true, "d4552765f24988e3ba5e16e437a381a0a5bed5f52140f915a4700b6af9d4be2c"), looks := true }, kinds := [], alts := [], laidByText := true, laidKinds := [.data, .data, .data, .sentinel, .sentinel], laidTests := true, laidLooks := .later }
def RowsFreshUptoCardSaid : Prop := Claim7.holds Tryz.pinned (.plain (OpenSpec.upto rowsFreshSpec)) rowsFreshUptoCard

/-- THE SECOND FORM's CARD OF 'sawyerlaw18.RowsNone'. -/
def rowsNoneUptoCard : Claim7 := { stood := { row := rowsNoneUptoRow, standIns := [], harness := (true, "d4552765f24988e3ba5e16e437a381a0a5bed5f52140f915a4700b6af9d4be2c"), looks := true }, kinds := [], alts := [], laidByText := true, laidKinds := [.data, .data, .data, .sentinel, .sentinel], laidTests := true, laidLooks := .later }
def RowsNoneUptoCardSaid : Prop := Claim7.holds Tryz.pinned (.plain (OpenSpec.upto rowsNoneSpec)) rowsNoneUptoCard
end Rows
end Go.Proofs.YtiomlnhfhmpejaaGreatDoor
