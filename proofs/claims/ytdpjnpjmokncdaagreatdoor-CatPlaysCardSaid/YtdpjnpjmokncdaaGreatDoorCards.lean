/-
  DERIVED. GIVEN WITH THE SEED: THE CARDS: each row of YtdpjnpjmokncdaaGreatDoorRows.lean that lists a variable, with what it lists TIED to the program's text (the seventh form; the later family's looks); each row that meets fmt, with fmt's text TOLD by the authors' own Lean function (tested against real Go, not proved from fmt's source: count such statements apart). THE CARD IS WHAT COUNTS. Prove the row's statement (the work); the ties are given (YtdpjnpjmokncdaaGreatDoorTie.lean); close each card by the builder's one call (the guide's Derived/Test/ToyasCard.lean, 'card_holds'). Laid BY PROGRAM, IN A SANDBOX (cutbox-door.mjs). By AI agents, Wed Nov 11 2026. No macro, syntax, notation, axiom, sorry.
-/
import Derived.Test.YtdpjnpjmokncdaaGreatDoorRows
import GoSem.ClaimSeven
namespace Go.Proofs.YtdpjnpjmokncdaaGreatDoor
namespace Rows

/-- THE TIED CARD OF 'sawyerlaw11.CatTwo'. -/
def catTwoCard : Claim7 := { stood := { row := catTwoRow, standIns := [], harness := (true, "9b5dab448c67384d9101da0952b63f847e3f6346a7c68ab9f6b481f9fc4b6ee7"), looks := true }, kinds := [], alts := [], laidByText := true, laidKinds := [.data, .data, .data, .sentinel, .sentinel], laidTests := true, laidLooks := .later }
def CatTwoCardSaid : Prop := Claim7.holds Tryz.pinned (.plain (OpenSpec.ofChange catTwoSpec)) catTwoCard

/-- THE TIED CARD OF 'sawyerlaw11.CatSure'. -/
def catSureCard : Claim7 := { stood := { row := catSureRow, standIns := [], harness := (true, "9b5dab448c67384d9101da0952b63f847e3f6346a7c68ab9f6b481f9fc4b6ee7"), looks := true }, kinds := [], alts := [], laidByText := true, laidKinds := [.data, .data, .data, .sentinel, .sentinel], laidTests := true, laidLooks := .later }
def CatSureCardSaid : Prop := Claim7.holds Tryz.pinned (.plain (OpenSpec.ofChange catSureSpec)) catSureCard

/-- THE TIED CARD OF 'sawyerlaw11.CatCut'. -/
def catCutCard : Claim7 := { stood := { row := catCutRow, standIns := [], harness := (true, "9b5dab448c67384d9101da0952b63f847e3f6346a7c68ab9f6b481f9fc4b6ee7"), looks := true }, kinds := [], alts := [], laidByText := true, laidKinds := [.data, .data, .data, .sentinel, .sentinel], laidTests := true, laidLooks := .later }
def CatCutCardSaid : Prop := Claim7.holds Tryz.pinned (.plain (OpenSpec.ofChange catCutSpec)) catCutCard

/-- THE TIED CARD OF 'sawyerlaw11.CatCleans'. -/
def catCleansCard : Claim7 := { stood := { row := catCleansRow, standIns := [], harness := (true, "9b5dab448c67384d9101da0952b63f847e3f6346a7c68ab9f6b481f9fc4b6ee7"), looks := true }, kinds := [], alts := [], laidByText := true, laidKinds := [.data, .data, .data, .sentinel, .sentinel], laidTests := true, laidLooks := .later }
def CatCleansCardSaid : Prop := Claim7.holds Tryz.pinned (.plain (OpenSpec.ofChange catCleansSpec)) catCleansCard

/-- THE TIED CARD OF 'sawyerlaw11.CatLoads'. -/
def catLoadsCard : Claim7 := { stood := { row := catLoadsRow, standIns := [], harness := (true, "9b5dab448c67384d9101da0952b63f847e3f6346a7c68ab9f6b481f9fc4b6ee7"), looks := true }, kinds := [], alts := [], laidByText := true, laidKinds := [.data, .data, .data, .sentinel, .sentinel], laidTests := true, laidLooks := .later }
def CatLoadsCardSaid : Prop := Claim7.holds Tryz.pinned (.plain (OpenSpec.ofChange catLoadsSpec)) catLoadsCard

/-- THE TIED CARD OF 'sawyerlaw11.CatPlays'. -/
def catPlaysCard : Claim7 := { stood := { row := catPlaysRow, standIns := [], harness := (true, "9b5dab448c67384d9101da0952b63f847e3f6346a7c68ab9f6b481f9fc4b6ee7"), looks := true }, kinds := [], alts := [], laidByText := true, laidKinds := [.data, .data, .data, .sentinel, .sentinel], laidTests := true, laidLooks := .later }
def CatPlaysCardSaid : Prop := Claim7.holds Tryz.pinned (.plain (OpenSpec.ofChange catPlaysSpec)) catPlaysCard

/-- THE SECOND FORM's CARD OF 'sawyerlaw11.CatTwo'. -/
def catTwoUptoCard : Claim7 := { stood := { row := catTwoUptoRow, standIns := [], harness := (true, "9b5dab448c67384d9101da0952b63f847e3f6346a7c68ab9f6b481f9fc4b6ee7"), looks := true }, kinds := [], alts := [], laidByText := true, laidKinds := [.data, .data, .data, .sentinel, .sentinel], laidTests := true, laidLooks := .later }
def CatTwoUptoCardSaid : Prop := Claim7.holds Tryz.pinned (.plain (OpenSpec.upto catTwoSpec)) catTwoUptoCard

/-- THE SECOND FORM's CARD OF 'sawyerlaw11.CatSure'. -/
def catSureUptoCard : Claim7 := { stood := { row := catSureUptoRow, standIns := [], harness := (true, "9b5dab448c67384d9101da0952b63f847e3f6346a7c68ab9f6b481f9fc4b6ee7"), looks := true }, kinds := [], alts := [], laidByText := true, laidKinds := [.data, .data, .data, .sentinel, .sentinel], laidTests := true, laidLooks := .later }
def CatSureUptoCardSaid : Prop := Claim7.holds Tryz.pinned (.plain (OpenSpec.upto catSureSpec)) catSureUptoCard

/-- THE SECOND FORM's CARD OF 'sawyerlaw11.CatCut'. -/
def catCutUptoCard : Claim7 := { stood := { row := catCutUptoRow, standIns := [], harness := (true, "9b5dab448c67384d9101da0952b63f847e3f6346a7c68ab9f6b481f9fc4b6ee7"), looks := true }, kinds := [], alts := [], laidByText := true, laidKinds := [.data, .data, .data, .sentinel, .sentinel], laidTests := true, laidLooks := .later }
def CatCutUptoCardSaid : Prop := Claim7.holds Tryz.pinned (.plain (OpenSpec.upto catCutSpec)) catCutUptoCard

/-- THE SECOND FORM's CARD OF 'sawyerlaw11.CatCleans'. -/
def catCleansUptoCard : Claim7 := { stood := { row := catCleansUptoRow, standIns := [], harness := (true, "9b5dab448c67384d9101da0952b63f847e3f6346a7c68ab9f6b481f9fc4b6ee7"), looks := true }, kinds := [], alts := [], laidByText := true, laidKinds := [.data, .data, .data, .sentinel, .sentinel], laidTests := true, laidLooks := .later }
def CatCleansUptoCardSaid : Prop := Claim7.holds Tryz.pinned (.plain (OpenSpec.upto catCleansSpec)) catCleansUptoCard

/-- THE SECOND FORM's CARD OF 'sawyerlaw11.CatLoads'. -/
def catLoadsUptoCard : Claim7 := { stood := { row := catLoadsUptoRow, standIns := [], harness := (true, "9b5dab448c67384d9101da0952b63f847e3f6346a7c68ab9f6b481f9fc4b6ee7"), looks := true }, kinds := [], alts := [], laidByText := true, laidKinds := [.data, .data, .data, .sentinel, .sentinel], laidTests := true, laidLooks := .later }
def CatLoadsUptoCardSaid : Prop := Claim7.holds Tryz.pinned (.plain (OpenSpec.upto catLoadsSpec)) catLoadsUptoCard

/-- THE SECOND FORM's CARD OF 'sawyerlaw11.CatPlays'. -/
def catPlaysUptoCard : Claim7 := { stood := { row := catPlaysUptoRow, standIns := [], harness := (true, "9b5dab448c67384d9101da0952b63f847e3f6346a7c68ab9f6b481f9fc4b6ee7"), looks := true }, kinds := [], alts := [], laidByText := true, laidKinds := [.data, .data, .data, .sentinel, .sentinel], laidTests := true, laidLooks := .later }
def CatPlaysUptoCardSaid : Prop := Claim7.holds Tryz.pinned (.plain (OpenSpec.upto catPlaysSpec)) catPlaysUptoCard
end Rows
end Go.Proofs.YtdpjnpjmokncdaaGreatDoor
