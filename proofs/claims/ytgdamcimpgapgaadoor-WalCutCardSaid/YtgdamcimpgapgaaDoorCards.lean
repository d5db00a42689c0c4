/-
  DERIVED. GIVEN WITH THE SEED: THE CARDS: each row of YtgdamcimpgapgaaDoorRows.lean that lists a variable, with what it lists TIED to the program's text (the seventh form; the later family's looks); each row that meets fmt, with fmt's text TOLD by the authors' own Lean function (tested against real Go, not proved from fmt's source: count such statements apart). THE CARD IS WHAT COUNTS. Prove the row's statement (the work); the ties are given (YtgdamcimpgapgaaDoorTie.lean); close each card by the builder's one call (the guide's Derived/Test/ToyasCard.lean, 'card_holds'). Laid BY PROGRAM, IN A SANDBOX (cutbox-door.mjs). By AI agents, Wed Nov 11 2026. No macro, syntax, notation, axiom, sorry.
-/
import Derived.Test.YtgdamcimpgapgaaDoorRows
import GoSem.ClaimSeven
namespace Go.Proofs.YtgdamcimpgapgaaDoor
namespace Rows

/-- THE TIED CARD OF 'sawyerlaw05.WalTorn'. -/
def walTornCard : Claim7 := { stood := { row := walTornRow, standIns := [], harness := (true, "8271db39594369c32b6b24e1784b3a0b0bf687f5069a1c20e987ec04cb5e33f4"), looks := false }, kinds := [], alts := [], laidByText := true, laidKinds := [.data, .data, .data], laidTests := true, laidLooks := .later }
def WalTornCardSaid : Prop := Claim7.holds Tryd.pinned (.plain (OpenSpec.ofChange walTornSpec)) walTornCard

/-- THE TIED CARD OF 'sawyerlaw05.WalRoom'. -/
def walRoomCard : Claim7 := { stood := { row := walRoomRow, standIns := [], harness := (true, "8271db39594369c32b6b24e1784b3a0b0bf687f5069a1c20e987ec04cb5e33f4"), looks := false }, kinds := [], alts := [], laidByText := true, laidKinds := [.data, .data, .data], laidTests := true, laidLooks := .later }
def WalRoomCardSaid : Prop := Claim7.holds Tryd.pinned (.plain (OpenSpec.ofChange walRoomSpec)) walRoomCard

/-- THE TIED CARD OF 'sawyerlaw05.WalCut'. -/
def walCutCard : Claim7 := { stood := { row := walCutRow, standIns := [], harness := (true, "8271db39594369c32b6b24e1784b3a0b0bf687f5069a1c20e987ec04cb5e33f4"), looks := false }, kinds := [], alts := [], laidByText := true, laidKinds := [.data, .data, .data], laidTests := true, laidLooks := .later }
def WalCutCardSaid : Prop := Claim7.holds Tryd.pinned (.plain (OpenSpec.ofChange walCutSpec)) walCutCard

/-- THE SECOND FORM's CARD OF 'sawyerlaw05.WalTorn'. -/
def walTornUptoCard : Claim7 := { stood := { row := walTornUptoRow, standIns := [], harness := (true, "8271db39594369c32b6b24e1784b3a0b0bf687f5069a1c20e987ec04cb5e33f4"), looks := false }, kinds := [], alts := [], laidByText := true, laidKinds := [.data, .data, .data], laidTests := true, laidLooks := .later }
def WalTornUptoCardSaid : Prop := Claim7.holds Tryd.pinned (.plain (OpenSpec.upto walTornSpec)) walTornUptoCard

/-- THE SECOND FORM's CARD OF 'sawyerlaw05.WalRoom'. -/
def walRoomUptoCard : Claim7 := { stood := { row := walRoomUptoRow, standIns := [], harness := (true, "8271db39594369c32b6b24e1784b3a0b0bf687f5069a1c20e987ec04cb5e33f4"), looks := false }, kinds := [], alts := [], laidByText := true, laidKinds := [.data, .data, .data], laidTests := true, laidLooks := .later }
def WalRoomUptoCardSaid : Prop := Claim7.holds Tryd.pinned (.plain (OpenSpec.upto walRoomSpec)) walRoomUptoCard

/-- THE SECOND FORM's CARD OF 'sawyerlaw05.WalCut'. -/
def walCutUptoCard : Claim7 := { stood := { row := walCutUptoRow, standIns := [], harness := (true, "8271db39594369c32b6b24e1784b3a0b0bf687f5069a1c20e987ec04cb5e33f4"), looks := false }, kinds := [], alts := [], laidByText := true, laidKinds := [.data, .data, .data], laidTests := true, laidLooks := .later }
def WalCutUptoCardSaid : Prop := Claim7.holds Tryd.pinned (.plain (OpenSpec.upto walCutSpec)) walCutUptoCard
end Rows
end Go.Proofs.YtgdamcimpgapgaaDoor
