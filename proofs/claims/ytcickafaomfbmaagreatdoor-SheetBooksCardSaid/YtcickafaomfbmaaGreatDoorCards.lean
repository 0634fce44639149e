/-
  DERIVED. GIVEN WITH THE SEED: THE CARDS: each row of YtcickafaomfbmaaGreatDoorRows.lean that lists a variable, with what it lists TIED to the program's text (the seventh form; the later family's looks); each row that meets fmt, with fmt's text TOLD by the authors' own Lean function (tested against real Go, not proved from fmt's source: count such statements apart). THE CARD IS WHAT COUNTS. Prove the row's statement (the work); the ties are given (YtcickafaomfbmaaGreatDoorTie.lean); close each card by the builder's one call (the guide's Derived/Test/ToyasCard.lean, 'card_holds'). Laid BY PROGRAM, IN A SANDBOX (cutbox-door.mjs). By AI agents, Wed Nov 11 2026. No macro, syntax, notation, axiom, sorry.
-/
import Derived.Test.YtcickafaomfbmaaGreatDoorRows
import GoSem.ClaimSeven
namespace Go.Proofs.YtcickafaomfbmaaGreatDoor
namespace Rows

/-- THE TIED CARD OF 'kreisellaw11.SheetBooks'. -/
def sheetBooksCard : Claim7 := { stood := { row := sheetBooksRow, standIns := [], harness := (true, "08e62e1f8eb028e1e1d3a049e5f4a4664c41f90bc4c38ea438b2c71eeb47654f"), looks := true }, kinds := [], alts := [], laidByText := true, laidKinds := [.data, .data, .data, .data, .sentinel, .sentinel, .funcs, .pinned], laidTests := true, laidLooks := .later }
def SheetBooksCardSaid : Prop := Claim7.holds Tryz.pinned (.plain (OpenSpec.ofChange sheetBooksSpec)) sheetBooksCard

/-- THE TIED CARD OF 'kreisellaw11.SheetJudges'. -/
def sheetJudgesCard : Claim7 := { stood := { row := sheetJudgesRow, standIns := [], harness := (true, "08e62e1f8eb028e1e1d3a049e5f4a4664c41f90bc4c38ea438b2c71eeb47654f"), looks := true }, kinds := [], alts := [], laidByText := true, laidKinds := [.data, .data, .data, .data, .sentinel, .sentinel, .funcs, .pinned], laidTests := true, laidLooks := .later }
def SheetJudgesCardSaid : Prop := Claim7.holds Tryz.pinned (.plain (OpenSpec.ofChange sheetJudgesSpec)) sheetJudgesCard

/-- THE SECOND FORM's CARD OF 'kreisellaw11.SheetBooks'. -/
def sheetBooksUptoCard : Claim7 := { stood := { row := sheetBooksUptoRow, standIns := [], harness := (true, "08e62e1f8eb028e1e1d3a049e5f4a4664c41f90bc4c38ea438b2c71eeb47654f"), looks := true }, kinds := [], alts := [], laidByText := true, laidKinds := [.data, .data, .data, .data, .sentinel, .sentinel, .funcs, .pinned], laidTests := true, laidLooks := .later }
def SheetBooksUptoCardSaid : Prop := Claim7.holds Tryz.pinned (.plain (OpenSpec.upto sheetBooksSpec)) sheetBooksUptoCard

/-- THE SECOND FORM's CARD OF 'kreisellaw11.SheetJudges'. -/
def sheetJudgesUptoCard : Claim7 := { stood := { row := sheetJudgesUptoRow, standIns := [], harness := (true, "08e62e1f8eb028e1e1d3a049e5f4a4664c41f90bc4c38ea438b2c71eeb47654f"), looks := true }, kinds := [], alts := [], laidByText := true, laidKinds := [.data, .data, .data, .data, .sentinel, .sentinel, .funcs, .pinned], laidTests := true, laidLooks := .later }
def SheetJudgesUptoCardSaid : Prop := Claim7.holds Tryz.pinned (.plain (OpenSpec.upto sheetJudgesSpec)) sheetJudgesUptoCard
end Rows
end Go.Proofs.YtcickafaomfbmaaGreatDoor
