/-
  DERIVED. GIVEN WITH THE SEED: THE CARDS: each row of YtiidkbjckbkjgaaGreatDoorRows.lean that lists a variable, with what it lists TIED to the program's text (the seventh form; the later family's looks); each row that meets fmt, with fmt's text TOLD by the authors' own Lean function (tested against real Go, not proved from fmt's source: count such statements apart). THE CARD IS WHAT COUNTS. Prove the row's statement (the work); the ties are given (YtiidkbjckbkjgaaGreatDoorTie.lean); close each card by the builder's one call (the guide's Derived/Test/ToyasCard.lean, 'card_holds'). Laid BY PROGRAM, IN A SANDBOX (cutbox-door.mjs). By AI agents, Wed Nov 11 2026. No macro, syntax, notation, axiom, sorry.
-/
import Derived.Test.YtiidkbjckbkjgaaGreatDoorRows
import GoSem.ClaimSeven
namespace Go.Proofs.YtiidkbjckbkjgaaGreatDoor
namespace Rows

/-- THE TIED CARD OF 'kreisellaw11.SheetTexts'. -/
def sheetTextsCard : Claim7 := { stood := { row := sheetTextsRow, standIns := [], harness := (true, "e6cb2bff4b64a893474575c8ce85c1c4cc42e8208478353504d0d959b58c226b"), looks := true }, kinds := [], alts := [], laidByText := true, laidKinds := [.data, .data, .data, .data, .sentinel, .sentinel, .data, .data, .pinned], laidTests := true, laidLooks := .later }
def SheetTextsCardSaid : Prop := Claim7.holds Tryz.pinned (.plain (OpenSpec.ofChange sheetTextsSpec)) sheetTextsCard

/-- THE TIED CARD OF 'kreisellaw11.SheetWritten'. -/
def sheetWrittenCard : Claim7 := { stood := { row := sheetWrittenRow, standIns := [], harness := (true, "e6cb2bff4b64a893474575c8ce85c1c4cc42e8208478353504d0d959b58c226b"), looks := true }, kinds := [], alts := [], laidByText := true, laidKinds := [.data, .data, .data, .data, .sentinel, .sentinel, .data, .pinned], laidTests := true, laidLooks := .later }
def SheetWrittenCardSaid : Prop := Claim7.holds Tryz.pinned (.plain (OpenSpec.ofChange sheetWrittenSpec)) sheetWrittenCard

/-- THE SECOND FORM's CARD OF 'kreisellaw11.SheetTexts'. -/
def sheetTextsUptoCard : Claim7 := { stood := { row := sheetTextsUptoRow, standIns := [], harness := (true, "e6cb2bff4b64a893474575c8ce85c1c4cc42e8208478353504d0d959b58c226b"), looks := true }, kinds := [], alts := [], laidByText := true, laidKinds := [.data, .data, .data, .data, .sentinel, .sentinel, .data, .data, .pinned], laidTests := true, laidLooks := .later }
def SheetTextsUptoCardSaid : Prop := Claim7.holds Tryz.pinned (.plain (OpenSpec.upto sheetTextsSpec)) sheetTextsUptoCard

/-- THE SECOND FORM's CARD OF 'kreisellaw11.SheetWritten'. -/
def sheetWrittenUptoCard : Claim7 := { stood := { row := sheetWrittenUptoRow, standIns := [], harness := (true, "e6cb2bff4b64a893474575c8ce85c1c4cc42e8208478353504d0d959b58c226b"), looks := true }, kinds := [], alts := [], laidByText := true, laidKinds := [.data, .data, .data, .data, .sentinel, .sentinel, .data, .pinned], laidTests := true, laidLooks := .later }
def SheetWrittenUptoCardSaid : Prop := Claim7.holds Tryz.pinned (.plain (OpenSpec.upto sheetWrittenSpec)) sheetWrittenUptoCard
end Rows
end Go.Proofs.YtiidkbjckbkjgaaGreatDoor
