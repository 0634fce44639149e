/-
  DERIVED. GIVEN WITH THE SEED: THE CARDS: each row of YtilmniopollbiaaGreatDoorRows.lean that lists a variable, with what it lists TIED to the program's text (the seventh form; the later family's looks); each row that meets fmt, with fmt's text TOLD by the authors' own Lean function (tested against real Go, not proved from fmt's source: count such statements apart). THE CARD IS WHAT COUNTS. Prove the row's statement (the work); the ties are given (YtilmniopollbiaaGreatDoorTie.lean); close each card by the builder's one call (the guide's Derived/Test/ToyasCard.lean, 'card_holds'). Laid BY PROGRAM, IN A SANDBOX (cutbox-door.mjs). By AI agents, Wed Nov 11 2026. No macro, syntax, notation, axiom, sorry.
-/
import Derived.Test.YtilmniopollbiaaGreatDoorRows
import GoSem.ClaimSeven
namespace Go.Proofs.YtilmniopollbiaaGreatDoor
namespace Rows

/-- THE TIED CARD OF 'kreisellaw11.SheetKept'. -/
def sheetKeptCard : Claim7 := { stood := { row := sheetKeptRow, standIns := [], harness := (true, "f30441f3ba8af28aa3ab9276055d6632b7b5a01a78628a411c97627502a53d26"), looks := true }, kinds := [], alts := [], laidByText := true, laidKinds := [.funcs, .funcs], laidTests := true, laidLooks := .later }
def SheetKeptCardSaid : Prop := Claim7.holds Tryz.pinned (.plain (OpenSpec.ofChange sheetKeptSpec)) sheetKeptCard

/-- THE TIED CARD OF 'kreisellaw11.SheetTexts'. -/
def sheetTextsCard : Claim7 := { stood := { row := sheetTextsRow, standIns := [], harness := (true, "f30441f3ba8af28aa3ab9276055d6632b7b5a01a78628a411c97627502a53d26"), looks := true }, kinds := [], alts := [], laidByText := true, laidKinds := [.data, .data, .data, .data, .sentinel, .sentinel, .data, .data, .pinned], laidTests := true, laidLooks := .later }
def SheetTextsCardSaid : Prop := Claim7.holds Tryz.pinned (.plain (OpenSpec.ofChange sheetTextsSpec)) sheetTextsCard

/-- THE TIED CARD OF 'kreisellaw11.SheetWritten'. -/
def sheetWrittenCard : Claim7 := { stood := { row := sheetWrittenRow, standIns := [], harness := (true, "f30441f3ba8af28aa3ab9276055d6632b7b5a01a78628a411c97627502a53d26"), looks := true }, kinds := [], alts := [], laidByText := true, laidKinds := [.data, .data, .data, .data, .sentinel, .sentinel, .data, .pinned], laidTests := true, laidLooks := .later }
def SheetWrittenCardSaid : Prop := Claim7.holds Tryz.pinned (.plain (OpenSpec.ofChange sheetWrittenSpec)) sheetWrittenCard

/-- THE TIED CARD OF 'kreisellaw11.SheetChanged'. -/
def sheetChangedCard : Claim7 := { stood := { row := sheetChangedRow, standIns := [], harness := (true, "f30441f3ba8af28aa3ab9276055d6632b7b5a01a78628a411c97627502a53d26"), looks := true }, kinds := [], alts := [], laidByText := true, laidKinds := [.data, .data, .data, .data, .sentinel, .sentinel, .data, .pinned], laidTests := true, laidLooks := .later }
def SheetChangedCardSaid : Prop := Claim7.holds Tryz.pinned (.plain (OpenSpec.ofChange sheetChangedSpec)) sheetChangedCard

/-- THE SECOND FORM's CARD OF 'kreisellaw11.SheetKept'. -/
def sheetKeptUptoCard : Claim7 := { stood := { row := sheetKeptUptoRow, standIns := [], harness := (true, "f30441f3ba8af28aa3ab9276055d6632b7b5a01a78628a411c97627502a53d26"), looks := true }, kinds := [], alts := [], laidByText := true, laidKinds := [.funcs, .funcs], laidTests := true, laidLooks := .later }
def SheetKeptUptoCardSaid : Prop := Claim7.holds Tryz.pinned (.plain (OpenSpec.upto sheetKeptSpec)) sheetKeptUptoCard

/-- THE SECOND FORM's CARD OF 'kreisellaw11.SheetTexts'. -/
def sheetTextsUptoCard : Claim7 := { stood := { row := sheetTextsUptoRow, standIns := [], harness := (true, "f30441f3ba8af28aa3ab9276055d6632b7b5a01a78628a411c97627502a53d26"), looks := true }, kinds := [], alts := [], laidByText := true, laidKinds := [.data, .data, .data, .data, .sentinel, .sentinel, .data, .data, .pinned], laidTests := true, laidLooks := .later }
def SheetTextsUptoCardSaid : Prop := Claim7.holds Tryz.pinned (.plain (OpenSpec.upto sheetTextsSpec)) sheetTextsUptoCard

/-- THE SECOND FORM's CARD OF 'kreisellaw11.SheetWritten'. -/
def sheetWrittenUptoCard : Claim7 := { stood := { row := sheetWrittenUptoRow, standIns := [], harness := (true, "f30441f3ba8af28aa3ab9276055d6632b7b5a01a78628a411c97627502a53d26"), looks := true }, kinds := [], alts := [], laidByText := true, laidKinds := [.data, .data, .data, .data, .sentinel, .sentinel, .data, .pinned], laidTests := true, laidLooks := .later }
def SheetWrittenUptoCardSaid : Prop := Claim7.holds Tryz.pinned (.plain (OpenSpec.upto sheetWrittenSpec)) sheetWrittenUptoCard

/-- THE SECOND FORM's CARD OF 'kreisellaw11.SheetChanged'. -/
def sheetChangedUptoCard : Claim7 := { stood := { row := sheetChangedUptoRow, standIns := [], harness := (true, "f30441f3ba8af28aa3ab9276055d6632b7b5a01a78628a411c97627502a53d26"), looks := true }, kinds := [], alts := [], laidByText := true, laidKinds := [.data, .data, .data, .data, .sentinel, .sentinel, .data, .pinned], laidTests := true, laidLooks := .later }
def SheetChangedUptoCardSaid : Prop := Claim7.holds Tryz.pinned (.plain (OpenSpec.upto sheetChangedSpec)) sheetChangedUptoCard
end Rows
end Go.Proofs.YtilmniopollbiaaGreatDoor
