/-
  DERIVED. GIVEN WITH THE SEED: THE CARDS: each row of YtkgchngaganokaaGreatDoorRows.lean that lists a variable, with what it lists TIED to the program's text (the seventh form; the later family's looks); each row that meets fmt, with fmt's text TOLD by the authors' own Lean function (tested against real Go, not proved from fmt's source: count such statements apart). THE CARD IS WHAT COUNTS. Prove the row's statement (the work); the ties are given (YtkgchngaganokaaGreatDoorTie.lean); close each card by the builder's one call (the guide's Derived/Test/ToyasCard.lean, 'card_holds'). Laid BY PROGRAM, IN A SANDBOX (cutbox-door.mjs). By AI agents, Wed Nov 11 2026. No macro, syntax, notation, axiom, sorry.
-/
import Derived.Test.YtkgchngaganokaaGreatDoorRows
import GoSem.ClaimSeven
namespace Go.Proofs.YtkgchngaganokaaGreatDoor
namespace Rows

/-- THE TIED CARD OF 'kreisellaw11.SheetChanged'. -/
def sheetChangedCard : Claim7 := { stood := { row := sheetChangedRow, standIns := [], harness := (true, "207dca6777e806fa744f96886d683f1054f5617e962a1af9996214879bba6d26"), looks := true }, kinds := [], alts := [], laidByText := true, laidKinds := [.data, .data, .data, .data, .sentinel, .sentinel, .data, .pinned], laidTests := true, laidLooks := .later }
def SheetChangedCardSaid : Prop := Claim7.holds Tryz.pinned (.plain (OpenSpec.ofChange sheetChangedSpec)) sheetChangedCard

/-- THE TIED CARD OF 'kreisellaw11.SheetSwapped'. -/
def sheetSwappedCard : Claim7 := { stood := { row := sheetSwappedRow, standIns := [], harness := (true, "207dca6777e806fa744f96886d683f1054f5617e962a1af9996214879bba6d26"), looks := true }, kinds := [], alts := [], laidByText := true, laidKinds := [.data, .data, .data, .data, .sentinel, .sentinel, .data, .pinned], laidTests := true, laidLooks := .later }
def SheetSwappedCardSaid : Prop := Claim7.holds Tryz.pinned (.plain (OpenSpec.ofChange sheetSwappedSpec)) sheetSwappedCard

/-- THE TIED CARD OF 'kreisellaw11.SheetLost'. -/
def sheetLostCard : Claim7 := { stood := { row := sheetLostRow, standIns := [], harness := (true, "207dca6777e806fa744f96886d683f1054f5617e962a1af9996214879bba6d26"), looks := true }, kinds := [], alts := [], laidByText := true, laidKinds := [.data, .data, .data, .data, .sentinel, .sentinel, .data, .pinned], laidTests := true, laidLooks := .later }
def SheetLostCardSaid : Prop := Claim7.holds Tryz.pinned (.plain (OpenSpec.ofChange sheetLostSpec)) sheetLostCard

/-- THE TIED CARD OF 'kreisellaw11.SheetPut'. -/
def sheetPutCard : Claim7 := { stood := { row := sheetPutRow, standIns := [], harness := (true, "207dca6777e806fa744f96886d683f1054f5617e962a1af9996214879bba6d26"), looks := true }, kinds := [], alts := [], laidByText := true, laidKinds := [.data, .data, .data, .data, .sentinel, .sentinel, .pinned], laidTests := true, laidLooks := .later }
def SheetPutCardSaid : Prop := Claim7.holds Tryz.pinned (.plain (OpenSpec.ofChange sheetPutSpec)) sheetPutCard

/-- THE TIED CARD OF 'kreisellaw11.SheetCut'. -/
def sheetCutCard : Claim7 := { stood := { row := sheetCutRow, standIns := [], harness := (true, "207dca6777e806fa744f96886d683f1054f5617e962a1af9996214879bba6d26"), looks := true }, kinds := [], alts := [], laidByText := true, laidKinds := [.data, .data, .data, .data, .sentinel, .sentinel, .data, .pinned], laidTests := true, laidLooks := .later }
def SheetCutCardSaid : Prop := Claim7.holds Tryz.pinned (.plain (OpenSpec.ofChange sheetCutSpec)) sheetCutCard

/-- THE TIED CARD OF 'kreisellaw11.SheetDiffer'. -/
def sheetDifferCard : Claim7 := { stood := { row := sheetDifferRow, standIns := [], harness := (true, "207dca6777e806fa744f96886d683f1054f5617e962a1af9996214879bba6d26"), looks := true }, kinds := [], alts := [], laidByText := true, laidKinds := [.data, .data, .data, .data, .sentinel, .sentinel, .data, .pinned], laidTests := true, laidLooks := .later }
def SheetDifferCardSaid : Prop := Claim7.holds Tryz.pinned (.plain (OpenSpec.ofChange sheetDifferSpec)) sheetDifferCard

/-- THE SECOND FORM's CARD OF 'kreisellaw11.SheetChanged'. -/
def sheetChangedUptoCard : Claim7 := { stood := { row := sheetChangedUptoRow, standIns := [], harness := (true, "207dca6777e806fa744f96886d683f1054f5617e962a1af9996214879bba6d26"), looks := true }, kinds := [], alts := [], laidByText := true, laidKinds := [.data, .data, .data, .data, .sentinel, .sentinel, .data, .pinned], laidTests := true, laidLooks := .later }
def SheetChangedUptoCardSaid : Prop := Claim7.holds Tryz.pinned (.plain (OpenSpec.upto sheetChangedSpec)) sheetChangedUptoCard

/-- THE SECOND FORM's CARD OF 'kreisellaw11.SheetSwapped'. -/
def sheetSwappedUptoCard : Claim7 := { stood := { row := sheetSwappedUptoRow, standIns := [], harness := (true, "207dca6777e806fa744f96886d683f1054f5617e962a1af9996214879bba6d26"), looks := true }, kinds := [], alts := [], laidByText := true, laidKinds := [.data, .data, .data, .data, .sentinel, .sentinel, .data, .pinned], laidTests := true, laidLooks := .later }
def SheetSwappedUptoCardSaid : Prop := Claim7.holds Tryz.pinned (.plain (OpenSpec.upto sheetSwappedSpec)) sheetSwappedUptoCard

/-- THE SECOND FORM's CARD OF 'kreisellaw11.SheetLost'. -/
def sheetLostUptoCard : Claim7 := { stood := { row := sheetLostUptoRow, standIns := [], harness := (true, "207dca6777e806fa744f96886d683f1054f5617e962a1af9996214879bba6d26"), looks := true }, kinds := [], alts := [], laidByText := true, laidKinds := [.data, .data, .data, .data, .sentinel, .sentinel, .data, .pinned], laidTests := true, laidLooks := .later }
def SheetLostUptoCardSaid : Prop := Claim7.holds Tryz.pinned (.plain (OpenSpec.upto sheetLostSpec)) sheetLostUptoCard

/-- THE SECOND FORM's CARD OF 'kreisellaw11.SheetPut'. -/
def sheetPutUptoCard : Claim7 := { stood := { row := sheetPutUptoRow, standIns := [], harness := (true, "207dca6777e806fa744f96886d683f1054f5617e962a1af9996214879bba6d26"), looks := true }, kinds := [], alts := [], laidByText := true, laidKinds := [.data, .data, .data, .data, .sentinel, .sentinel, .pinned], laidTests := true, laidLooks := .later }
def SheetPutUptoCardSaid : Prop := Claim7.holds Tryz.pinned (.plain (OpenSpec.upto sheetPutSpec)) sheetPutUptoCard

/-- THE SECOND FORM's CARD OF 'kreisellaw11.SheetCut'. -/
def sheetCutUptoCard : Claim7 := { stood := { row := sheetCutUptoRow, standIns := [], harness := (true, "207dca6777e806fa744f96886d683f1054f5617e962a1af9996214879bba6d26"), looks := true }, kinds := [], alts := [], laidByText := true, laidKinds := [.data, .data, .data, .data, .sentinel, .sentinel, .data, .pinned], laidTests := true, laidLooks := .later }
def SheetCutUptoCardSaid : Prop := Claim7.holds Tryz.pinned (.plain (OpenSpec.upto sheetCutSpec)) sheetCutUptoCard

/-- THE SECOND FORM's CARD OF 'kreisellaw11.SheetDiffer'. -/
def sheetDifferUptoCard : Claim7 := { stood := { row := sheetDifferUptoRow, standIns := [], harness := (true, "207dca6777e806fa744f96886d683f1054f5617e962a1af9996214879bba6d26"), looks := true }, kinds := [], alts := [], laidByText := true, laidKinds := [.data, .data, .data, .data, .sentinel, .sentinel, .data, .pinned], laidTests := true, laidLooks := .later }
def SheetDifferUptoCardSaid : Prop := Claim7.holds Tryz.pinned (.plain (OpenSpec.upto sheetDifferSpec)) sheetDifferUptoCard
end Rows
end Go.Proofs.YtkgchngaganokaaGreatDoor
