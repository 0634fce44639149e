/-
  DERIVED. GIVEN WITH THE SEED: THE CARDS: each row of YtbmackjoiopaiaaGreatDoorRows.lean that lists a variable, with what it lists TIED to the program's text (the seventh form; the later family's looks); each row that meets fmt, with fmt's text TOLD by the authors' own Lean function (tested against real Go, not proved from fmt's source: count such statements apart). THE CARD IS WHAT COUNTS. Prove the row's statement (the work); the ties are given (YtbmackjoiopaiaaGreatDoorTie.lean); close each card by the builder's one call (the guide's Derived/Test/ToyasCard.lean, 'card_holds'). Laid BY PROGRAM, IN A SANDBOX (cutbox-door.mjs). By AI agents, Wed Nov 11 2026. No macro, syntax, notation, axiom, sorry.
-/
import Derived.Test.YtbmackjoiopaiaaGreatDoorRows
import GoSem.ClaimSeven
namespace Go.Proofs.YtbmackjoiopaiaaGreatDoor
namespace Rows

/-- THE TIED CARD OF 'kreisellaw10.GuestCounts'. -/
def guestCountsCard : Claim7 := { stood := { row := guestCountsRow, standIns := [], harness := (true, "e5967d0af0fa338291281a8fa05606cc75af7bf3397c2cc4e6611f8cec5f20b5"), looks := false }, kinds := [], alts := [], laidByText := true, laidKinds := [.funcs], laidTests := true, laidLooks := .later }
def GuestCountsCardSaid : Prop := Claim7.holds Tryz.pinned (.plain (OpenSpec.ofChange guestCountsSpec)) guestCountsCard

/-- THE TIED CARD OF 'kreisellaw11.SheetKept'. -/
def sheetKeptCard : Claim7 := { stood := { row := sheetKeptRow, standIns := [], harness := (true, "e5967d0af0fa338291281a8fa05606cc75af7bf3397c2cc4e6611f8cec5f20b5"), looks := false }, kinds := [], alts := [], laidByText := true, laidKinds := [.funcs, .funcs], laidTests := true, laidLooks := .later }
def SheetKeptCardSaid : Prop := Claim7.holds Tryz.pinned (.plain (OpenSpec.ofChange sheetKeptSpec)) sheetKeptCard

/-- THE TIED CARD OF 'kreisellaw10.GuestSeats'. -/
def guestSeatsCard : Claim7 := { stood := { row := guestSeatsRow, standIns := [], harness := (true, "e5967d0af0fa338291281a8fa05606cc75af7bf3397c2cc4e6611f8cec5f20b5"), looks := false }, kinds := [], alts := [], laidByText := true, laidKinds := [.funcs], laidTests := true, laidLooks := .later }
def GuestSeatsCardSaid : Prop := Claim7.holds Tryz.pinned (.plain (OpenSpec.ofChange guestSeatsSpec)) guestSeatsCard

/-- THE SECOND FORM's CARD OF 'kreisellaw10.GuestCounts'. -/
def guestCountsUptoCard : Claim7 := { stood := { row := guestCountsUptoRow, standIns := [], harness := (true, "e5967d0af0fa338291281a8fa05606cc75af7bf3397c2cc4e6611f8cec5f20b5"), looks := false }, kinds := [], alts := [], laidByText := true, laidKinds := [.funcs], laidTests := true, laidLooks := .later }
def GuestCountsUptoCardSaid : Prop := Claim7.holds Tryz.pinned (.plain (OpenSpec.upto guestCountsSpec)) guestCountsUptoCard

/-- THE SECOND FORM's CARD OF 'kreisellaw11.SheetKept'. -/
def sheetKeptUptoCard : Claim7 := { stood := { row := sheetKeptUptoRow, standIns := [], harness := (true, "e5967d0af0fa338291281a8fa05606cc75af7bf3397c2cc4e6611f8cec5f20b5"), looks := false }, kinds := [], alts := [], laidByText := true, laidKinds := [.funcs, .funcs], laidTests := true, laidLooks := .later }
def SheetKeptUptoCardSaid : Prop := Claim7.holds Tryz.pinned (.plain (OpenSpec.upto sheetKeptSpec)) sheetKeptUptoCard

/-- THE SECOND FORM's CARD OF 'kreisellaw10.GuestSeats'. -/
def guestSeatsUptoCard : Claim7 := { stood := { row := guestSeatsUptoRow, standIns := [], harness := (true, "e5967d0af0fa338291281a8fa05606cc75af7bf3397c2cc4e6611f8cec5f20b5"), looks := false }, kinds := [], alts := [], laidByText := true, laidKinds := [.funcs], laidTests := true, laidLooks := .later }
def GuestSeatsUptoCardSaid : Prop := Claim7.holds Tryz.pinned (.plain (OpenSpec.upto guestSeatsSpec)) guestSeatsUptoCard
end Rows
end Go.Proofs.YtbmackjoiopaiaaGreatDoor
