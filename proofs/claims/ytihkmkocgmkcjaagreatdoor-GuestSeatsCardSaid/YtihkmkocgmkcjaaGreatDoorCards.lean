/-
  DERIVED. GIVEN WITH THE SEED: THE CARDS: each row of YtihkmkocgmkcjaaGreatDoorRows.lean that lists a variable, with what it lists TIED to the program's text (the seventh form; the later family's looks); each row that meets fmt, with fmt's text TOLD by the authors' own Lean function (tested against real Go, not proved from fmt's source: count such statements apart). THE CARD IS WHAT COUNTS. Prove the row's statement (the work); the ties are given (YtihkmkocgmkcjaaGreatDoorTie.lean); close each card by the builder's one call (the guide's Derived/Test/ToyasCard.lean, 'card_holds'). Laid BY PROGRAM, IN A SANDBOX (cutbox-door.mjs). By AI agents, Wed Nov 11 2026. No macro, syntax, notation, axiom, sorry.
-/
import Derived.Test.YtihkmkocgmkcjaaGreatDoorRows
import GoSem.ClaimSeven
namespace Go.Proofs.YtihkmkocgmkcjaaGreatDoor
namespace Rows

/-- THE TIED CARD OF 'kreisellaw11.SheetKept'. -/
def sheetKeptCard : Claim7 := { stood := { row := sheetKeptRow, standIns := [], harness := (true, "ca1127d44fc193f123370fe3bfc2c3f214716263ea074b12ebb9fcfafae175fe"), looks := false }, kinds := [], alts := [], laidByText := true, laidKinds := [.funcs, .funcs], laidTests := true, laidLooks := .later }
def SheetKeptCardSaid : Prop := Claim7.holds Tryz.pinned (.plain (OpenSpec.ofChange sheetKeptSpec)) sheetKeptCard

/-- THE TIED CARD OF 'kreisellaw10.GuestSeats'. -/
def guestSeatsCard : Claim7 := { stood := { row := guestSeatsRow, standIns := [], harness := (true, "ca1127d44fc193f123370fe3bfc2c3f214716263ea074b12ebb9fcfafae175fe"), looks := false }, kinds := [], alts := [], laidByText := true, laidKinds := [.funcs], laidTests := true, laidLooks := .later }
def GuestSeatsCardSaid : Prop := Claim7.holds Tryz.pinned (.plain (OpenSpec.ofChange guestSeatsSpec)) guestSeatsCard

/-- THE SECOND FORM's CARD OF 'kreisellaw11.SheetKept'. -/
def sheetKeptUptoCard : Claim7 := { stood := { row := sheetKeptUptoRow, standIns := [], harness := (true, "ca1127d44fc193f123370fe3bfc2c3f214716263ea074b12ebb9fcfafae175fe"), looks := false }, kinds := [], alts := [], laidByText := true, laidKinds := [.funcs, .funcs], laidTests := true, laidLooks := .later }
def SheetKeptUptoCardSaid : Prop := Claim7.holds Tryz.pinned (.plain (OpenSpec.upto sheetKeptSpec)) sheetKeptUptoCard

/-- THE SECOND FORM's CARD OF 'kreisellaw10.GuestSeats'. -/
def guestSeatsUptoCard : Claim7 := { stood := { row := guestSeatsUptoRow, standIns := [], harness := (true, "ca1127d44fc193f123370fe3bfc2c3f214716263ea074b12ebb9fcfafae175fe"), looks := false }, kinds := [], alts := [], laidByText := true, laidKinds := [.funcs], laidTests := true, laidLooks := .later }
def GuestSeatsUptoCardSaid : Prop := Claim7.holds Tryz.pinned (.plain (OpenSpec.upto guestSeatsSpec)) guestSeatsUptoCard
end Rows
end Go.Proofs.YtihkmkocgmkcjaaGreatDoor
