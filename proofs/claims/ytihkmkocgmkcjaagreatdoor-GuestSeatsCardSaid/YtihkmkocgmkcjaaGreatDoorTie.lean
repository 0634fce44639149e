/-
  DERIVED. GIVEN WITH THE SEED: THE PROGRAM's TIES (one call each: nine closed facts by the kernel) AND EACH ROW's TIE, after the 31st guide's Derived/Test/Toyas{Tie, Card}.lean. No idea stands in it: it is a product of the set-up. Laid BY PROGRAM, IN A SANDBOX (cutbox-door.mjs). By AI agents, Wed Nov 11 2026. No macro, syntax, notation, axiom, sorry.
-/
import Derived.Test.YtihkmkocgmkcjaaGreatDoorRows
import Derived.LaidByTextLater
import Derived.SevenTiedAt
import Derived.LaidSub
import Derived.LaidOnce
namespace Go.Proofs.YtihkmkocgmkcjaaGreatDoor
open Go
set_option maxRecDepth 100000
theorem seatTie1 : Tryz.prog.laidByTextLater [("kreisel/scale.conditions", Rows.laid_kreisel_scale_conditions), ("kreisel/ice.limits", Rows.laid_kreisel_ice_limits)] [.funcs, .funcs] true :=
  Program.laidByTextLater_by_one 26 8 2 (by kernel_rfl) (by kernel_rfl) (by kernel_rfl) (by kernel_rfl) (by kernel_rfl) (by kernel_rfl) (fun _ _ => by kernel_rfl)
theorem noOwnUnsafe : Tryz.pinned.checked.prog.headLifts.contains "ownunsafe" = false := by kernel_rfl
theorem tie : Tryz.prog.laidByTextLater [("kreisel/scale.conditions", Rows.laid_kreisel_scale_conditions), ("kreisel/ice.limits", Rows.laid_kreisel_ice_limits)] [.funcs, .funcs] true :=
  Program.laidByTextLater.sub seatTie1 ["kreisel/scale.conditions", "kreisel/ice.limits"] (by kernel_rfl) (by kernel_rfl)
theorem sheetKept_row_tie : Rows.sheetKeptRow.laidByTextAt .later Tryz.pinned [.funcs, .funcs] true :=
  OpenClaim.laidByTextAt_later rfl rfl tie noOwnUnsafe
theorem tie2 : Tryz.prog.laidByTextLater [("kreisel/scale.conditions", Rows.laid_kreisel_scale_conditions)] [.funcs] true :=
  Program.laidByTextLater.sub seatTie1 ["kreisel/scale.conditions"] (by kernel_rfl) (by kernel_rfl)
theorem guestSeats_row_tie : Rows.guestSeatsRow.laidByTextAt .later Tryz.pinned [.funcs] true :=
  OpenClaim.laidByTextAt_later rfl rfl tie2 noOwnUnsafe
theorem sheetKeptUpto_row_tie : Rows.sheetKeptUptoRow.laidByTextAt .later Tryz.pinned [.funcs, .funcs] true :=
  OpenClaim.laidByTextAt_later rfl rfl tie noOwnUnsafe
theorem guestSeatsUpto_row_tie : Rows.guestSeatsUptoRow.laidByTextAt .later Tryz.pinned [.funcs] true :=
  OpenClaim.laidByTextAt_later rfl rfl tie2 noOwnUnsafe
end Go.Proofs.YtihkmkocgmkcjaaGreatDoor
