/-
  DERIVED. GIVEN WITH THE SEED: THE CARDS: each row of YtomcenfikdmmkaaGreatDoorRows.lean that lists a variable, with what it lists TIED to the program's text (the seventh form; the later family's looks); each row that meets fmt, with fmt's text TOLD by the authors' own Lean function (tested against real Go, not proved from fmt's source: count such statements apart). THE CARD IS WHAT COUNTS. Prove the row's statement (the work); the ties are given (YtomcenfikdmmkaaGreatDoorTie.lean); close each card by the builder's one call (the guide's Derived/Test/ToyasCard.lean, 'card_holds'). Laid BY PROGRAM, IN A SANDBOX (cutbox-door.mjs). By AI agents, Wed Nov 11 2026. No macro, syntax, notation, axiom, sorry.
-/
import Derived.Test.YtomcenfikdmmkaaGreatDoorRows
import GoSem.ClaimSeven
namespace Go.Proofs.YtomcenfikdmmkaaGreatDoor
namespace Rows

/-- THE TIED CARD OF 'kreisellaw04.ScaleJudges'. -/
def scaleJudgesCard : Claim7 := { stood := { row := scaleJudgesRow, standIns := [], harness := (true, "0a9f684e07b2ae5ea7d86168e859cf23440f3408a5bf707ff4b8436378d583ff"), looks := false }, kinds := [], alts := [], laidByText := true, laidKinds := [.funcs], laidTests := true, laidLooks := .later }
def ScaleJudgesCardSaid : Prop := Claim7.holds Tryz.pinned (.plain (OpenSpec.ofChange scaleJudgesSpec)) scaleJudgesCard

/-- THE TIED CARD OF 'kreisellaw04.ScaleWhole'. -/
def scaleWholeCard : Claim7 := { stood := { row := scaleWholeRow, standIns := [], harness := (true, "0a9f684e07b2ae5ea7d86168e859cf23440f3408a5bf707ff4b8436378d583ff"), looks := false }, kinds := [], alts := [], laidByText := true, laidKinds := [.funcs], laidTests := true, laidLooks := .later }
def ScaleWholeCardSaid : Prop := Claim7.holds Tryz.pinned (.plain (OpenSpec.ofChange scaleWholeSpec)) scaleWholeCard

/-- THE TIED CARD OF 'kreisellaw04.ScaleBallast'. -/
def scaleBallastCard : Claim7 := { stood := { row := scaleBallastRow, standIns := [], harness := (true, "0a9f684e07b2ae5ea7d86168e859cf23440f3408a5bf707ff4b8436378d583ff"), looks := false }, kinds := [], alts := [], laidByText := true, laidKinds := [.funcs], laidTests := true, laidLooks := .later }
def ScaleBallastCardSaid : Prop := Claim7.holds Tryz.pinned (.plain (OpenSpec.ofChange scaleBallastSpec)) scaleBallastCard

/-- THE SECOND FORM's CARD OF 'kreisellaw04.ScaleJudges'. -/
def scaleJudgesUptoCard : Claim7 := { stood := { row := scaleJudgesUptoRow, standIns := [], harness := (true, "0a9f684e07b2ae5ea7d86168e859cf23440f3408a5bf707ff4b8436378d583ff"), looks := false }, kinds := [], alts := [], laidByText := true, laidKinds := [.funcs], laidTests := true, laidLooks := .later }
def ScaleJudgesUptoCardSaid : Prop := Claim7.holds Tryz.pinned (.plain (OpenSpec.upto scaleJudgesSpec)) scaleJudgesUptoCard

/-- THE SECOND FORM's CARD OF 'kreisellaw04.ScaleWhole'. -/
def scaleWholeUptoCard : Claim7 := { stood := { row := scaleWholeUptoRow, standIns := [], harness := (true, "0a9f684e07b2ae5ea7d86168e859cf23440f3408a5bf707ff4b8436378d583ff"), looks := false }, kinds := [], alts := [], laidByText := true, laidKinds := [.funcs], laidTests := true, laidLooks := .later }
def ScaleWholeUptoCardSaid : Prop := Claim7.holds Tryz.pinned (.plain (OpenSpec.upto scaleWholeSpec)) scaleWholeUptoCard

/-- THE SECOND FORM's CARD OF 'kreisellaw04.ScaleBallast'. -/
def scaleBallastUptoCard : Claim7 := { stood := { row := scaleBallastUptoRow, standIns := [], harness := (true, "0a9f684e07b2ae5ea7d86168e859cf23440f3408a5bf707ff4b8436378d583ff"), looks := false }, kinds := [], alts := [], laidByText := true, laidKinds := [.funcs], laidTests := true, laidLooks := .later }
def ScaleBallastUptoCardSaid : Prop := Claim7.holds Tryz.pinned (.plain (OpenSpec.upto scaleBallastSpec)) scaleBallastUptoCard
end Rows
end Go.Proofs.YtomcenfikdmmkaaGreatDoor
