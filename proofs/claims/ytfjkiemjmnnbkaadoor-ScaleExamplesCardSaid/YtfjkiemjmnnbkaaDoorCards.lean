/-
  DERIVED. GIVEN WITH THE SEED: THE CARDS: each row of YtfjkiemjmnnbkaaDoorRows.lean that lists a variable, with what it lists TIED to the program's text (the seventh form; the later family's looks); each row that meets fmt, with fmt's text TOLD by the authors' own Lean function (tested against real Go, not proved from fmt's source: count such statements apart). THE CARD IS WHAT COUNTS. Prove the row's statement (the work); the ties are given (YtfjkiemjmnnbkaaDoorTie.lean); close each card by the builder's one call (the guide's Derived/Test/ToyasCard.lean, 'card_holds'). Laid BY PROGRAM, IN A SANDBOX (cutbox-door.mjs). By AI agents, Wed Nov 11 2026. No macro, syntax, notation, axiom, sorry.
-/
import Derived.Test.YtfjkiemjmnnbkaaDoorRows
import GoSem.ClaimSeven
namespace Go.Proofs.YtfjkiemjmnnbkaaDoor
namespace Rows

/-- THE TIED CARD OF 'kreisellaw04.ScaleExamples'. -/
def scaleExamplesCard : Claim7 := { stood := { row := scaleExamplesRow, standIns := [], harness := (true, "5f54e0fa9e9d5eb48238ede4a9e044f5da8aecec97a688c4af89f4b216fb3844"), looks := false }, kinds := [], alts := [], laidByText := true, laidKinds := [.funcs], laidTests := true, laidLooks := .later }
def ScaleExamplesCardSaid : Prop := Claim7.holds Tryd.pinned (.plain (OpenSpec.ofChange scaleExamplesSpec)) scaleExamplesCard

/-- THE SECOND FORM's CARD OF 'kreisellaw04.ScaleExamples'. -/
def scaleExamplesUptoCard : Claim7 := { stood := { row := scaleExamplesUptoRow, standIns := [], harness := (true, "5f54e0fa9e9d5eb48238ede4a9e044f5da8aecec97a688c4af89f4b216fb3844"), looks := false }, kinds := [], alts := [], laidByText := true, laidKinds := [.funcs], laidTests := true, laidLooks := .later }
def ScaleExamplesUptoCardSaid : Prop := Claim7.holds Tryd.pinned (.plain (OpenSpec.upto scaleExamplesSpec)) scaleExamplesUptoCard
end Rows
end Go.Proofs.YtfjkiemjmnnbkaaDoor
