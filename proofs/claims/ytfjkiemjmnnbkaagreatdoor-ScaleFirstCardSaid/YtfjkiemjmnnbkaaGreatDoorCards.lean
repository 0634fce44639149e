/-
  DERIVED. GIVEN WITH THE SEED: THE CARDS: each row of YtfjkiemjmnnbkaaGreatDoorRows.lean that lists a variable, with what it lists TIED to the program's text (the seventh form; the later family's looks); each row that meets fmt, with fmt's text TOLD by the authors' own Lean function (tested against real Go, not proved from fmt's source: count such statements apart). THE CARD IS WHAT COUNTS. Prove the row's statement (the work); the ties are given (YtfjkiemjmnnbkaaGreatDoorTie.lean); close each card by the builder's one call (the guide's Derived/Test/ToyasCard.lean, 'card_holds'). Laid BY PROGRAM, IN A SANDBOX (cutbox-door.mjs). By AI agents, Wed Nov 11 2026. No macro, syntax, notation, axiom, sorry.
-/
import Derived.Test.YtfjkiemjmnnbkaaGreatDoorRows
import GoSem.ClaimSeven
namespace Go.Proofs.YtfjkiemjmnnbkaaGreatDoor
namespace Rows

/-- THE TIED CARD OF 'kreisellaw10.GuestCounts'. -/
def guestCountsCard : Claim7 := { stood := { row := guestCountsRow, standIns := [], harness := (true, "3ae73eb5e65e89a3c406ec90264b2a15e0f1a837b465bdb321e17889eb725dab"), looks := false }, kinds := [], alts := [], laidByText := true, laidKinds := [.funcs], laidTests := true, laidLooks := .later }
def GuestCountsCardSaid : Prop := Claim7.holds Tryz.pinned (.plain (OpenSpec.ofChange guestCountsSpec)) guestCountsCard

/-- THE TIED CARD OF 'kreisellaw04.ScaleTrue'. -/
def scaleTrueCard : Claim7 := { stood := { row := scaleTrueRow, standIns := [], harness := (true, "3ae73eb5e65e89a3c406ec90264b2a15e0f1a837b465bdb321e17889eb725dab"), looks := false }, kinds := [], alts := [], laidByText := true, laidKinds := [.funcs], laidTests := true, laidLooks := .later }
def ScaleTrueCardSaid : Prop := Claim7.holds Tryz.pinned (.plain (OpenSpec.ofChange scaleTrueSpec)) scaleTrueCard

/-- THE TIED CARD OF 'kreisellaw04.ScaleAgain'. -/
def scaleAgainCard : Claim7 := { stood := { row := scaleAgainRow, standIns := [], harness := (true, "3ae73eb5e65e89a3c406ec90264b2a15e0f1a837b465bdb321e17889eb725dab"), looks := false }, kinds := [], alts := [], laidByText := true, laidKinds := [.funcs], laidTests := true, laidLooks := .later }
def ScaleAgainCardSaid : Prop := Claim7.holds Tryz.pinned (.plain (OpenSpec.ofChange scaleAgainSpec)) scaleAgainCard

/-- THE TIED CARD OF 'kreisellaw04.ScaleTuned'. -/
def scaleTunedCard : Claim7 := { stood := { row := scaleTunedRow, standIns := [], harness := (true, "3ae73eb5e65e89a3c406ec90264b2a15e0f1a837b465bdb321e17889eb725dab"), looks := false }, kinds := [], alts := [], laidByText := true, laidKinds := [.funcs], laidTests := true, laidLooks := .later }
def ScaleTunedCardSaid : Prop := Claim7.holds Tryz.pinned (.plain (OpenSpec.ofChange scaleTunedSpec)) scaleTunedCard

/-- THE TIED CARD OF 'kreisellaw04.ScaleFirst'. -/
def scaleFirstCard : Claim7 := { stood := { row := scaleFirstRow, standIns := [], harness := (true, "3ae73eb5e65e89a3c406ec90264b2a15e0f1a837b465bdb321e17889eb725dab"), looks := false }, kinds := [], alts := [], laidByText := true, laidKinds := [.funcs], laidTests := true, laidLooks := .later }
def ScaleFirstCardSaid : Prop := Claim7.holds Tryz.pinned (.plain (OpenSpec.ofChange scaleFirstSpec)) scaleFirstCard

/-- THE TIED CARD OF 'kreisellaw04.ScaleTrials'. -/
def scaleTrialsCard : Claim7 := { stood := { row := scaleTrialsRow, standIns := [], harness := (true, "3ae73eb5e65e89a3c406ec90264b2a15e0f1a837b465bdb321e17889eb725dab"), looks := false }, kinds := [], alts := [], laidByText := true, laidKinds := [.funcs], laidTests := true, laidLooks := .later }
def ScaleTrialsCardSaid : Prop := Claim7.holds Tryz.pinned (.plain (OpenSpec.ofChange scaleTrialsSpec)) scaleTrialsCard

/-- THE TIED CARD OF 'kreisellaw04.ScaleWider'. -/
def scaleWiderCard : Claim7 := { stood := { row := scaleWiderRow, standIns := [], harness := (true, "3ae73eb5e65e89a3c406ec90264b2a15e0f1a837b465bdb321e17889eb725dab"), looks := false }, kinds := [], alts := [], laidByText := true, laidKinds := [.funcs], laidTests := true, laidLooks := .later }
def ScaleWiderCardSaid : Prop := Claim7.holds Tryz.pinned (.plain (OpenSpec.ofChange scaleWiderSpec)) scaleWiderCard

/-- THE TIED CARD OF 'kreisellaw04.ScaleTurned'. -/
def scaleTurnedCard : Claim7 := { stood := { row := scaleTurnedRow, standIns := [], harness := (true, "3ae73eb5e65e89a3c406ec90264b2a15e0f1a837b465bdb321e17889eb725dab"), looks := false }, kinds := [], alts := [], laidByText := true, laidKinds := [.funcs], laidTests := true, laidLooks := .later }
def ScaleTurnedCardSaid : Prop := Claim7.holds Tryz.pinned (.plain (OpenSpec.ofChange scaleTurnedSpec)) scaleTurnedCard

/-- THE TIED CARD OF 'kreisellaw04.ScaleApart'. -/
def scaleApartCard : Claim7 := { stood := { row := scaleApartRow, standIns := [], harness := (true, "3ae73eb5e65e89a3c406ec90264b2a15e0f1a837b465bdb321e17889eb725dab"), looks := false }, kinds := [], alts := [], laidByText := true, laidKinds := [.funcs], laidTests := true, laidLooks := .later }
def ScaleApartCardSaid : Prop := Claim7.holds Tryz.pinned (.plain (OpenSpec.ofChange scaleApartSpec)) scaleApartCard

/-- THE TIED CARD OF 'kreisellaw04.ScaleWhole'. -/
def scaleWholeCard : Claim7 := { stood := { row := scaleWholeRow, standIns := [], harness := (true, "3ae73eb5e65e89a3c406ec90264b2a15e0f1a837b465bdb321e17889eb725dab"), looks := false }, kinds := [], alts := [], laidByText := true, laidKinds := [.funcs], laidTests := true, laidLooks := .later }
def ScaleWholeCardSaid : Prop := Claim7.holds Tryz.pinned (.plain (OpenSpec.ofChange scaleWholeSpec)) scaleWholeCard

/-- THE TIED CARD OF 'kreisellaw04.ScaleBallast'. -/
def scaleBallastCard : Claim7 := { stood := { row := scaleBallastRow, standIns := [], harness := (true, "3ae73eb5e65e89a3c406ec90264b2a15e0f1a837b465bdb321e17889eb725dab"), looks := false }, kinds := [], alts := [], laidByText := true, laidKinds := [.funcs], laidTests := true, laidLooks := .later }
def ScaleBallastCardSaid : Prop := Claim7.holds Tryz.pinned (.plain (OpenSpec.ofChange scaleBallastSpec)) scaleBallastCard

/-- THE SECOND FORM's CARD OF 'kreisellaw10.GuestCounts'. -/
def guestCountsUptoCard : Claim7 := { stood := { row := guestCountsUptoRow, standIns := [], harness := (true, "3ae73eb5e65e89a3c406ec90264b2a15e0f1a837b465bdb321e17889eb725dab"), looks := false }, kinds := [], alts := [], laidByText := true, laidKinds := [.funcs], laidTests := true, laidLooks := .later }
def GuestCountsUptoCardSaid : Prop := Claim7.holds Tryz.pinned (.plain (OpenSpec.upto guestCountsSpec)) guestCountsUptoCard

/-- THE SECOND FORM's CARD OF 'kreisellaw04.ScaleTrue'. -/
def scaleTrueUptoCard : Claim7 := { stood := { row := scaleTrueUptoRow, standIns := [], harness := (true, "3ae73eb5e65e89a3c406ec90264b2a15e0f1a837b465bdb321e17889eb725dab"), looks := false }, kinds := [], alts := [], laidByText := true, laidKinds := [.funcs], laidTests := true, laidLooks := .later }
def ScaleTrueUptoCardSaid : Prop := Claim7.holds Tryz.pinned (.plain (OpenSpec.upto scaleTrueSpec)) scaleTrueUptoCard

/-- THE SECOND FORM's CARD OF 'kreisellaw04.ScaleAgain'. -/
def scaleAgainUptoCard : Claim7 := { stood := { row := scaleAgainUptoRow, standIns := [], harness := (true, "3ae73eb5e65e89a3c406ec90264b2a15e0f1a837b465bdb321e17889eb725dab"), looks := false }, kinds := [], alts := [], laidByText := true, laidKinds := [.funcs], laidTests := true, laidLooks := .later }
def ScaleAgainUptoCardSaid : Prop := Claim7.holds Tryz.pinned (.plain (OpenSpec.upto scaleAgainSpec)) scaleAgainUptoCard

/-- THE SECOND FORM's CARD OF 'kreisellaw04.ScaleTuned'. -/
def scaleTunedUptoCard : Claim7 := { stood := { row := scaleTunedUptoRow, standIns := [], harness := (true, "3ae73eb5e65e89a3c406ec90264b2a15e0f1a837b465bdb321e17889eb725dab"), looks := false }, kinds := [], alts := [], laidByText := true, laidKinds := [.funcs], laidTests := true, laidLooks := .later }
def ScaleTunedUptoCardSaid : Prop := Claim7.holds Tryz.pinned (.plain (OpenSpec.upto scaleTunedSpec)) scaleTunedUptoCard

/-- THE SECOND FORM's CARD OF 'kreisellaw04.ScaleFirst'. -/
def scaleFirstUptoCard : Claim7 := { stood := { row := scaleFirstUptoRow, standIns := [], harness := (true, "3ae73eb5e65e89a3c406ec90264b2a15e0f1a837b465bdb321e17889eb725dab"), looks := false }, kinds := [], alts := [], laidByText := true, laidKinds := [.funcs], laidTests := true, laidLooks := .later }
def ScaleFirstUptoCardSaid : Prop := Claim7.holds Tryz.pinned (.plain (OpenSpec.upto scaleFirstSpec)) scaleFirstUptoCard

/-- THE SECOND FORM's CARD OF 'kreisellaw04.ScaleTrials'. -/
def scaleTrialsUptoCard : Claim7 := { stood := { row := scaleTrialsUptoRow, standIns := [], harness := (true, "3ae73eb5e65e89a3c406ec90264b2a15e0f1a837b465bdb321e17889eb725dab"), looks := false }, kinds := [], alts := [], laidByText := true, laidKinds := [.funcs], laidTests := true, laidLooks := .later }
def ScaleTrialsUptoCardSaid : Prop := Claim7.holds Tryz.pinned (.plain (OpenSpec.upto scaleTrialsSpec)) scaleTrialsUptoCard

/-- THE SECOND FORM's CARD OF 'kreisellaw04.ScaleWider'. -/
def scaleWiderUptoCard : Claim7 := { stood := { row := scaleWiderUptoRow, standIns := [], harness := (true, "3ae73eb5e65e89a3c406ec90264b2a15e0f1a837b465bdb321e17889eb725dab"), looks := false }, kinds := [], alts := [], laidByText := true, laidKinds := [.funcs], laidTests := true, laidLooks := .later }
def ScaleWiderUptoCardSaid : Prop := Claim7.holds Tryz.pinned (.plain (OpenSpec.upto scaleWiderSpec)) scaleWiderUptoCard

/-- THE SECOND FORM's CARD OF 'kreisellaw04.ScaleTurned'. -/
def scaleTurnedUptoCard : Claim7 := { stood := { row := scaleTurnedUptoRow, standIns := [], harness := (true, "3ae73eb5e65e89a3c406ec90264b2a15e0f1a837b465bdb321e17889eb725dab"), looks := false }, kinds := [], alts := [], laidByText := true, laidKinds := [.funcs], laidTests := true, laidLooks := .later }
def ScaleTurnedUptoCardSaid : Prop := Claim7.holds Tryz.pinned (.plain (OpenSpec.upto scaleTurnedSpec)) scaleTurnedUptoCard

/-- THE SECOND FORM's CARD OF 'kreisellaw04.ScaleApart'. -/
def scaleApartUptoCard : Claim7 := { stood := { row := scaleApartUptoRow, standIns := [], harness := (true, "3ae73eb5e65e89a3c406ec90264b2a15e0f1a837b465bdb321e17889eb725dab"), looks := false }, kinds := [], alts := [], laidByText := true, laidKinds := [.funcs], laidTests := true, laidLooks := .later }
def ScaleApartUptoCardSaid : Prop := Claim7.holds Tryz.pinned (.plain (OpenSpec.upto scaleApartSpec)) scaleApartUptoCard

/-- THE SECOND FORM's CARD OF 'kreisellaw04.ScaleWhole'. -/
def scaleWholeUptoCard : Claim7 := { stood := { row := scaleWholeUptoRow, standIns := [], harness := (true, "3ae73eb5e65e89a3c406ec90264b2a15e0f1a837b465bdb321e17889eb725dab"), looks := false }, kinds := [], alts := [], laidByText := true, laidKinds := [.funcs], laidTests := true, laidLooks := .later }
def ScaleWholeUptoCardSaid : Prop := Claim7.holds Tryz.pinned (.plain (OpenSpec.upto scaleWholeSpec)) scaleWholeUptoCard

/-- THE SECOND FORM's CARD OF 'kreisellaw04.ScaleBallast'. -/
def scaleBallastUptoCard : Claim7 := { stood := { row := scaleBallastUptoRow, standIns := [], harness := (true, "3ae73eb5e65e89a3c406ec90264b2a15e0f1a837b465bdb321e17889eb725dab"), looks := false }, kinds := [], alts := [], laidByText := true, laidKinds := [.funcs], laidTests := true, laidLooks := .later }
def ScaleBallastUptoCardSaid : Prop := Claim7.holds Tryz.pinned (.plain (OpenSpec.upto scaleBallastSpec)) scaleBallastUptoCard
end Rows
end Go.Proofs.YtfjkiemjmnnbkaaGreatDoor
