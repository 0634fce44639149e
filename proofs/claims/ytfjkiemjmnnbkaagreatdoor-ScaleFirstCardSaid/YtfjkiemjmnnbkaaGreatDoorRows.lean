/-
  NARROWER THAN 'FOR EVERY INPUT', by the rows' own cells (each row's printed sentence says how): GuestCounts: laid · ScaleTrue: laid · ScaleAgain: laid · ScaleTuned: laid · ScaleFirst: laid · ScaleTrials: laid · ScaleWider: laid · ScaleTurned: laid · ScaleApart: laid · ScaleWhole: laid · ScaleBallast: laid.
  DERIVED. THE GIVEN ROWS OF THIS SEAT. 11 by the template 'for every input the law returns true; each argument reads behind the call as it read before'; 0 by the template 'total and deterministic' (their statements: YtfjkiemjmnnbkaaGreatDoorTotals.lean).
  GIVEN WITH THE SEED: the statements are not yours to turn. If you find one false, say at which input.
  Laid BY PROGRAM, IN A SANDBOX (cutbox-rows.mjs): the forced cells as the released guide's own fill.sh prints them over the translation 3e71635b86e40943… (all of the seat's roots in one cut). By AI agents, Wed Nov 11 2026. No macro, syntax, notation, axiom, sorry.
-/
import Derived.Test.YtfjkiemjmnnbkaaGreatDoorChecked
import GoSem.Claim
import GoSem.ClaimJoined
import GoSem.ClaimMapViews
import Derived.JoinedTies
import Derived.KernelRfl
namespace Go.Proofs.YtfjkiemjmnnbkaaGreatDoor
/- THE CELL 'sum', in the pinned program and in every row, IS THE sha256 OF THE DUMP (.gsa) THAT YtfjkiemjmnnbkaaGreatDoorProg.lean LOADS. Nothing in Lean hashes anything: it is a label: what it is worth is what the hold of that sum in a sandbox is worth. -/
noncomputable def Tryz.pinned : Pinned := { name := "ytfjkiemjmnnbkaagreatdoor", sum := "3e71635b86e40943b72c04a767f96229b9e7cdfe3df65f5a26b2ebcb098d3fed", checked := Tryz.checked }
namespace Rows
def none {H : Type} : Left H := { results := [], args := [] }

/- WHAT THE LISTED PACKAGE-LEVEL VARIABLES READ AS WHEN THE CALL BEGINS. Each datum BY PROGRAM (the guide's laid-datum.mjs) off the statement by which the dump's own 'gosem.cut.vars' lays the variable. In a bare row this is a premise. The card (YtfjkiemjmnnbkaaGreatDoorCards.lean) ties it to the program's text. -/
def laid_kreisel_scale_conditions {H : Type} : DataW H := .iface "func table" (.agg [.agg [.iface "func" (.lit (.string [107, 114, 101, 105, 115, 101, 108, 47, 115, 99, 97, 108, 101, 46, 99, 111, 110, 100, 105, 116, 105, 111, 110, 115, 36, 49]))], .agg [.iface "func" (.lit (.string [107, 114, 101, 105, 115, 101, 108, 47, 115, 99, 97, 108, 101, 46, 99, 111, 110, 100, 105, 116, 105, 111, 110, 115, 36, 50]))], .agg [.iface "func" (.lit (.string [107, 114, 101, 105, 115, 101, 108, 47, 115, 99, 97, 108, 101, 46, 99, 111, 110, 100, 105, 116, 105, 111, 110, 115, 36, 51]))], .agg [.iface "func" (.lit (.string [107, 114, 101, 105, 115, 101, 108, 47, 115, 99, 97, 108, 101, 46, 99, 111, 110, 100, 105, 116, 105, 111, 110, 115, 36, 52]))], .agg [.iface "func" (.lit (.string [107, 114, 101, 105, 115, 101, 108, 47, 115, 99, 97, 108, 101, 46, 99, 111, 110, 100, 105, 116, 105, 111, 110, 115, 36, 53]))]])

/-- 'kreisellaw10.GuestCounts': WHATEVER THE INPUT: true; the input reads as it did. -/
def guestCountsSpec : ChangeSpec := { name := "guestCounts", fn := fun _ => fun
  | [d1, d2, d3, d4] => { results := [.lit (.bool true)], args := [d1, d2, d3, d4] }
  | _ => none }
def guestCountsRow : OpenClaim := { program := "ytfjkiemjmnnbkaagreatdoor", sum := "3e71635b86e40943b72c04a767f96229b9e7cdfe3df65f5a26b2ebcb098d3fed", func := "kreisel/kreisellaw10.GuestCounts", spec := "guestCounts", unfollowed := true, recurses := true, named := ["kreisel/scale.conditions"], apart := false, laid := [("kreisel/scale.conditions", laid_kreisel_scale_conditions)] }
def GuestCountsSaid : Prop := guestCountsRow.holds Tryz.pinned (OpenSpec.ofChange guestCountsSpec)

/-- ITS FALSE NEIGHBOUR: 'it returns false'. Refute it at one input. -/
def guestCountsWrong : ChangeSpec := { name := "guestCounts", fn := fun _ => fun
  | [d1, d2, d3, d4] => { results := [.lit (.bool false)], args := [d1, d2, d3, d4] }
  | _ => none }
def GuestCountsWrongFalsely : Prop := guestCountsRow.holds Tryz.pinned (OpenSpec.ofChange guestCountsWrong)

/-- 'kreisellaw04.ScaleTrue': WHATEVER THE INPUT: true; the input reads as it did. -/
def scaleTrueSpec : ChangeSpec := { name := "scaleTrue", fn := fun _ => fun
  | [d1, d2, d3, d4] => { results := [.lit (.bool true)], args := [d1, d2, d3, d4] }
  | _ => none }
def scaleTrueRow : OpenClaim := { program := "ytfjkiemjmnnbkaagreatdoor", sum := "3e71635b86e40943b72c04a767f96229b9e7cdfe3df65f5a26b2ebcb098d3fed", func := "kreisel/kreisellaw04.ScaleTrue", spec := "scaleTrue", unfollowed := true, recurses := true, named := ["kreisel/scale.conditions"], apart := false, laid := [("kreisel/scale.conditions", laid_kreisel_scale_conditions)] }
def ScaleTrueSaid : Prop := scaleTrueRow.holds Tryz.pinned (OpenSpec.ofChange scaleTrueSpec)

/-- ITS FALSE NEIGHBOUR: 'it returns false'. Refute it at one input. -/
def scaleTrueWrong : ChangeSpec := { name := "scaleTrue", fn := fun _ => fun
  | [d1, d2, d3, d4] => { results := [.lit (.bool false)], args := [d1, d2, d3, d4] }
  | _ => none }
def ScaleTrueWrongFalsely : Prop := scaleTrueRow.holds Tryz.pinned (OpenSpec.ofChange scaleTrueWrong)

/-- 'kreisellaw04.ScaleAgain': WHATEVER THE INPUT: true; the input reads as it did. -/
def scaleAgainSpec : ChangeSpec := { name := "scaleAgain", fn := fun _ => fun
  | [d1, d2, d3, d4] => { results := [.lit (.bool true)], args := [d1, d2, d3, d4] }
  | _ => none }
def scaleAgainRow : OpenClaim := { program := "ytfjkiemjmnnbkaagreatdoor", sum := "3e71635b86e40943b72c04a767f96229b9e7cdfe3df65f5a26b2ebcb098d3fed", func := "kreisel/kreisellaw04.ScaleAgain", spec := "scaleAgain", unfollowed := true, recurses := true, named := ["kreisel/scale.conditions"], apart := false, laid := [("kreisel/scale.conditions", laid_kreisel_scale_conditions)] }
def ScaleAgainSaid : Prop := scaleAgainRow.holds Tryz.pinned (OpenSpec.ofChange scaleAgainSpec)

/-- ITS FALSE NEIGHBOUR: 'it returns false'. Refute it at one input. -/
def scaleAgainWrong : ChangeSpec := { name := "scaleAgain", fn := fun _ => fun
  | [d1, d2, d3, d4] => { results := [.lit (.bool false)], args := [d1, d2, d3, d4] }
  | _ => none }
def ScaleAgainWrongFalsely : Prop := scaleAgainRow.holds Tryz.pinned (OpenSpec.ofChange scaleAgainWrong)

/-- 'kreisellaw04.ScaleTuned': WHATEVER THE INPUT: true; the input reads as it did. -/
def scaleTunedSpec : ChangeSpec := { name := "scaleTuned", fn := fun _ => fun
  | [d1, d2, d3, d4] => { results := [.lit (.bool true)], args := [d1, d2, d3, d4] }
  | _ => none }
def scaleTunedRow : OpenClaim := { program := "ytfjkiemjmnnbkaagreatdoor", sum := "3e71635b86e40943b72c04a767f96229b9e7cdfe3df65f5a26b2ebcb098d3fed", func := "kreisel/kreisellaw04.ScaleTuned", spec := "scaleTuned", unfollowed := true, recurses := true, named := ["kreisel/scale.conditions"], apart := false, laid := [("kreisel/scale.conditions", laid_kreisel_scale_conditions)] }
def ScaleTunedSaid : Prop := scaleTunedRow.holds Tryz.pinned (OpenSpec.ofChange scaleTunedSpec)

/-- ITS FALSE NEIGHBOUR: 'it returns false'. Refute it at one input. -/
def scaleTunedWrong : ChangeSpec := { name := "scaleTuned", fn := fun _ => fun
  | [d1, d2, d3, d4] => { results := [.lit (.bool false)], args := [d1, d2, d3, d4] }
  | _ => none }
def ScaleTunedWrongFalsely : Prop := scaleTunedRow.holds Tryz.pinned (OpenSpec.ofChange scaleTunedWrong)

/-- 'kreisellaw04.ScaleFirst': WHATEVER THE INPUT: true; the input reads as it did. -/
def scaleFirstSpec : ChangeSpec := { name := "scaleFirst", fn := fun _ => fun
  | [d1, d2, d3] => { results := [.lit (.bool true)], args := [d1, d2, d3] }
  | _ => none }
def scaleFirstRow : OpenClaim := { program := "ytfjkiemjmnnbkaagreatdoor", sum := "3e71635b86e40943b72c04a767f96229b9e7cdfe3df65f5a26b2ebcb098d3fed", func := "kreisel/kreisellaw04.ScaleFirst", spec := "scaleFirst", unfollowed := true, recurses := true, named := ["kreisel/scale.conditions"], apart := false, laid := [("kreisel/scale.conditions", laid_kreisel_scale_conditions)] }
def ScaleFirstSaid : Prop := scaleFirstRow.holds Tryz.pinned (OpenSpec.ofChange scaleFirstSpec)

/-- ITS FALSE NEIGHBOUR: 'it returns false'. Refute it at one input. -/
def scaleFirstWrong : ChangeSpec := { name := "scaleFirst", fn := fun _ => fun
  | [d1, d2, d3] => { results := [.lit (.bool false)], args := [d1, d2, d3] }
  | _ => none }
def ScaleFirstWrongFalsely : Prop := scaleFirstRow.holds Tryz.pinned (OpenSpec.ofChange scaleFirstWrong)

/-- 'kreisellaw04.ScaleTrials': WHATEVER THE INPUT: true; the input reads as it did. -/
def scaleTrialsSpec : ChangeSpec := { name := "scaleTrials", fn := fun _ => fun
  | [d1, d2, d3, d4, d5] => { results := [.lit (.bool true)], args := [d1, d2, d3, d4, d5] }
  | _ => none }
def scaleTrialsRow : OpenClaim := { program := "ytfjkiemjmnnbkaagreatdoor", sum := "3e71635b86e40943b72c04a767f96229b9e7cdfe3df65f5a26b2ebcb098d3fed", func := "kreisel/kreisellaw04.ScaleTrials", spec := "scaleTrials", unfollowed := true, recurses := true, named := ["kreisel/scale.conditions"], apart := false, laid := [("kreisel/scale.conditions", laid_kreisel_scale_conditions)] }
def ScaleTrialsSaid : Prop := scaleTrialsRow.holds Tryz.pinned (OpenSpec.ofChange scaleTrialsSpec)

/-- ITS FALSE NEIGHBOUR: 'it returns false'. Refute it at one input. -/
def scaleTrialsWrong : ChangeSpec := { name := "scaleTrials", fn := fun _ => fun
  | [d1, d2, d3, d4, d5] => { results := [.lit (.bool false)], args := [d1, d2, d3, d4, d5] }
  | _ => none }
def ScaleTrialsWrongFalsely : Prop := scaleTrialsRow.holds Tryz.pinned (OpenSpec.ofChange scaleTrialsWrong)

/-- 'kreisellaw04.ScaleWider': WHATEVER THE INPUT: true; the input reads as it did. -/
def scaleWiderSpec : ChangeSpec := { name := "scaleWider", fn := fun _ => fun
  | [d1, d2, d3, d4, d5] => { results := [.lit (.bool true)], args := [d1, d2, d3, d4, d5] }
  | _ => none }
def scaleWiderRow : OpenClaim := { program := "ytfjkiemjmnnbkaagreatdoor", sum := "3e71635b86e40943b72c04a767f96229b9e7cdfe3df65f5a26b2ebcb098d3fed", func := "kreisel/kreisellaw04.ScaleWider", spec := "scaleWider", unfollowed := true, recurses := true, named := ["kreisel/scale.conditions"], apart := false, laid := [("kreisel/scale.conditions", laid_kreisel_scale_conditions)] }
def ScaleWiderSaid : Prop := scaleWiderRow.holds Tryz.pinned (OpenSpec.ofChange scaleWiderSpec)

/-- ITS FALSE NEIGHBOUR: 'it returns false'. Refute it at one input. -/
def scaleWiderWrong : ChangeSpec := { name := "scaleWider", fn := fun _ => fun
  | [d1, d2, d3, d4, d5] => { results := [.lit (.bool false)], args := [d1, d2, d3, d4, d5] }
  | _ => none }
def ScaleWiderWrongFalsely : Prop := scaleWiderRow.holds Tryz.pinned (OpenSpec.ofChange scaleWiderWrong)

/-- 'kreisellaw04.ScaleTurned': WHATEVER THE INPUT: true; the input reads as it did. -/
def scaleTurnedSpec : ChangeSpec := { name := "scaleTurned", fn := fun _ => fun
  | [d1, d2, d3, d4, d5] => { results := [.lit (.bool true)], args := [d1, d2, d3, d4, d5] }
  | _ => none }
def scaleTurnedRow : OpenClaim := { program := "ytfjkiemjmnnbkaagreatdoor", sum := "3e71635b86e40943b72c04a767f96229b9e7cdfe3df65f5a26b2ebcb098d3fed", func := "kreisel/kreisellaw04.ScaleTurned", spec := "scaleTurned", unfollowed := true, recurses := true, named := ["kreisel/scale.conditions"], apart := false, laid := [("kreisel/scale.conditions", laid_kreisel_scale_conditions)] }
def ScaleTurnedSaid : Prop := scaleTurnedRow.holds Tryz.pinned (OpenSpec.ofChange scaleTurnedSpec)

/-- ITS FALSE NEIGHBOUR: 'it returns false'. Refute it at one input. -/
def scaleTurnedWrong : ChangeSpec := { name := "scaleTurned", fn := fun _ => fun
  | [d1, d2, d3, d4, d5] => { results := [.lit (.bool false)], args := [d1, d2, d3, d4, d5] }
  | _ => none }
def ScaleTurnedWrongFalsely : Prop := scaleTurnedRow.holds Tryz.pinned (OpenSpec.ofChange scaleTurnedWrong)

/-- 'kreisellaw04.ScaleApart': WHATEVER THE INPUT: true; the input reads as it did. -/
def scaleApartSpec : ChangeSpec := { name := "scaleApart", fn := fun _ => fun
  | [d1, d2, d3, d4] => { results := [.lit (.bool true)], args := [d1, d2, d3, d4] }
  | _ => none }
def scaleApartRow : OpenClaim := { program := "ytfjkiemjmnnbkaagreatdoor", sum := "3e71635b86e40943b72c04a767f96229b9e7cdfe3df65f5a26b2ebcb098d3fed", func := "kreisel/kreisellaw04.ScaleApart", spec := "scaleApart", unfollowed := true, recurses := true, named := ["kreisel/scale.conditions"], apart := false, laid := [("kreisel/scale.conditions", laid_kreisel_scale_conditions)] }
def ScaleApartSaid : Prop := scaleApartRow.holds Tryz.pinned (OpenSpec.ofChange scaleApartSpec)

/-- ITS FALSE NEIGHBOUR: 'it returns false'. Refute it at one input. -/
def scaleApartWrong : ChangeSpec := { name := "scaleApart", fn := fun _ => fun
  | [d1, d2, d3, d4] => { results := [.lit (.bool false)], args := [d1, d2, d3, d4] }
  | _ => none }
def ScaleApartWrongFalsely : Prop := scaleApartRow.holds Tryz.pinned (OpenSpec.ofChange scaleApartWrong)

/-- 'kreisellaw04.ScaleWhole': WHATEVER THE INPUT: true; the input reads as it did. -/
def scaleWholeSpec : ChangeSpec := { name := "scaleWhole", fn := fun _ => fun
  | [d1, d2, d3] => { results := [.lit (.bool true)], args := [d1, d2, d3] }
  | _ => none }
def scaleWholeRow : OpenClaim := { program := "ytfjkiemjmnnbkaagreatdoor", sum := "3e71635b86e40943b72c04a767f96229b9e7cdfe3df65f5a26b2ebcb098d3fed", func := "kreisel/kreisellaw04.ScaleWhole", spec := "scaleWhole", unfollowed := true, recurses := true, named := ["kreisel/scale.conditions"], apart := false, laid := [("kreisel/scale.conditions", laid_kreisel_scale_conditions)] }
def ScaleWholeSaid : Prop := scaleWholeRow.holds Tryz.pinned (OpenSpec.ofChange scaleWholeSpec)

/-- ITS FALSE NEIGHBOUR: 'it returns false'. Refute it at one input. -/
def scaleWholeWrong : ChangeSpec := { name := "scaleWhole", fn := fun _ => fun
  | [d1, d2, d3] => { results := [.lit (.bool false)], args := [d1, d2, d3] }
  | _ => none }
def ScaleWholeWrongFalsely : Prop := scaleWholeRow.holds Tryz.pinned (OpenSpec.ofChange scaleWholeWrong)

/-- 'kreisellaw04.ScaleBallast': WHATEVER THE INPUT: true; the input reads as it did. -/
def scaleBallastSpec : ChangeSpec := { name := "scaleBallast", fn := fun _ => fun
  | [d1, d2, d3, d4, d5] => { results := [.lit (.bool true)], args := [d1, d2, d3, d4, d5] }
  | _ => none }
def scaleBallastRow : OpenClaim := { program := "ytfjkiemjmnnbkaagreatdoor", sum := "3e71635b86e40943b72c04a767f96229b9e7cdfe3df65f5a26b2ebcb098d3fed", func := "kreisel/kreisellaw04.ScaleBallast", spec := "scaleBallast", unfollowed := true, recurses := true, named := ["kreisel/scale.conditions"], apart := false, laid := [("kreisel/scale.conditions", laid_kreisel_scale_conditions)] }
def ScaleBallastSaid : Prop := scaleBallastRow.holds Tryz.pinned (OpenSpec.ofChange scaleBallastSpec)

/-- ITS FALSE NEIGHBOUR: 'it returns false'. Refute it at one input. -/
def scaleBallastWrong : ChangeSpec := { name := "scaleBallast", fn := fun _ => fun
  | [d1, d2, d3, d4, d5] => { results := [.lit (.bool false)], args := [d1, d2, d3, d4, d5] }
  | _ => none }
def ScaleBallastWrongFalsely : Prop := scaleBallastRow.holds Tryz.pinned (OpenSpec.ofChange scaleBallastWrong)

/- THE SECOND FORM. 'bulk': how many values and letters a reading holds, each counted each time it is reached (what is shared counts as often as it is met; a slice's spare places count too). A statement '..UptoSaid' is the law's where the arguments, and the package variables that the reading takes, are together of bulk at most 1048576: NARROWER than '..Said'. Prove '..Said' where nothing that the law and all that it calls make is longer than what came in: it says more and counts as full. Else prove '..UptoSaid'. A law counts once. -/
mutual
def uptoBulk {H : Type} : DataW H → Nat
  | .lit (.string bytes) => bytes.length + 1
  | .lit _ => 1
  | .nil => 1
  | .ptr d => uptoBulk d + 1
  | .slice elems spare => uptoBulkAll elems + uptoBulkAll spare + 1
  | .agg parts => uptoBulkAll parts + 1
  | .iface _ d => uptoBulk d + 1
  | .map entries => uptoBulkEntries entries + 1
  | .held _ => 1
def uptoBulkAll {H : Type} : List (DataW H) → Nat
  | [] => 0
  | d :: r => uptoBulk d + uptoBulkAll r
def uptoBulkEntries {H : Type} : List (Lit × DataW H) → Nat
  | [] => 0
  | x :: r => uptoBulkEntry x + uptoBulkEntries r
def uptoBulkEntry {H : Type} : Lit × DataW H → Nat
  | (.string bytes, d) => bytes.length + uptoBulk d + 1
  | (_, d) => uptoBulk d + 1
 end
def uptoSmall : (H : Type) → List (DataW H) → Bool := fun _ ds => decide (uptoBulkAll ds ≤ 1048576)
def OpenSpec.upto (s : _root_.Go.ChangeSpec) : _root_.Go.OpenSpec := { _root_.Go.OpenSpec.ofChange s with cond := some uptoSmall }

/-- 'kreisellaw10.GuestCounts', WHERE WHAT IT READS IS OF BULK AT MOST 1048576: true; the input reads as it did. -/
def guestCountsUptoRow : OpenClaim := { program := "ytfjkiemjmnnbkaagreatdoor", sum := "3e71635b86e40943b72c04a767f96229b9e7cdfe3df65f5a26b2ebcb098d3fed", func := "kreisel/kreisellaw10.GuestCounts", spec := "guestCounts", unfollowed := true, recurses := true, named := ["kreisel/scale.conditions"], apart := false, laid := [("kreisel/scale.conditions", laid_kreisel_scale_conditions)], narrowed := true }
def GuestCountsUptoSaid : Prop := guestCountsUptoRow.holds Tryz.pinned (OpenSpec.upto guestCountsSpec)

/-- 'kreisellaw04.ScaleTrue', WHERE WHAT IT READS IS OF BULK AT MOST 1048576: true; the input reads as it did. -/
def scaleTrueUptoRow : OpenClaim := { program := "ytfjkiemjmnnbkaagreatdoor", sum := "3e71635b86e40943b72c04a767f96229b9e7cdfe3df65f5a26b2ebcb098d3fed", func := "kreisel/kreisellaw04.ScaleTrue", spec := "scaleTrue", unfollowed := true, recurses := true, named := ["kreisel/scale.conditions"], apart := false, laid := [("kreisel/scale.conditions", laid_kreisel_scale_conditions)], narrowed := true }
def ScaleTrueUptoSaid : Prop := scaleTrueUptoRow.holds Tryz.pinned (OpenSpec.upto scaleTrueSpec)

/-- 'kreisellaw04.ScaleAgain', WHERE WHAT IT READS IS OF BULK AT MOST 1048576: true; the input reads as it did. -/
def scaleAgainUptoRow : OpenClaim := { program := "ytfjkiemjmnnbkaagreatdoor", sum := "3e71635b86e40943b72c04a767f96229b9e7cdfe3df65f5a26b2ebcb098d3fed", func := "kreisel/kreisellaw04.ScaleAgain", spec := "scaleAgain", unfollowed := true, recurses := true, named := ["kreisel/scale.conditions"], apart := false, laid := [("kreisel/scale.conditions", laid_kreisel_scale_conditions)], narrowed := true }
def ScaleAgainUptoSaid : Prop := scaleAgainUptoRow.holds Tryz.pinned (OpenSpec.upto scaleAgainSpec)

/-- 'kreisellaw04.ScaleTuned', WHERE WHAT IT READS IS OF BULK AT MOST 1048576: true; the input reads as it did. -/
def scaleTunedUptoRow : OpenClaim := { program := "ytfjkiemjmnnbkaagreatdoor", sum := "3e71635b86e40943b72c04a767f96229b9e7cdfe3df65f5a26b2ebcb098d3fed", func := "kreisel/kreisellaw04.ScaleTuned", spec := "scaleTuned", unfollowed := true, recurses := true, named := ["kreisel/scale.conditions"], apart := false, laid := [("kreisel/scale.conditions", laid_kreisel_scale_conditions)], narrowed := true }
def ScaleTunedUptoSaid : Prop := scaleTunedUptoRow.holds Tryz.pinned (OpenSpec.upto scaleTunedSpec)

/-- 'kreisellaw04.ScaleFirst', WHERE WHAT IT READS IS OF BULK AT MOST 1048576: true; the input reads as it did. -/
def scaleFirstUptoRow : OpenClaim := { program := "ytfjkiemjmnnbkaagreatdoor", sum := "3e71635b86e40943b72c04a767f96229b9e7cdfe3df65f5a26b2ebcb098d3fed", func := "kreisel/kreisellaw04.ScaleFirst", spec := "scaleFirst", unfollowed := true, recurses := true, named := ["kreisel/scale.conditions"], apart := false, laid := [("kreisel/scale.conditions", laid_kreisel_scale_conditions)], narrowed := true }
def ScaleFirstUptoSaid : Prop := scaleFirstUptoRow.holds Tryz.pinned (OpenSpec.upto scaleFirstSpec)

/-- 'kreisellaw04.ScaleTrials', WHERE WHAT IT READS IS OF BULK AT MOST 1048576: true; the input reads as it did. -/
def scaleTrialsUptoRow : OpenClaim := { program := "ytfjkiemjmnnbkaagreatdoor", sum := "3e71635b86e40943b72c04a767f96229b9e7cdfe3df65f5a26b2ebcb098d3fed", func := "kreisel/kreisellaw04.ScaleTrials", spec := "scaleTrials", unfollowed := true, recurses := true, named := ["kreisel/scale.conditions"], apart := false, laid := [("kreisel/scale.conditions", laid_kreisel_scale_conditions)], narrowed := true }
def ScaleTrialsUptoSaid : Prop := scaleTrialsUptoRow.holds Tryz.pinned (OpenSpec.upto scaleTrialsSpec)

/-- 'kreisellaw04.ScaleWider', WHERE WHAT IT READS IS OF BULK AT MOST 1048576: true; the input reads as it did. -/
def scaleWiderUptoRow : OpenClaim := { program := "ytfjkiemjmnnbkaagreatdoor", sum := "3e71635b86e40943b72c04a767f96229b9e7cdfe3df65f5a26b2ebcb098d3fed", func := "kreisel/kreisellaw04.ScaleWider", spec := "scaleWider", unfollowed := true, recurses := true, named := ["kreisel/scale.conditions"], apart := false, laid := [("kreisel/scale.conditions", laid_kreisel_scale_conditions)], narrowed := true }
def ScaleWiderUptoSaid : Prop := scaleWiderUptoRow.holds Tryz.pinned (OpenSpec.upto scaleWiderSpec)

/-- 'kreisellaw04.ScaleTurned', WHERE WHAT IT READS IS OF BULK AT MOST 1048576: true; the input reads as it did. -/
def scaleTurnedUptoRow : OpenClaim := { program := "ytfjkiemjmnnbkaagreatdoor", sum := "3e71635b86e40943b72c04a767f96229b9e7cdfe3df65f5a26b2ebcb098d3fed", func := "kreisel/kreisellaw04.ScaleTurned", spec := "scaleTurned", unfollowed := true, recurses := true, named := ["kreisel/scale.conditions"], apart := false, laid := [("kreisel/scale.conditions", laid_kreisel_scale_conditions)], narrowed := true }
def ScaleTurnedUptoSaid : Prop := scaleTurnedUptoRow.holds Tryz.pinned (OpenSpec.upto scaleTurnedSpec)

/-- 'kreisellaw04.ScaleApart', WHERE WHAT IT READS IS OF BULK AT MOST 1048576: true; the input reads as it did. -/
def scaleApartUptoRow : OpenClaim := { program := "ytfjkiemjmnnbkaagreatdoor", sum := "3e71635b86e40943b72c04a767f96229b9e7cdfe3df65f5a26b2ebcb098d3fed", func := "kreisel/kreisellaw04.ScaleApart", spec := "scaleApart", unfollowed := true, recurses := true, named := ["kreisel/scale.conditions"], apart := false, laid := [("kreisel/scale.conditions", laid_kreisel_scale_conditions)], narrowed := true }
def ScaleApartUptoSaid : Prop := scaleApartUptoRow.holds Tryz.pinned (OpenSpec.upto scaleApartSpec)

/-- 'kreisellaw04.ScaleWhole', WHERE WHAT IT READS IS OF BULK AT MOST 1048576: true; the input reads as it did. -/
def scaleWholeUptoRow : OpenClaim := { program := "ytfjkiemjmnnbkaagreatdoor", sum := "3e71635b86e40943b72c04a767f96229b9e7cdfe3df65f5a26b2ebcb098d3fed", func := "kreisel/kreisellaw04.ScaleWhole", spec := "scaleWhole", unfollowed := true, recurses := true, named := ["kreisel/scale.conditions"], apart := false, laid := [("kreisel/scale.conditions", laid_kreisel_scale_conditions)], narrowed := true }
def ScaleWholeUptoSaid : Prop := scaleWholeUptoRow.holds Tryz.pinned (OpenSpec.upto scaleWholeSpec)

/-- 'kreisellaw04.ScaleBallast', WHERE WHAT IT READS IS OF BULK AT MOST 1048576: true; the input reads as it did. -/
def scaleBallastUptoRow : OpenClaim := { program := "ytfjkiemjmnnbkaagreatdoor", sum := "3e71635b86e40943b72c04a767f96229b9e7cdfe3df65f5a26b2ebcb098d3fed", func := "kreisel/kreisellaw04.ScaleBallast", spec := "scaleBallast", unfollowed := true, recurses := true, named := ["kreisel/scale.conditions"], apart := false, laid := [("kreisel/scale.conditions", laid_kreisel_scale_conditions)], narrowed := true }
def ScaleBallastUptoSaid : Prop := scaleBallastUptoRow.holds Tryz.pinned (OpenSpec.upto scaleBallastSpec)

end Rows
end Go.Proofs.YtfjkiemjmnnbkaaGreatDoor
