/-
  NARROWER THAN 'FOR EVERY INPUT', by the rows' own cells (each row's printed sentence says how): ScaleJudges: laid · ScaleWhole: laid · ScaleBallast: laid.
  DERIVED. THE GIVEN ROWS OF THIS SEAT. 3 by the template 'for every input the law returns true; each argument reads behind the call as it read before'; 0 by the template 'total and deterministic' (their statements: YtomcenfikdmmkaaGreatDoorTotals.lean).
  GIVEN WITH THE SEED: the statements are not yours to turn. If you find one false, say at which input.
  Laid BY PROGRAM, IN A SANDBOX (cutbox-rows.mjs): the forced cells as the released guide's own fill.sh prints them over the translation b480b372bbbb4066… (all of the seat's roots in one cut). By AI agents, Wed Nov 11 2026. No macro, syntax, notation, axiom, sorry.
-/
import Derived.Test.YtomcenfikdmmkaaGreatDoorChecked
import GoSem.Claim
import GoSem.ClaimJoined
import GoSem.ClaimMapViews
import Derived.JoinedTies
import Derived.KernelRfl
namespace Go.Proofs.YtomcenfikdmmkaaGreatDoor
/- THE CELL 'sum', in the pinned program and in every row, IS THE sha256 OF THE DUMP (.gsa) THAT YtomcenfikdmmkaaGreatDoorProg.lean LOADS. Nothing in Lean hashes anything: it is a label: what it is worth is what the hold of that sum in a sandbox is worth. -/
noncomputable def Tryz.pinned : Pinned := { name := "ytomcenfikdmmkaagreatdoor", sum := "b480b372bbbb4066abfe4ab1dbf5d9e52e9e3ace06253a416e1eb8ea46cbe012", checked := Tryz.checked }
namespace Rows
def none {H : Type} : Left H := { results := [], args := [] }

/- WHAT THE LISTED PACKAGE-LEVEL VARIABLES READ AS WHEN THE CALL BEGINS. Each datum BY PROGRAM (the guide's laid-datum.mjs) off the statement by which the dump's own 'gosem.cut.vars' lays the variable. In a bare row this is a premise. The card (YtomcenfikdmmkaaGreatDoorCards.lean) ties it to the program's text. -/
def laid_kreisel_scale_conditions {H : Type} : DataW H := .iface "func table" (.agg [.agg [.iface "func" (.lit (.string [107, 114, 101, 105, 115, 101, 108, 47, 115, 99, 97, 108, 101, 46, 99, 111, 110, 100, 105, 116, 105, 111, 110, 115, 36, 49]))], .agg [.iface "func" (.lit (.string [107, 114, 101, 105, 115, 101, 108, 47, 115, 99, 97, 108, 101, 46, 99, 111, 110, 100, 105, 116, 105, 111, 110, 115, 36, 50]))], .agg [.iface "func" (.lit (.string [107, 114, 101, 105, 115, 101, 108, 47, 115, 99, 97, 108, 101, 46, 99, 111, 110, 100, 105, 116, 105, 111, 110, 115, 36, 51]))], .agg [.iface "func" (.lit (.string [107, 114, 101, 105, 115, 101, 108, 47, 115, 99, 97, 108, 101, 46, 99, 111, 110, 100, 105, 116, 105, 111, 110, 115, 36, 52]))], .agg [.iface "func" (.lit (.string [107, 114, 101, 105, 115, 101, 108, 47, 115, 99, 97, 108, 101, 46, 99, 111, 110, 100, 105, 116, 105, 111, 110, 115, 36, 53]))]])

/-- 'kreisellaw04.ScaleJudges': WHATEVER THE INPUT: true; the input reads as it did. -/
def scaleJudgesSpec : ChangeSpec := { name := "scaleJudges", fn := fun _ => fun
  | [d1, d2, d3, d4, d5] => { results := [.lit (.bool true)], args := [d1, d2, d3, d4, d5] }
  | _ => none }
def scaleJudgesRow : OpenClaim := { program := "ytomcenfikdmmkaagreatdoor", sum := "b480b372bbbb4066abfe4ab1dbf5d9e52e9e3ace06253a416e1eb8ea46cbe012", func := "kreisel/kreisellaw04.ScaleJudges", spec := "scaleJudges", unfollowed := true, recurses := true, named := ["kreisel/scale.conditions"], apart := false, laid := [("kreisel/scale.conditions", laid_kreisel_scale_conditions)] }
def ScaleJudgesSaid : Prop := scaleJudgesRow.holds Tryz.pinned (OpenSpec.ofChange scaleJudgesSpec)

/-- ITS FALSE NEIGHBOUR: 'it returns false'. Refute it at one input. -/
def scaleJudgesWrong : ChangeSpec := { name := "scaleJudges", fn := fun _ => fun
  | [d1, d2, d3, d4, d5] => { results := [.lit (.bool false)], args := [d1, d2, d3, d4, d5] }
  | _ => none }
def ScaleJudgesWrongFalsely : Prop := scaleJudgesRow.holds Tryz.pinned (OpenSpec.ofChange scaleJudgesWrong)

/-- 'kreisellaw04.ScaleWhole': WHATEVER THE INPUT: true; the input reads as it did. -/
def scaleWholeSpec : ChangeSpec := { name := "scaleWhole", fn := fun _ => fun
  | [d1, d2, d3] => { results := [.lit (.bool true)], args := [d1, d2, d3] }
  | _ => none }
def scaleWholeRow : OpenClaim := { program := "ytomcenfikdmmkaagreatdoor", sum := "b480b372bbbb4066abfe4ab1dbf5d9e52e9e3ace06253a416e1eb8ea46cbe012", func := "kreisel/kreisellaw04.ScaleWhole", spec := "scaleWhole", unfollowed := true, recurses := true, named := ["kreisel/scale.conditions"], apart := false, laid := [("kreisel/scale.conditions", laid_kreisel_scale_conditions)] }
def ScaleWholeSaid : Prop := scaleWholeRow.holds Tryz.pinned (OpenSpec.ofChange scaleWholeSpec)

/-- ITS FALSE NEIGHBOUR: 'it returns false'. Refute it at one input. -/
def scaleWholeWrong : ChangeSpec := { name := "scaleWhole", fn := fun _ => fun
  | [d1, d2, d3] => { results := [.lit (.bool false)], args := [d1, d2, d3] }
  | _ => none }
def ScaleWholeWrongFalsely : Prop := scaleWholeRow.holds Tryz.pinned (OpenSpec.ofChange scaleWholeWrong)

/-- 'kreisellaw04.ScaleBallast': WHATEVER THE INPUT: true; the input reads as it did. -/
def scaleBallastSpec : ChangeSpec := { name := "scaleBallast", fn := fun _ => fun
  | [d1, d2, d3, d4, d5] => { results := [.lit (.bool true)], args := [d1, d2, d3, d4, d5] }
  | _ => none }
def scaleBallastRow : OpenClaim := { program := "ytomcenfikdmmkaagreatdoor", sum := "b480b372bbbb4066abfe4ab1dbf5d9e52e9e3ace06253a416e1eb8ea46cbe012", func := "kreisel/kreisellaw04.ScaleBallast", spec := "scaleBallast", unfollowed := true, recurses := true, named := ["kreisel/scale.conditions"], apart := false, laid := [("kreisel/scale.conditions", laid_kreisel_scale_conditions)] }
def ScaleBallastSaid : Prop := scaleBallastRow.holds Tryz.pinned (OpenSpec.ofChange scaleBallastSpec)

/-- ITS FALSE NEIGHBOUR: 'it returns false'. Refute it at one input. -/
def scaleBallastWrong : ChangeSpec := { name := "scaleBallast", fn := fun _ => fun
  | [d1, d2, d3, d4, d5] => { results := [.lit (.bool false)], args := [d1, d2, d3, d4, d5] }
  | _ => none }
def ScaleBallastWrongFalsely : Prop := scaleBallastRow.holds Tryz.pinned (OpenSpec.ofChange scaleBallastWrong)

/- THE SECOND FORM. 'bulk': how many values and letters a reading holds, each counted each time it is reached (what is shared counts as often as it is met; a slice's spare places count too). A statement '..UptoSaid' is the law's where the arguments, and the package variables that the reading takes, are together of bulk at most 1048576: NARROWER than '..Said'. Prove '..Said' where nothing that the law and all that it calls make is longer than what came in: it says more and counts as full. Else prove '..UptoSaid'. A law counts once. -/
mutual
def uptoBulk {H : Type} : DataW H → Nat
  | .lit (.string bytes) => bytes.length + 1
  | .lit _ => 1
  | .nil => 1
  | .ptr d => uptoBulk d + 1
  | .slice elems spare => uptoBulkAll elems + uptoBulkAll spare + 1
  | .agg parts => uptoBulkAll parts + 1
  | .iface _ d => uptoBulk d + 1
  | .map entries => uptoBulkEntries entries + 1
  | .held _ => 1
def uptoBulkAll {H : Type} : List (DataW H) → Nat
  | [] => 0
  | d :: r => uptoBulk d + uptoBulkAll r
def uptoBulkEntries {H : Type} : List (Lit × DataW H) → Nat
  | [] => 0
  | x :: r => uptoBulkEntry x + uptoBulkEntries r
def uptoBulkEntry {H : Type} : Lit × DataW H → Nat
  | (.string bytes, d) => bytes.length + uptoBulk d + 1
  | (_, d) => uptoBulk d + 1
 end
def uptoSmall : (H : Type) → List (DataW H) → Bool := fun _ ds => decide (uptoBulkAll ds ≤ 1048576)
def OpenSpec.upto (s : _root_.Go.ChangeSpec) : _root_.Go.OpenSpec := { _root_.Go.OpenSpec.ofChange s with cond := some uptoSmall }

/-- 'kreisellaw04.ScaleJudges', WHERE WHAT IT READS IS OF BULK AT MOST 1048576: true; the input reads as it did. -/
def scaleJudgesUptoRow : OpenClaim := { program := "ytomcenfikdmmkaagreatdoor", sum := "b480b372bbbb4066abfe4ab1dbf5d9e52e9e3ace06253a416e1eb8ea46cbe012", func := "kreisel/kreisellaw04.ScaleJudges", spec := "scaleJudges", unfollowed := true, recurses := true, named := ["kreisel/scale.conditions"], apart := false, laid := [("kreisel/scale.conditions", laid_kreisel_scale_conditions)], narrowed := true }
def ScaleJudgesUptoSaid : Prop := scaleJudgesUptoRow.holds Tryz.pinned (OpenSpec.upto scaleJudgesSpec)

/-- 'kreisellaw04.ScaleWhole', WHERE WHAT IT READS IS OF BULK AT MOST 1048576: true; the input reads as it did. -/
def scaleWholeUptoRow : OpenClaim := { program := "ytomcenfikdmmkaagreatdoor", sum := "b480b372bbbb4066abfe4ab1dbf5d9e52e9e3ace06253a416e1eb8ea46cbe012", func := "kreisel/kreisellaw04.ScaleWhole", spec := "scaleWhole", unfollowed := true, recurses := true, named := ["kreisel/scale.conditions"], apart := false, laid := [("kreisel/scale.conditions", laid_kreisel_scale_conditions)], narrowed := true }
def ScaleWholeUptoSaid : Prop := scaleWholeUptoRow.holds Tryz.pinned (OpenSpec.upto scaleWholeSpec)

/-- 'kreisellaw04.ScaleBallast', WHERE WHAT IT READS IS OF BULK AT MOST 1048576: true; the input reads as it did. -/
def scaleBallastUptoRow : OpenClaim := { program := "ytomcenfikdmmkaagreatdoor", sum := "b480b372bbbb4066abfe4ab1dbf5d9e52e9e3ace06253a416e1eb8ea46cbe012", func := "kreisel/kreisellaw04.ScaleBallast", spec := "scaleBallast", unfollowed := true, recurses := true, named := ["kreisel/scale.conditions"], apart := false, laid := [("kreisel/scale.conditions", laid_kreisel_scale_conditions)], narrowed := true }
def ScaleBallastUptoSaid : Prop := scaleBallastUptoRow.holds Tryz.pinned (OpenSpec.upto scaleBallastSpec)

end Rows
end Go.Proofs.YtomcenfikdmmkaaGreatDoor
