/-
  NARROWER THAN 'FOR EVERY INPUT', by the rows' own cells (each row's printed sentence says how): ScaleExamples: laid.
  DERIVED. THE GIVEN ROWS OF THIS SEAT. 1 by the template 'for every input the law returns true; each argument reads behind the call as it read before'; 0 by the template 'total and deterministic' (their statements: YtfjkiemjmnnbkaaDoorTotals.lean).
  GIVEN WITH THE SEED: the statements are not yours to turn. If you find one false, say at which input.
  Laid BY PROGRAM, IN A SANDBOX (cutbox-rows.mjs): the forced cells as the released guide's own fill.sh prints them over the translation 6b3f5fcf787b984c… (all of the seat's roots in one cut). By AI agents, Wed Nov 11 2026. No macro, syntax, notation, axiom, sorry.
-/
import Derived.Test.YtfjkiemjmnnbkaaDoorChecked
import GoSem.Claim
import GoSem.ClaimJoined
import GoSem.ClaimMapViews
import Derived.JoinedTies
import Derived.KernelRfl
namespace Go.Proofs.YtfjkiemjmnnbkaaDoor
/- THE CELL 'sum', in the pinned program and in every row, IS THE sha256 OF THE DUMP (.gsa) THAT YtfjkiemjmnnbkaaDoorProg.lean LOADS. Nothing in Lean hashes anything: it is a label: what it is worth is what the hold of that sum in a sandbox is worth. -/
noncomputable def Tryd.pinned : Pinned := { name := "ytfjkiemjmnnbkaadoor", sum := "6b3f5fcf787b984cf91d1e3012a182fa3abf114f387fb752ea36a57688270109", checked := Tryd.checked }
namespace Rows
def none {H : Type} : Left H := { results := [], args := [] }

/- WHAT THE LISTED PACKAGE-LEVEL VARIABLES READ AS WHEN THE CALL BEGINS. Each datum BY PROGRAM (the guide's laid-datum.mjs) off the statement by which the dump's own 'gosem.cut.vars' lays the variable. In a bare row this is a premise. The card (YtfjkiemjmnnbkaaDoorCards.lean) ties it to the program's text. -/
def laid_kreisel_scale_conditions {H : Type} : DataW H := .iface "func table" (.agg [.agg [.iface "func" (.lit (.string [107, 114, 101, 105, 115, 101, 108, 47, 115, 99, 97, 108, 101, 46, 99, 111, 110, 100, 105, 116, 105, 111, 110, 115, 36, 49]))], .agg [.iface "func" (.lit (.string [107, 114, 101, 105, 115, 101, 108, 47, 115, 99, 97, 108, 101, 46, 99, 111, 110, 100, 105, 116, 105, 111, 110, 115, 36, 50]))], .agg [.iface "func" (.lit (.string [107, 114, 101, 105, 115, 101, 108, 47, 115, 99, 97, 108, 101, 46, 99, 111, 110, 100, 105, 116, 105, 111, 110, 115, 36, 51]))], .agg [.iface "func" (.lit (.string [107, 114, 101, 105, 115, 101, 108, 47, 115, 99, 97, 108, 101, 46, 99, 111, 110, 100, 105, 116, 105, 111, 110, 115, 36, 52]))], .agg [.iface "func" (.lit (.string [107, 114, 101, 105, 115, 101, 108, 47, 115, 99, 97, 108, 101, 46, 99, 111, 110, 100, 105, 116, 105, 111, 110, 115, 36, 53]))]])

/-- 'kreisellaw04.ScaleExamples': WHATEVER THE INPUT: true; the input reads as it did. -/
def scaleExamplesSpec : ChangeSpec := { name := "scaleExamples", fn := fun _ => fun
  | [] => { results := [.lit (.bool true)], args := [] }
  | _ => none }
def scaleExamplesRow : OpenClaim := { program := "ytfjkiemjmnnbkaadoor", sum := "6b3f5fcf787b984cf91d1e3012a182fa3abf114f387fb752ea36a57688270109", func := "kreisel/kreisellaw04.ScaleExamples", spec := "scaleExamples", unfollowed := true, recurses := true, named := ["kreisel/scale.conditions"], apart := false, laid := [("kreisel/scale.conditions", laid_kreisel_scale_conditions)] }
def ScaleExamplesSaid : Prop := scaleExamplesRow.holds Tryd.pinned (OpenSpec.ofChange scaleExamplesSpec)

/-- ITS FALSE NEIGHBOUR: 'it returns false'. Refute it at one input. -/
def scaleExamplesWrong : ChangeSpec := { name := "scaleExamples", fn := fun _ => fun
  | [] => { results := [.lit (.bool false)], args := [] }
  | _ => none }
def ScaleExamplesWrongFalsely : Prop := scaleExamplesRow.holds Tryd.pinned (OpenSpec.ofChange scaleExamplesWrong)

/- THE SECOND FORM. 'bulk': how many values and letters a reading holds, each counted each time it is reached (what is shared counts as often as it is met; a slice's spare places count too). A statement '..UptoSaid' is the law's where the arguments, and the package variables that the reading takes, are together of bulk at most 1048576: NARROWER than '..Said'. Prove '..Said' where nothing that the law and all that it calls make is longer than what came in: it says more and counts as full. Else prove '..UptoSaid'. A law counts once. -/
mutual
def uptoBulk {H : Type} : DataW H → Nat
  | .lit (.string bytes) => bytes.length + 1
  | .lit _ => 1
  | .nil => 1
  | .ptr d => uptoBulk d + 1
  | .slice elems spare => uptoBulkAll elems + uptoBulkAll spare + 1
  | .agg parts => uptoBulkAll parts + 1
  | .iface _ d => uptoBulk d + 1
  | .map entries => uptoBulkEntries entries + 1
  | .held _ => 1
def uptoBulkAll {H : Type} : List (DataW H) → Nat
  | [] => 0
  | d :: r => uptoBulk d + uptoBulkAll r
def uptoBulkEntries {H : Type} : List (Lit × DataW H) → Nat
  | [] => 0
  | x :: r => uptoBulkEntry x + uptoBulkEntries r
def uptoBulkEntry {H : Type} : Lit × DataW H → Nat
  | (.string bytes, d) => bytes.length + uptoBulk d + 1
  | (_, d) => uptoBulk d + 1
 end
def uptoSmall : (H : Type) → List (DataW H) → Bool := fun _ ds => decide (uptoBulkAll ds ≤ 1048576)
def OpenSpec.upto (s : _root_.Go.ChangeSpec) : _root_.Go.OpenSpec := { _root_.Go.OpenSpec.ofChange s with cond := some uptoSmall }

/-- 'kreisellaw04.ScaleExamples', WHERE WHAT IT READS IS OF BULK AT MOST 1048576: true; the input reads as it did. -/
def scaleExamplesUptoRow : OpenClaim := { program := "ytfjkiemjmnnbkaadoor", sum := "6b3f5fcf787b984cf91d1e3012a182fa3abf114f387fb752ea36a57688270109", func := "kreisel/kreisellaw04.ScaleExamples", spec := "scaleExamples", unfollowed := true, recurses := true, named := ["kreisel/scale.conditions"], apart := false, laid := [("kreisel/scale.conditions", laid_kreisel_scale_conditions)], narrowed := true }
def ScaleExamplesUptoSaid : Prop := scaleExamplesUptoRow.holds Tryd.pinned (OpenSpec.upto scaleExamplesSpec)

end Rows
end Go.Proofs.YtfjkiemjmnnbkaaDoor
