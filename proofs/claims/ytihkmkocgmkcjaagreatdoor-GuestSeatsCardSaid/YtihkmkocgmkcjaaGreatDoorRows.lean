/-
  NARROWER THAN 'FOR EVERY INPUT', by the rows' own cells (each row's printed sentence says how): SheetKept: laid · GuestSeats: laid.
  DERIVED. THE GIVEN ROWS OF THIS SEAT. 2 by the template 'for every input the law returns true; each argument reads behind the call as it read before'; 0 by the template 'total and deterministic' (their statements: YtihkmkocgmkcjaaGreatDoorTotals.lean).
  GIVEN WITH THE SEED: the statements are not yours to turn. If you find one false, say at which input.
  Laid BY PROGRAM, IN A SANDBOX (cutbox-rows.mjs): the forced cells as the released guide's own fill.sh prints them over the translation 141018bdc630877d… (all of the seat's roots in one cut). By AI agents, Wed Nov 11 2026. No macro, syntax, notation, axiom, sorry.
-/
import Derived.Test.YtihkmkocgmkcjaaGreatDoorChecked
import GoSem.Claim
import GoSem.ClaimJoined
import GoSem.ClaimMapViews
import Derived.JoinedTies
import Derived.KernelRfl
namespace Go.Proofs.YtihkmkocgmkcjaaGreatDoor
/- THE CELL 'sum', in the pinned program and in every row, IS THE sha256 OF THE DUMP (.gsa) THAT YtihkmkocgmkcjaaGreatDoorProg.lean LOADS. Nothing in Lean hashes anything: it is a label: what it is worth is what the hold of that sum in a sandbox is worth. -/
noncomputable def Tryz.pinned : Pinned := { name := "ytihkmkocgmkcjaagreatdoor", sum := "141018bdc630877daf014859fa239f94af596b88ca72a20c60cd377ea7eeae5d", checked := Tryz.checked }
namespace Rows
def none {H : Type} : Left H := { results := [], args := [] }

/- WHAT THE LISTED PACKAGE-LEVEL VARIABLES READ AS WHEN THE CALL BEGINS. Each datum BY PROGRAM (the guide's laid-datum.mjs) off the statement by which the dump's own 'gosem.cut.vars' lays the variable. In a bare row this is a premise. The card (YtihkmkocgmkcjaaGreatDoorCards.lean) ties it to the program's text. -/
def laid_kreisel_scale_conditions {H : Type} : DataW H := .iface "func table" (.agg [.agg [.iface "func" (.lit (.string [107, 114, 101, 105, 115, 101, 108, 47, 115, 99, 97, 108, 101, 46, 99, 111, 110, 100, 105, 116, 105, 111, 110, 115, 36, 49]))], .agg [.iface "func" (.lit (.string [107, 114, 101, 105, 115, 101, 108, 47, 115, 99, 97, 108, 101, 46, 99, 111, 110, 100, 105, 116, 105, 111, 110, 115, 36, 50]))], .agg [.iface "func" (.lit (.string [107, 114, 101, 105, 115, 101, 108, 47, 115, 99, 97, 108, 101, 46, 99, 111, 110, 100, 105, 116, 105, 111, 110, 115, 36, 51]))], .agg [.iface "func" (.lit (.string [107, 114, 101, 105, 115, 101, 108, 47, 115, 99, 97, 108, 101, 46, 99, 111, 110, 100, 105, 116, 105, 111, 110, 115, 36, 52]))], .agg [.iface "func" (.lit (.string [107, 114, 101, 105, 115, 101, 108, 47, 115, 99, 97, 108, 101, 46, 99, 111, 110, 100, 105, 116, 105, 111, 110, 115, 36, 53]))]])
def laid_kreisel_ice_limits {H : Type} : DataW H := .iface "func table" (.agg [.agg [.iface "func" (.lit (.string [107, 114, 101, 105, 115, 101, 108, 47, 105, 99, 101, 46, 108, 105, 109, 105, 116, 115, 36, 49])), .iface "func" (.lit (.string [107, 114, 101, 105, 115, 101, 108, 47, 105, 99, 101, 46, 108, 105, 109, 105, 116, 115, 36, 50]))], .agg [.iface "func" (.lit (.string [107, 114, 101, 105, 115, 101, 108, 47, 105, 99, 101, 46, 108, 105, 109, 105, 116, 115, 36, 51])), .iface "func" (.lit (.string [107, 114, 101, 105, 115, 101, 108, 47, 105, 99, 101, 46, 108, 105, 109, 105, 116, 115, 36, 52]))]])

/-- 'kreisellaw11.SheetKept': WHATEVER THE INPUT: true; the input reads as it did. -/
def sheetKeptSpec : ChangeSpec := { name := "sheetKept", fn := fun _ => fun
  | [d1, d2, d3, d4, d5] => { results := [.lit (.bool true)], args := [d1, d2, d3, d4, d5] }
  | _ => none }
def sheetKeptRow : OpenClaim := { program := "ytihkmkocgmkcjaagreatdoor", sum := "141018bdc630877daf014859fa239f94af596b88ca72a20c60cd377ea7eeae5d", func := "kreisel/kreisellaw11.SheetKept", spec := "sheetKept", unfollowed := true, recurses := true, named := ["kreisel/ice.limits", "kreisel/scale.conditions"], apart := false, laid := [("kreisel/scale.conditions", laid_kreisel_scale_conditions), ("kreisel/ice.limits", laid_kreisel_ice_limits)] }
def SheetKeptSaid : Prop := sheetKeptRow.holds Tryz.pinned (OpenSpec.ofChange sheetKeptSpec)

/-- ITS FALSE NEIGHBOUR: 'it returns false'. Refute it at one input. -/
def sheetKeptWrong : ChangeSpec := { name := "sheetKept", fn := fun _ => fun
  | [d1, d2, d3, d4, d5] => { results := [.lit (.bool false)], args := [d1, d2, d3, d4, d5] }
  | _ => none }
def SheetKeptWrongFalsely : Prop := sheetKeptRow.holds Tryz.pinned (OpenSpec.ofChange sheetKeptWrong)

/-- 'kreisellaw10.GuestSeats': WHATEVER THE INPUT: true; the input reads as it did. -/
def guestSeatsSpec : ChangeSpec := { name := "guestSeats", fn := fun _ => fun
  | [d1, d2, d3] => { results := [.lit (.bool true)], args := [d1, d2, d3] }
  | _ => none }
def guestSeatsRow : OpenClaim := { program := "ytihkmkocgmkcjaagreatdoor", sum := "141018bdc630877daf014859fa239f94af596b88ca72a20c60cd377ea7eeae5d", func := "kreisel/kreisellaw10.GuestSeats", spec := "guestSeats", unfollowed := true, recurses := true, named := ["kreisel/scale.conditions"], apart := false, laid := [("kreisel/scale.conditions", laid_kreisel_scale_conditions)] }
def GuestSeatsSaid : Prop := guestSeatsRow.holds Tryz.pinned (OpenSpec.ofChange guestSeatsSpec)

/-- ITS FALSE NEIGHBOUR: 'it returns false'. Refute it at one input. -/
def guestSeatsWrong : ChangeSpec := { name := "guestSeats", fn := fun _ => fun
  | [d1, d2, d3] => { results := [.lit (.bool false)], args := [d1, d2, d3] }
  | _ => none }
def GuestSeatsWrongFalsely : Prop := guestSeatsRow.holds Tryz.pinned (OpenSpec.ofChange guestSeatsWrong)

/- THE SECOND FORM. 'bulk': how many values and letters a reading holds, each counted each time it is reached (what is shared counts as often as it is met; a slice's spare places count too). A statement '..UptoSaid' is the law's where the arguments, and the package variables that the reading takes, are together of bulk at most 1048576: NARROWER than '..Said'. Prove '..Said' where nothing that the law and all that it calls make is longer than what came in: it says more and counts as full. Else prove '..UptoSaid'. A law counts once. -/
mutual
def uptoBulk {H : Type} : DataW H → Nat
  | .lit (.string bytes) => bytes.length + 1
  | .lit _ => 1
  | .nil => 1
  | .ptr d => uptoBulk d + 1
  | .slice elems spare => uptoBulkAll elems + uptoBulkAll spare + 1
  | .agg parts => uptoBulkAll parts + 1
  | .iface _ d => uptoBulk d + 1
  | .map entries => uptoBulkEntries entries + 1
  | .held _ => 1
def uptoBulkAll {H : Type} : List (DataW H) → Nat
  | [] => 0
  | d :: r => uptoBulk d + uptoBulkAll r
def uptoBulkEntries {H : Type} : List (Lit × DataW H) → Nat
  | [] => 0
  | x :: r => uptoBulkEntry x + uptoBulkEntries r
def uptoBulkEntry {H : Type} : Lit × DataW H → Nat
  | (.string bytes, d) => bytes.length + uptoBulk d + 1
  | (_, d) => uptoBulk d + 1
 end
def uptoSmall : (H : Type) → List (DataW H) → Bool := fun _ ds => decide (uptoBulkAll ds ≤ 1048576)
def OpenSpec.upto (s : _root_.Go.ChangeSpec) : _root_.Go.OpenSpec := { _root_.Go.OpenSpec.ofChange s with cond := some uptoSmall }

/-- 'kreisellaw11.SheetKept', WHERE WHAT IT READS IS OF BULK AT MOST 1048576: true; the input reads as it did. -/
def sheetKeptUptoRow : OpenClaim := { program := "ytihkmkocgmkcjaagreatdoor", sum := "141018bdc630877daf014859fa239f94af596b88ca72a20c60cd377ea7eeae5d", func := "kreisel/kreisellaw11.SheetKept", spec := "sheetKept", unfollowed := true, recurses := true, named := ["kreisel/ice.limits", "kreisel/scale.conditions"], apart := false, laid := [("kreisel/scale.conditions", laid_kreisel_scale_conditions), ("kreisel/ice.limits", laid_kreisel_ice_limits)], narrowed := true }
def SheetKeptUptoSaid : Prop := sheetKeptUptoRow.holds Tryz.pinned (OpenSpec.upto sheetKeptSpec)

/-- 'kreisellaw10.GuestSeats', WHERE WHAT IT READS IS OF BULK AT MOST 1048576: true; the input reads as it did. -/
def guestSeatsUptoRow : OpenClaim := { program := "ytihkmkocgmkcjaagreatdoor", sum := "141018bdc630877daf014859fa239f94af596b88ca72a20c60cd377ea7eeae5d", func := "kreisel/kreisellaw10.GuestSeats", spec := "guestSeats", unfollowed := true, recurses := true, named := ["kreisel/scale.conditions"], apart := false, laid := [("kreisel/scale.conditions", laid_kreisel_scale_conditions)], narrowed := true }
def GuestSeatsUptoSaid : Prop := guestSeatsUptoRow.holds Tryz.pinned (OpenSpec.upto guestSeatsSpec)

end Rows
end Go.Proofs.YtihkmkocgmkcjaaGreatDoor
