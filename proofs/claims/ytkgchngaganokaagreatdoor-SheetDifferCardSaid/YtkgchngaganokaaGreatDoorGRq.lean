/-
  Several texts in one: see the heads of its parts.
-/
import Derived.Test.YtkgchngaganokaaGreatDoorGiK
import Derived.Test.YtkgchngaganokaaGreatDoorGcH
import Derived.Test.YtkgchngaganokaaGreatDoorJb
import Derived.Test.YtkgchngaganokaaGreatDoorCallsK

/-
  Walks of package guest: Index, Contains; right.
-/
namespace Go.Proofs.YtkgchngaganokaaGreatDoor
open Go.RowKit Kr
set_option linter.unusedSimpArgs false
set_option linter.unusedVariables false

theorem inAll_one (lo hi x : Int) : inAll lo hi [x] = inb lo hi x := by simp [inAll]

theorem run_extract_of {P : Program} {ρ : Operand → Value} {o : Oper} {W : World} {x : Operand} {i : Nat} {cs : Array Value} {v : Value} (hop : o.op = .extract x i) (hx : ρ x = .tuple cs) (hv : cs[i]? = some v) : (execOp ρ o).run P W = .ok (.value v) W := by
  unfold execOp
  simp only [hop, hx, Instr.extract, hv]
  rfl

/-- What is known of the operations of region 3: the answer of 'Judge', and its parts. -/
def JudgePh (ob : Nat) (err : Int) (c : Nat) (v : Value) : Prop :=
  (c = 1 → v = .pointer (some ⟨ob, 0, none⟩)) ∧ ((c = 8 ∨ c = 9) → ∃ vp u, v = .tuple #[vp, .int .u8 u, .int .i64 err]) ∧ (c = 12 → v = .int .i64 err)
end Go.Proofs.YtkgchngaganokaaGreatDoor

/-
  The walk of 'right': whether an outing is right.
-/
namespace Go.Proofs.YtkgchngaganokaaGreatDoor
open Go.RowKit Kr
set_option linter.unusedSimpArgs false
set_option linter.unusedVariables false

end Go.Proofs.YtkgchngaganokaaGreatDoor

/-
  The walk of 'right': whether an outing is right.
-/
namespace Go.Proofs.YtkgchngaganokaaGreatDoor
open Go.RowKit Kr
set_option linter.unusedSimpArgs false
set_option linter.unusedVariables false

end Go.Proofs.YtkgchngaganokaaGreatDoor
