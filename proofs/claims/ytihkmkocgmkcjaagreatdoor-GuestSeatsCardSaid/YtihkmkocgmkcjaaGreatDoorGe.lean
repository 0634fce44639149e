/-
  Walks of the reference of guests: refund.
-/
import Derived.Test.YtihkmkocgmkcjaaGreatDoorGd
namespace Go.Proofs.YtihkmkocgmkcjaaGreatDoor
open Go.RowKit Kr
set_option linter.unusedSimpArgs false

/-- The refund of a price for some days. -/
def refundOf (rs : List Kr.Rfd) (price days : Int) : Int := match rs.find? (fun r => decide (r.days ≤ days)) with | some r => price * r.part / 100 | none => 0
theorem find_take {rs : List Kr.Rfd} {days : Int} {k : Nat} {r : Kr.Rfd} (h : rs[k]? = some r) (hno : ∀ y ∈ rs.take k, days < y.days) (hr : r.days ≤ days) : rs.find? (fun r => decide (r.days ≤ days)) = some r := by
  rw [List.find?_eq_some_iff_append]
  obtain ⟨h1, h2⟩ := List.getElem?_eq_some_iff.1 h
  refine ⟨by simpa using hr, rs.take k, rs.drop (k + 1), ?_, fun y hy => by have := hno y hy; simp; omega⟩
  conv => lhs; rw [← List.take_append_drop k rs]
  rw [List.drop_eq_getElem_cons h1, h2]

end Go.Proofs.YtihkmkocgmkcjaaGreatDoor
