/-
  Several texts in one: see the heads of its parts.
-/
import Derived.Test.YtiidkbjckbkjgaaGreatDoorTp
import Derived.Test.YtiidkbjckbkjgaaGreatDoorSoT

/-
  Walks of package scale and of its reference: Totals, in whole.
-/
namespace Go.Proofs.YtiidkbjckbkjgaaGreatDoor
open Go.RowKit Kr
set_option linter.unusedSimpArgs false

structure AskOk (b : List Scale) (g : Gear) : Prop where
  few : b.length ≤ 4
  rt : ∀ s ∈ b, right s = true
  l6 : g.loads.length ≤ 6
  sh : ∀ s ∈ b, ∀ l ∈ g.loads, l.scale = s.id → -2000000 ≤ l.shown ∧ l.shown ≤ 2000000
  ad : 0 ≤ g.added ∧ g.added ≤ 1000000
theorem check_ok {b : List Scale} {g : Gear} (h1 : bayOk b = true) (h2 : gearOk b g = true) : AskOk b g := by
  have h3 := h2
  simp only [gearOk, Bool.and_eq_true, decide_eq_true_eq, List.all_eq_true] at h3
  have h4 := h1
  simp only [bayOk, Bool.and_eq_true, decide_eq_true_eq] at h4
  refine ⟨h4.2, bayFrom_right h4.1, h3.1.2, fun s _ l hl _ => ?_, (bare_bounds h3.2).1⟩
  have h5 := h3.1.1 l hl
  unfold loadOk at h5
  split at h5
  · simp [shownB, inb] at h5; omega
  · cases h5
theorem check_zero {b : List Scale} {g : Gear} (h : check b g = 0) : bayOk b = true ∧ gearOk b g = true := by
  unfold check at h
  cases h1 : bayOk b <;> rw [h1] at h
  · simp at h
  · cases h2 : gearOk b g <;> rw [h2] at h
    · simp at h
    · exact ⟨rfl, rfl⟩
theorem check_three (b : List Scale) (g : Gear) : check b g = 0 ∨ check b g = 41 ∨ check b g = 40 := by
  unfold check
  cases bayOk b
  · simp
  · cases gearOk b g <;> simp
def totalsR (b : List Scale) (g : Gear) : List Span × Int := if check b g = 0 then (if (totals b g).length = 0 then ([], 6) else (totals b g, 0)) else ([], check b g)

end Go.Proofs.YtiidkbjckbkjgaaGreatDoor

/-
  Walks of the reference: Truth, and what it asks.
-/
namespace Go.Proofs.YtiidkbjckbkjgaaGreatDoor
open Go.RowKit Kr
set_option linter.unusedSimpArgs false

theorem touches_part {l : List Span} {k : Nat} {x : Span} (hx : l[k]? = some x) (lo hi : Int) : touches (l.take (k + 1)) lo hi = (touches (l.take k) lo hi || (decide (x.lo ≤ hi) && decide (lo ≤ x.hi))) := by
  unfold touches; rw [take_snoc hx, List.any_append]; simp
theorem touches_hit {l : List Span} {k : Nat} {x : Span} (hx : l[k]? = some x) {lo hi : Int} (h1 : x.lo ≤ hi) (h2 : lo ≤ x.hi) : touches l lo hi = true := by
  unfold touches; rw [List.any_eq_true]; exact ⟨x, List.mem_of_getElem? hx, by simp [h1, h2]⟩

end Go.Proofs.YtiidkbjckbkjgaaGreatDoor
