/-
  'ready': a bay and gear are not great, and valid.
-/
import Derived.Test.YtcickafaomfbmaaGreatDoorZSJesTm
import Derived.Test.YtcickafaomfbmaaGreatDoorZSJesScFG
namespace Go.Proofs.YtcickafaomfbmaaGreatDoor
open Go.RowKit Kr
set_option linter.unusedSimpArgs false

theorem great_not {ts : List (Kr.Scale × Value)} {g : Gear} (h : great ts g = false) : ts.length ≤ 8 ∧ (∀ x ∈ ts, x.1.trials.length ≤ 10) ∧ g.loads.length ≤ 10 ∧ g.runners.length ≤ 12 ∧ g.strokes.length ≤ 12 := by
  simp [great] at h
  obtain ⟨⟨⟨⟨h1, h2⟩, h3⟩, h4⟩, h5⟩ := h
  exact ⟨by omega, fun x hx => h5 x.1 x.2 hx, by omega, by omega, by omega⟩

end Go.Proofs.YtcickafaomfbmaaGreatDoor
