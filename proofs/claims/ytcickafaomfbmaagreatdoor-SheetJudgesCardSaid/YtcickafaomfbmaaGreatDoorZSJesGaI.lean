/-
  Several texts in one: see the heads of its parts.
-/

import Derived.Test.YtcickafaomfbmaaGreatDoorZSJesPl
/-
  Books of guests: plain data, what is owed and held. Plain laws.
-/
namespace Kr

/-- How often a number stands in a list, as a whole number. -/
def cnt (i : Int) (l : List Int) : Int := (l.count i : Int)
/-- Gear that has nothing. -/
def noGear : Gear := ⟨[], 0, 0, 0, [], [], 0, false⟩
theorem used_none (b : List Scale) : used b [] = [] := by
  unfold used usedB
  rw [List.filter_eq_nil_iff]
  intro s _
  simp
theorem totals_none (b : List Scale) : totals b noGear ≠ [] := by
  unfold totals noGear
  dsimp only
  rw [used_none]
  simp [totalsL]
/-- Whether a norm is right, as 'Judge' of gear that has nothing tells it. -/
theorem judge_none {b : List Scale} (hb : bayOk b = true) (n : Norm) : (judgeR b noGear n).2 = if normB n then 0 else 42 := by
  have hg : gearOk b noGear = true := by
    have h : bare noGear = true := by decide
    unfold gearOk
    rw [h]
    rfl
  have hc : check b noGear = 0 := by unfold check; rw [if_pos hb, if_pos hg]
  have hh : (hard noGear).2 = 0 := by decide
  unfold judgeR
  rw [if_neg (by rw [hc]; simp), if_neg (totals_none b)]
  cases hn : normB n
  · simp
  · simp [hh]
end Kr

/-
  Books: whether they are right. Plain laws.
-/
namespace Kr
set_option linter.unusedVariables false
set_option linter.unusedSimpArgs false

theorem getD_of {α : Type} {l : List α} {k : Nat} {x d : α} (h : l[k]? = some x) : l.getD k d = x := by rw [List.getD_eq_getElem?_getD, h]; rfl

end Kr

/-
  Covers of ice: plain data, what is valid, how thick ice is, the rows of an ice book. Plain laws.
-/
namespace Kr
set_option linter.unusedSimpArgs false
set_option linter.unusedVariables false

structure Stretch where
  id : Int
  long : Span
  fall : Span
  radius : Span
  side : Int
  wall : Int
  deriving DecidableEq, Inhabited
end Kr
