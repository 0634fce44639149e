/-
  Several texts in one: see the heads of its parts.
-/
import Derived.Test.YtkgchngaganokaaGreatDoorIbR
import Derived.Test.YtkgchngaganokaaGreatDoorGiK
import Derived.WalkMore

/-
  Walks of the reference of tracks: Track, Check.
-/
namespace Go.Proofs.YtkgchngaganokaaGreatDoor
open Go.RowKit Kr
set_option linter.unusedSimpArgs false
set_option linter.unusedVariables false

end Go.Proofs.YtkgchngaganokaaGreatDoor

/-
  Walks of the reference of ice: Ice, Check.
-/
namespace Go.Proofs.YtkgchngaganokaaGreatDoor
open Go.RowKit Kr
set_option linter.unusedSimpArgs false
set_option linter.unusedVariables false

theorem all_at {α : Type} {f : α → Bool} {l : List α} {k : Nat} {x : α} (hx : l[k]? = some x) (h : ∀ j y, j < k → l[j]? = some y → f y = true) (h1 : f x = true) : ∀ j y, j < k + 1 → l[j]? = some y → f y = true := by
  intro j y hj hy
  rcases Nat.lt_or_ge j k with h2 | h2
  · exact h j y h2 hy
  · obtain rfl : j = k := by omega
    rw [hx] at hy
    exact Option.some.inj hy ▸ h1
theorem all_end {α : Type} {f : α → Bool} {l : List α} {k : Nat} (hk : l.length ≤ k) (h : ∀ j y, j < k → l[j]? = some y → f y = true) : l.all f = true := by
  rw [List.all_eq_true]
  intro x hx
  obtain ⟨j, hj, rfl⟩ := List.getElem_of_mem hx
  exact h j _ (by omega) (List.getElem?_eq_getElem hj)
theorem all_bad {α : Type} {f : α → Bool} {l : List α} {k : Nat} {x : α} (hx : l[k]? = some x) (h : f x = false) : l.all f = false := by
  rw [List.all_eq_false]
  exact ⟨x, List.mem_of_getElem? hx, by rw [h]; simp⟩

end Go.Proofs.YtkgchngaganokaaGreatDoor

/-
  Walks of the reference of ice: Valid.
-/
namespace Go.Proofs.YtkgchngaganokaaGreatDoor
open Go.RowKit Kr
set_option linter.unusedSimpArgs false
set_option linter.unusedVariables false

end Go.Proofs.YtkgchngaganokaaGreatDoor

/-
  Walks of package track: Check.
-/
namespace Go.Proofs.YtkgchngaganokaaGreatDoor
open Go.RowKit Kr
set_option linter.unusedSimpArgs false
set_option linter.unusedVariables false

theorem inAll_single (lo hi x : Int) : inAll lo hi [x] = inb lo hi x := by unfold inAll; simp
def lastId (t : List Kr.Stretch) (k : Nat) : Int := if k = 0 then -1 else (t.getD (k - 1) default).id
theorem lastId_succ {t : List Kr.Stretch} {k : Nat} {x : Kr.Stretch} (h : t[k]? = some x) : lastId t (k + 1) = x.id := by
  unfold lastId
  rw [if_neg (by omega), Nat.add_sub_cancel, getD_of h]
theorem last_in {t : List Kr.Stretch} {k : Nat} {x : Kr.Stretch} (hx : t[k]? = some x) (hA : ∀ j, j < k → strAt t j = true) :
    (inAll (lastId t k + 1) 9999 [x.id] = (inb 0 9999 x.id && (decide (k = 0) || decide ((t.getD (k - 1) default).id < x.id)))) ∧ -1 ≤ lastId t k ∧ lastId t k ≤ 9999 := by
  rcases Nat.eq_zero_or_pos k with h | h
  · subst h
    have h0 : lastId t 0 = -1 := rfl
    rw [h0]
    refine ⟨?_, by omega, by omega⟩
    simp [inAll]
  · have h1 := hA (k - 1) (by omega)
    unfold strAt at h1
    rw [Bool.and_eq_true] at h1
    have h2 := inb_iff'.1 h1.1
    unfold lastId
    rw [if_neg (by omega)]
    refine ⟨?_, by omega, by omega⟩
    rw [decide_eq_false (show ¬ k = 0 by omega), Bool.false_or, inAll_single, Bool.eq_iff_iff, Bool.and_eq_true, inb_iff', inb_iff', decide_eq_true_eq]
    omega

end Go.Proofs.YtkgchngaganokaaGreatDoor
