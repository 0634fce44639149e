/-
  Several texts in one: see the heads of its parts.
-/
import Derived.Test.YtkgchngaganokaaGreatDoorIcF
import Derived.Test.YtkgchngaganokaaGreatDoorTq
import Derived.BigRegion

/-
  Walks of package ice: Check, open, planned, asked.
-/
namespace Go.Proofs.YtkgchngaganokaaGreatDoor
open Go.RowKit Kr
set_option linter.unusedSimpArgs false
set_option linter.unusedVariables false

theorem any_not {α : Type} (f : α → Bool) (l : List α) : (l.any fun x => !f x) = !l.all f := by rw [List.all_eq_not_any_not]; simp

end Go.Proofs.YtkgchngaganokaaGreatDoor

/-
  Walks of package ice: planned, asked.
-/
namespace Go.Proofs.YtkgchngaganokaaGreatDoor
open Go.RowKit Kr
set_option linter.unusedSimpArgs false
set_option linter.unusedVariables false

end Go.Proofs.YtkgchngaganokaaGreatDoor

/-
  Walks of the reference of ice: loss.
-/
namespace Go.Proofs.YtkgchngaganokaaGreatDoor
open Go.RowKit Kr
set_option linter.unusedSimpArgs false
set_option linter.unusedVariables false

end Go.Proofs.YtkgchngaganokaaGreatDoor

/-
  Walks of the reference of ice: how thick ice is.
-/
namespace Go.Proofs.YtkgchngaganokaaGreatDoor
open Go.RowKit Kr
set_option linter.unusedSimpArgs false
set_option linter.unusedVariables false

theorem thickAt_succ (c : Kr.Cover) (plan : List (List Int)) (i k : Nat) : thickAt c plan i (k + 1) = Kr.stepT c.layer (lossAt c i k) (sprayed plan k i) (thickAt c plan i k) := rfl
theorem laysAs_frz {W : World} {b i : Nat} {cs : Array Value} {t : TypeId} (h : LaysAs W b (.cells cs t (0, 0))) : W.frozen? ⟨b, i, none⟩ = false := by unfold LaysAs at h; simp [World.frozen?, h]
theorem laysAs_put2 {W : World} {b : Nat} {u0 u1 v0 v1 : Value} {t : TypeId} (h : LaysAs W b (.cells [u0, u1].toArray t (0, 0))) : LaysAs ((W.setCell ⟨b, 0, none⟩ v0).setCell ⟨b, 1, none⟩ v1) b (.cells [v0, v1].toArray t (0, 0)) := by
  have h1 := LaysAs.set (cs := [u0, u1]) h (i := 0) v0
  exact LaysAs.set (cs := [v0, u1]) h1 (i := 1) v1

end Go.Proofs.YtkgchngaganokaaGreatDoor

/-
  Walks of package ice: loss.
-/
namespace Go.Proofs.YtkgchngaganokaaGreatDoor
open Go.RowKit Kr
set_option linter.unusedSimpArgs false
set_option linter.unusedVariables false

end Go.Proofs.YtkgchngaganokaaGreatDoor
