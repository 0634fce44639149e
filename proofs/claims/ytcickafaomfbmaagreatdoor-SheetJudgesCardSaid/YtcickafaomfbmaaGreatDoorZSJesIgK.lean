/-
  Several texts in one: see the heads of its parts.
-/

import Derived.Test.YtcickafaomfbmaaGreatDoorZSJesIcF
import Derived.Test.YtcickafaomfbmaaGreatDoorZSJesTq
import Derived.BigRegion
/-
  Walks of package ice: Check, open, planned, asked.
-/
namespace Go.Proofs.YtcickafaomfbmaaGreatDoor
open Go.RowKit Kr
set_option linter.unusedSimpArgs false
set_option linter.unusedVariables false

end Go.Proofs.YtcickafaomfbmaaGreatDoor

/-
  Walks of package ice: planned, asked.
-/
namespace Go.Proofs.YtcickafaomfbmaaGreatDoor
open Go.RowKit Kr
set_option linter.unusedSimpArgs false
set_option linter.unusedVariables false

end Go.Proofs.YtcickafaomfbmaaGreatDoor

/-
  Walks of the reference of ice: loss.
-/
namespace Go.Proofs.YtcickafaomfbmaaGreatDoor
open Go.RowKit Kr
set_option linter.unusedSimpArgs false
set_option linter.unusedVariables false

end Go.Proofs.YtcickafaomfbmaaGreatDoor

/-
  Walks of the reference of ice: how thick ice is.
-/
namespace Go.Proofs.YtcickafaomfbmaaGreatDoor
open Go.RowKit Kr
set_option linter.unusedSimpArgs false
set_option linter.unusedVariables false

theorem laysAs_frz {W : World} {b i : Nat} {cs : Array Value} {t : TypeId} (h : LaysAs W b (.cells cs t (0, 0))) : W.frozen? ⟨b, i, none⟩ = false := by unfold LaysAs at h; simp [World.frozen?, h]
end Go.Proofs.YtcickafaomfbmaaGreatDoor

/-
  Walks of package ice: loss.
-/
namespace Go.Proofs.YtcickafaomfbmaaGreatDoor
open Go.RowKit Kr
set_option linter.unusedSimpArgs false
set_option linter.unusedVariables false

end Go.Proofs.YtcickafaomfbmaaGreatDoor
