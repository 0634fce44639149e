/-
  Several texts in one: see the heads of its parts.
-/

import Derived.Test.YtcickafaomfbmaaGreatDoorZSJesTaC
import Derived.RangeFuncNested
import Derived.Test.YtcickafaomfbmaaGreatDoorZSJesIgK
import Derived.Test.YtcickafaomfbmaaGreatDoorZSJesGiK
import Derived.Test.YtcickafaomfbmaaGreatDoorZSJesGaI
import Derived.Test.YtcickafaomfbmaaGreatDoorZSJesSa
import Derived.Deep.DeepCutAuto
import Derived.Test.YtcickafaomfbmaaGreatDoorZSJesJb
import Derived.Test.YtcickafaomfbmaaGreatDoorZSJesCallsK
import Derived.BigRegion
import Derived.Shelf.RegionOpen
/-
  Walks of package ice: the iterator over how thick a stretch is.
-/
namespace Go.Proofs.YtcickafaomfbmaaGreatDoor
open Go.RowKit Go.Shelf Kr
set_option linter.unusedSimpArgs false
set_option linter.unusedVariables false

theorem grownBy_put (W : World) (b i : Nat) (v : Value) : W.grownBy (W.setCell ⟨b, i, none⟩ v) (some b) :=
  ⟨rfl, rfl, rfl, by simp, fun k _ hk => World.heap_set_other _ _ _ (fun e => hk (by rw [e]))⟩
attribute [local go_sem] Oper.semAt_some
end Go.Proofs.YtcickafaomfbmaaGreatDoor

/-
  Walks of package ice: Thick: a range over the iterator that is left by a break.
-/
namespace Go.Proofs.YtcickafaomfbmaaGreatDoor
open Go.RowKit Go.Shelf Kr
set_option linter.unusedSimpArgs false
set_option linter.unusedVariables false

attribute [local go_sem] Oper.semAt_some

end Go.Proofs.YtcickafaomfbmaaGreatDoor
