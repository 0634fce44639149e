/-
  Walks of package guest: an office's refund.
-/
import Derived.Test.YtihkmkocgmkcjaaGreatDoorGg
import Derived.Deep.DeepCutAuto
namespace Go.Proofs.YtihkmkocgmkcjaaGreatDoor
open Go.RowKit Kr
set_option linter.unusedSimpArgs false

end Go.Proofs.YtihkmkocgmkcjaaGreatDoor
