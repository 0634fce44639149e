/-
  Walks of package guest: refund.
-/
import Derived.Test.YtihkmkocgmkcjaaGreatDoorGf
namespace Go.Proofs.YtihkmkocgmkcjaaGreatDoor
open Go.RowKit Kr
set_option linter.unusedSimpArgs false

end Go.Proofs.YtihkmkocgmkcjaaGreatDoor
