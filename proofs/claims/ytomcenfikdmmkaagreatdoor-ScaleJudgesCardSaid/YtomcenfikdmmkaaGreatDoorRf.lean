/-
  Walks of the reference of layer 4: Tunes, Reads.
-/
import Derived.Test.YtomcenfikdmmkaaGreatDoorRe
namespace Go.Proofs.YtomcenfikdmmkaaGreatDoor
open Go.RowKit Kr

end Go.Proofs.YtomcenfikdmmkaaGreatDoor
