/-
  Several texts in one: see the heads of its parts.
-/
import Derived.Test.YtkgchngaganokaaGreatDoorScFG

/-
  Walks of the reference of layer 4: Tunes, Reads.
-/
namespace Go.Proofs.YtkgchngaganokaaGreatDoor
open Go.RowKit Kr

end Go.Proofs.YtkgchngaganokaaGreatDoor

/-
  Walks of the reference of layer 4: a twin of a scale; whether tunes, bays are the same.
-/
namespace Go.Proofs.YtkgchngaganokaaGreatDoor
open Go.RowKit Kr

end Go.Proofs.YtkgchngaganokaaGreatDoor
