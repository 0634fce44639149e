/-
  Several texts in one: see the heads of its parts.
-/
import Derived.Test.YtiidkbjckbkjgaaGreatDoorScFG

/-
  Walks of the reference of layer 4: Tunes, Reads.
-/
namespace Go.Proofs.YtiidkbjckbkjgaaGreatDoor
open Go.RowKit Kr

end Go.Proofs.YtiidkbjckbkjgaaGreatDoor

/-
  Walks of the reference of layer 4: a twin of a scale; whether tunes, bays are the same.
-/
namespace Go.Proofs.YtiidkbjckbkjgaaGreatDoor
open Go.RowKit Kr

end Go.Proofs.YtiidkbjckbkjgaaGreatDoor
