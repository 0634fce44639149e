/-
  Walks of package guest and of its reference: in, within, Has.
-/
import Derived.Test.YtkgchngaganokaaGreatDoorGaI
import Derived.Test.YtkgchngaganokaaGreatDoorSa
namespace Go.Proofs.YtkgchngaganokaaGreatDoor
open Go.RowKit Kr
set_option linter.unusedSimpArgs false

theorem any_part {l : List Int} {k : Nat} {x n : Int} (h : l[k]? = some x) : ((l.take (k + 1)).any fun y => y == n) = ((l.take k).any (fun y => y == n) || x == n) := by
  rw [take_snoc h]; simp

end Go.Proofs.YtkgchngaganokaaGreatDoor
