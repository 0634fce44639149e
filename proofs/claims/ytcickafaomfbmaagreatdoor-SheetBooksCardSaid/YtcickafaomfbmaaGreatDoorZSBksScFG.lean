/-
  Several texts in one: see the heads of its parts.
-/

import Derived.Test.YtcickafaomfbmaaGreatDoorZSBksBs
import Derived.Test.YtcickafaomfbmaaGreatDoorZSBksSa
import Derived.Test.YtcickafaomfbmaaGreatDoorZSBksFuncs
import Derived.Scope
import Derived.RangeFuncBox
import Derived.Maps.AppendAt
/-
  Walks of package scale: the iterator over a scale's tunes.
-/
namespace Go.Proofs.YtcickafaomfbmaaGreatDoor
open Go.RowKit Go.Shelf Kr

theorem cells_block {W : World} {B : Nat} {cs : List Value} {t : TypeId} (h : W.heap[B]? = some (.cells cs.toArray t (0, 0))) (i : Nat) (u : Value) (hu : cs[i]? = some u) : W.cell? ⟨B, i, none⟩ = some u := by
  simp [World.cell?, h, hu]
end Go.Proofs.YtcickafaomfbmaaGreatDoor

/-
  Walks of the reference of layer 4: the truths of a scale.
-/
namespace Go.Proofs.YtcickafaomfbmaaGreatDoor
open Go.RowKit Kr

end Go.Proofs.YtcickafaomfbmaaGreatDoor

/-
  Walks of package scale: Tunes, by slices.Collect over the iterator.
-/
namespace Go.Proofs.YtcickafaomfbmaaGreatDoor
open Go.RowKit Go.Shelf Kr

attribute [local go_sem] Oper.semAt_some

end Go.Proofs.YtcickafaomfbmaaGreatDoor
