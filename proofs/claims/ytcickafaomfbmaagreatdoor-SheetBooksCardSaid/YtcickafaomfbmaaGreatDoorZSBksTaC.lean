/-
  Several texts in one: see the heads of its parts.
-/

import Derived.Test.YtcickafaomfbmaaGreatDoorZSBksScFG
import Derived.Test.YtcickafaomfbmaaGreatDoorZSBksBt
import Derived.Test.YtcickafaomfbmaaGreatDoorZSBksScDT
import Derived.Test.YtcickafaomfbmaaGreatDoorZSBksPl
/-
  Walks of package scale: Reads: a range over the iterator.
-/
namespace Go.Proofs.YtcickafaomfbmaaGreatDoor
open Go.RowKit Go.Shelf Kr

attribute [local go_sem] Oper.semAt_some

theorem block_frozen {W : World} {B i : Nat} {cs : Array Value} {t : TypeId} (h : W.heap[B]? = some (.cells cs t (0, 0))) : W.frozen? ⟨B, i, none⟩ = false := by simp [World.frozen?, h]
def Obj.upd (i : Nat) (v : Value) : Obj → Obj
  | .cells c e f => .cells (c.setIfInBounds i v) e f
  | ob => ob
theorem KeepsOthers.of_exts {W W' : World} (h : W.Exts W') : KeepsOthers W W' := ⟨h.size, fun _ _ hk _ => (h.below.block _ (Array.getElem?_eq_some_iff.1 hk).1).trans hk⟩
end Go.Proofs.YtcickafaomfbmaaGreatDoor

/-
  Walks of package scale and of its reference: the weights for which a scale shows a number.
-/
namespace Go.Proofs.YtcickafaomfbmaaGreatDoor
open Go.RowKit Kr

end Go.Proofs.YtcickafaomfbmaaGreatDoor

/-
  Walks of the reference of layer 4: all truths of a scale with loads.
-/
namespace Go.Proofs.YtcickafaomfbmaaGreatDoor
open Go.RowKit Kr

end Go.Proofs.YtcickafaomfbmaaGreatDoor
