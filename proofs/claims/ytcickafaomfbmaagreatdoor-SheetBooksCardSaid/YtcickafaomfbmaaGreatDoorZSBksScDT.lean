/-
  Several texts in one: see the heads of its parts.
-/

import Derived.Test.YtcickafaomfbmaaGreatDoorZSBksBs
import Derived.Test.YtcickafaomfbmaaGreatDoorZSBksSa
import Derived.Test.YtcickafaomfbmaaGreatDoorZSBksFuncs
import Derived.Test.YtcickafaomfbmaaGreatDoorZSBksScFG
import Derived.Test.YtcickafaomfbmaaGreatDoorZSBksBt
import Derived.Deep.RegionHeld3
/-
  Walks of package scale: open.
-/
namespace Go.Proofs.YtcickafaomfbmaaGreatDoor
open Go.RowKit Go.Maps Kr

theorem law_int : Keyed Tryz.prog 3 := int_keyed Tryz.underlying3

end Go.Proofs.YtcickafaomfbmaaGreatDoor

/-
  Walks of package scale: fits, asked, Check.
-/
namespace Go.Proofs.YtcickafaomfbmaaGreatDoor
open Go.RowKit Go.Maps Kr

end Go.Proofs.YtcickafaomfbmaaGreatDoor

/-
  Walks of the reference of layer 4: twins of bays and gear; whether spans, gear, truths are the same.
-/
namespace Go.Proofs.YtcickafaomfbmaaGreatDoor
open Go.RowKit Kr

end Go.Proofs.YtcickafaomfbmaaGreatDoor
