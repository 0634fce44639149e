/-
  Several texts in one: see the heads of its parts.
-/

import Derived.Test.YtcickafaomfbmaaGreatDoorZSJesIgK
import Derived.Test.YtcickafaomfbmaaGreatDoorZSJesJb
import Derived.Test.YtcickafaomfbmaaGreatDoorZSJesCallsK
import Derived.Test.YtcickafaomfbmaaGreatDoorZSJesSort
import Derived.Shelf.SlSortCmp.WholeK
import Derived.Shelf.SlGeneric
import Derived.Ground.SlsfProg
import Derived.Test.YtcickafaomfbmaaGreatDoorProg
import Derived.Test.YtcickafaomfbmaaGreatDoorZSJesSoT
import Derived.Test.YtcickafaomfbmaaGreatDoorZSJesJdk
import Derived.Shelf.SlSortCmp.NoneTotal
import Derived.Test.YtcickafaomfbmaaGreatDoorZSJesIsT
/-
  Walks of package ice: how thick ice has to be in an hour.
-/
namespace Go.Proofs.YtcickafaomfbmaaGreatDoor
open Go.RowKit Kr
set_option linter.unusedSimpArgs false
set_option linter.unusedVariables false

theorem index_lim0 (a b c d : Value) (W : World) : Sem.run Tryz.prog (Instr.index 216 (.agg #[a, b, c, d]) (.int .i64 0)) W = .ok (.agg #[a, b]) W := by kernel_rfl
theorem index_lim1 (a b c d : Value) (W : World) : Sem.run Tryz.prog (Instr.index 216 (.agg #[a, b, c, d]) (.int .i64 1)) W = .ok (.agg #[c, d]) W := by kernel_rfl
attribute [local go_sem] index_lim0 index_lim1
end Go.Proofs.YtcickafaomfbmaaGreatDoor

/-
  Walks: how lists of numbers compare, with nothing made; what is too thin, sorted: the library's slices.SortFunc over pairs.
-/
namespace Go.Proofs.YtcickafaomfbmaaGreatDoor
open Go.RowKit Go.Shelf Kr
set_option linter.unusedSimpArgs false
set_option linter.unusedVariables false

end Go.Proofs.YtcickafaomfbmaaGreatDoor

/-
  Walks of package ice: what is too thin: a range over the iterator in a loop.
-/
namespace Go
open Go.RowKit
end Go
namespace Go.Proofs.YtcickafaomfbmaaGreatDoor
open Go.RowKit Go.Shelf Kr
set_option linter.unusedSimpArgs false
set_option linter.unusedVariables false
attribute [local go_sem] Oper.semAt_some

end Go.Proofs.YtcickafaomfbmaaGreatDoor
