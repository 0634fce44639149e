/-
  Several texts in one: see the heads of its parts.
-/

import Derived.Test.YtcickafaomfbmaaGreatDoorZSBksVnP
import Derived.Test.YtcickafaomfbmaaGreatDoorZSBksIuQ
import Derived.Test.YtcickafaomfbmaaGreatDoorZSBksSa
import Derived.Test.YtcickafaomfbmaaGreatDoorZSBksBt
/-
  Walks of the reference of sheets: the numbers of a row.
-/
namespace Go.Proofs.YtcickafaomfbmaaGreatDoor
open Go.RowKit Kr
set_option linter.unusedSimpArgs false
set_option linter.unusedVariables false

end Go.Proofs.YtcickafaomfbmaaGreatDoor

/-
  Walks of the reference of sheets: what is read.
-/
namespace Kr
end Kr
namespace Go.Proofs.YtcickafaomfbmaaGreatDoor
open Go.RowKit Kr
set_option linter.unusedSimpArgs false
set_option linter.unusedVariables false
def ReadIs (w : World) (R : (Int × List (List Int)) × Int × Int) (e : Ending) (w' : World) : Prop :=
  w.Exts w' ∧ ∃ v ps, e = .returned (.tuple #[.agg #[.int .u8 R.1.1, v], .int .i64 R.2.1, .int .i64 R.2.2]) ∧ ListsAt w' v ps ∧ ps.map Prod.fst = R.1.2
theorem ReadIs.none {w w' : World} {R : (Int × List (List Int)) × Int × Int} {n e : Int} (h : R = ((0, []), n, e)) (hE : w.Exts w') : ReadIs w R (.returned (.tuple #[.agg #[.int .u8 0, .slice none 0 0], .int .i64 n, .int .i64 e])) w' := by
  subst h
  exact ⟨hE, _, [], rfl, lists_none _, rfl⟩

end Go.Proofs.YtcickafaomfbmaaGreatDoor
