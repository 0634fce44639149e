/-
  The closed facts of the row of SheetKept, reckoned by the kernel, one after the other.
-/
import Derived.Test.YtilmniopollbiaaGreatDoorRows
import Derived.JoinedOf
import Derived.KernelRfl
namespace Go.Proofs.YtilmniopollbiaaGreatDoor.lawSheetKept

theorem fact0 : (Rows.sheetKeptRow.inPlace == (Tryz.prog).inPlace 3) = true := by kernel_rfl
theorem fact1 : (Rows.sheetKeptRow.unfollowed == (Tryz.prog).unfollowed 3) = true := by kernel_rfl
theorem fact2 : (Rows.sheetKeptRow.recurses == (Tryz.prog).recurses 3) = true := by kernel_rfl
theorem fact3 : (Rows.sheetKeptRow.named == (Tryz.prog).varsNamed 3) = true := by kernel_rfl
theorem facts : joinedFacts Tryz.prog 3 Tryz.f3 Rows.sheetKeptSpec Rows.sheetKeptRow = true := by
  unfold joinedFacts
  rw [fact0, fact1, fact2, fact3]
  kernel_rfl
end Go.Proofs.YtilmniopollbiaaGreatDoor.lawSheetKept
