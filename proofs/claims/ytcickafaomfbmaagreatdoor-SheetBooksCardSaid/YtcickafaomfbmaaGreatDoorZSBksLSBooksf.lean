/-
  The closed facts of the row of SheetBooks, reckoned by the kernel, one after the other.
-/
import Derived.Test.YtcickafaomfbmaaGreatDoorRows
import Derived.JoinedOf
import Derived.KernelRfl
namespace Go.Proofs.YtcickafaomfbmaaGreatDoor.lawSheetBooks

theorem fact0 : (Rows.sheetBooksRow.inPlace == (Tryz.prog).inPlace 3) = true := by kernel_rfl
theorem fact1 : (Rows.sheetBooksRow.unfollowed == (Tryz.prog).unfollowed 3) = true := by kernel_rfl
theorem fact2 : (Rows.sheetBooksRow.recurses == (Tryz.prog).recurses 3) = true := by kernel_rfl
theorem fact3 : (Rows.sheetBooksRow.named == (Tryz.prog).varsNamed 3) = true := by kernel_rfl
theorem facts : joinedFacts Tryz.prog 3 Tryz.f3 Rows.sheetBooksSpec Rows.sheetBooksRow = true := by
  unfold joinedFacts
  rw [fact0, fact1, fact2, fact3]
  kernel_rfl
end Go.Proofs.YtcickafaomfbmaaGreatDoor.lawSheetBooks
