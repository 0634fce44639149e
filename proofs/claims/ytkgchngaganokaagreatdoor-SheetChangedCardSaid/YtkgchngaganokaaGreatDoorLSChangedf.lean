/-
  The closed facts of the row of SheetChanged, reckoned by the kernel, one after the other.
-/
import Derived.Test.YtkgchngaganokaaGreatDoorRows
import Derived.JoinedOf
import Derived.KernelRfl
namespace Go.Proofs.YtkgchngaganokaaGreatDoor.lawSheetChanged

theorem fact0 : (Rows.sheetChangedRow.inPlace == (Tryz.prog).inPlace 3) = true := by kernel_rfl
theorem fact1 : (Rows.sheetChangedRow.unfollowed == (Tryz.prog).unfollowed 3) = true := by kernel_rfl
theorem fact2 : (Rows.sheetChangedRow.recurses == (Tryz.prog).recurses 3) = true := by kernel_rfl
theorem fact3 : (Rows.sheetChangedRow.named == (Tryz.prog).varsNamed 3) = true := by kernel_rfl
theorem facts : joinedFacts Tryz.prog 3 Tryz.f3 Rows.sheetChangedSpec Rows.sheetChangedRow = true := by
  unfold joinedFacts
  rw [fact0, fact1, fact2, fact3]
  kernel_rfl
end Go.Proofs.YtkgchngaganokaaGreatDoor.lawSheetChanged
