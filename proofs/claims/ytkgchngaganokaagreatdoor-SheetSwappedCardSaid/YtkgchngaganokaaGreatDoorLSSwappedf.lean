/-
  The closed facts of the row of SheetSwapped, reckoned by the kernel, one after the other.
-/
import Derived.Test.YtkgchngaganokaaGreatDoorRows
import Derived.JoinedOf
import Derived.KernelRfl
namespace Go.Proofs.YtkgchngaganokaaGreatDoor.lawSheetSwapped

theorem fact0 : (Rows.sheetSwappedRow.inPlace == (Tryz.prog).inPlace 4) = true := by kernel_rfl
theorem fact1 : (Rows.sheetSwappedRow.unfollowed == (Tryz.prog).unfollowed 4) = true := by kernel_rfl
theorem fact2 : (Rows.sheetSwappedRow.recurses == (Tryz.prog).recurses 4) = true := by kernel_rfl
theorem fact3 : (Rows.sheetSwappedRow.named == (Tryz.prog).varsNamed 4) = true := by kernel_rfl
theorem facts : joinedFacts Tryz.prog 4 Tryz.f4 Rows.sheetSwappedSpec Rows.sheetSwappedRow = true := by
  unfold joinedFacts
  rw [fact0, fact1, fact2, fact3]
  kernel_rfl
end Go.Proofs.YtkgchngaganokaaGreatDoor.lawSheetSwapped
