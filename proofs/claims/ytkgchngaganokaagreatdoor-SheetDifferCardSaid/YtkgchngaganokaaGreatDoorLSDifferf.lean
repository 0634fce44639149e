/-
  The closed facts of the row of SheetDiffer, reckoned by the kernel, one after the other.
-/
import Derived.Test.YtkgchngaganokaaGreatDoorRows
import Derived.JoinedOf
import Derived.KernelRfl
namespace Go.Proofs.YtkgchngaganokaaGreatDoor.lawSheetDiffer

theorem fact0 : (Rows.sheetDifferRow.inPlace == (Tryz.prog).inPlace 8) = true := by kernel_rfl
theorem fact1 : (Rows.sheetDifferRow.unfollowed == (Tryz.prog).unfollowed 8) = true := by kernel_rfl
theorem fact2 : (Rows.sheetDifferRow.recurses == (Tryz.prog).recurses 8) = true := by kernel_rfl
theorem fact3 : (Rows.sheetDifferRow.named == (Tryz.prog).varsNamed 8) = true := by kernel_rfl
theorem facts : joinedFacts Tryz.prog 8 Tryz.f8 Rows.sheetDifferSpec Rows.sheetDifferRow = true := by
  unfold joinedFacts
  rw [fact0, fact1, fact2, fact3]
  kernel_rfl
end Go.Proofs.YtkgchngaganokaaGreatDoor.lawSheetDiffer
