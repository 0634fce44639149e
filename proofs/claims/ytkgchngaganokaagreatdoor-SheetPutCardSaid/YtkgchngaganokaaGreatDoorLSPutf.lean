/-
  The closed facts of the row of SheetPut, reckoned by the kernel, one after the other.
-/
import Derived.Test.YtkgchngaganokaaGreatDoorRows
import Derived.JoinedOf
import Derived.KernelRfl
namespace Go.Proofs.YtkgchngaganokaaGreatDoor.lawSheetPut

theorem fact0 : (Rows.sheetPutRow.inPlace == (Tryz.prog).inPlace 6) = true := by kernel_rfl
theorem fact1 : (Rows.sheetPutRow.unfollowed == (Tryz.prog).unfollowed 6) = true := by kernel_rfl
theorem fact2 : (Rows.sheetPutRow.recurses == (Tryz.prog).recurses 6) = true := by kernel_rfl
theorem fact3 : (Rows.sheetPutRow.named == (Tryz.prog).varsNamed 6) = true := by kernel_rfl
theorem facts : joinedFacts Tryz.prog 6 Tryz.f6 Rows.sheetPutSpec Rows.sheetPutRow = true := by
  unfold joinedFacts
  rw [fact0, fact1, fact2, fact3]
  kernel_rfl
end Go.Proofs.YtkgchngaganokaaGreatDoor.lawSheetPut
