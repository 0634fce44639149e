/-
  The closed facts of the row of SheetCut, reckoned by the kernel, one after the other.
-/
import Derived.Test.YtkgchngaganokaaGreatDoorRows
import Derived.JoinedOf
import Derived.KernelRfl
namespace Go.Proofs.YtkgchngaganokaaGreatDoor.lawSheetCut

theorem fact0 : (Rows.sheetCutRow.inPlace == (Tryz.prog).inPlace 7) = true := by kernel_rfl
theorem fact1 : (Rows.sheetCutRow.unfollowed == (Tryz.prog).unfollowed 7) = true := by kernel_rfl
theorem fact2 : (Rows.sheetCutRow.recurses == (Tryz.prog).recurses 7) = true := by kernel_rfl
theorem fact3 : (Rows.sheetCutRow.named == (Tryz.prog).varsNamed 7) = true := by kernel_rfl
theorem facts : joinedFacts Tryz.prog 7 Tryz.f7 Rows.sheetCutSpec Rows.sheetCutRow = true := by
  unfold joinedFacts
  rw [fact0, fact1, fact2, fact3]
  kernel_rfl
end Go.Proofs.YtkgchngaganokaaGreatDoor.lawSheetCut
