/-
  The closed facts of the row of SheetLost, reckoned by the kernel, one after the other.
-/
import Derived.Test.YtkgchngaganokaaGreatDoorRows
import Derived.JoinedOf
import Derived.KernelRfl
namespace Go.Proofs.YtkgchngaganokaaGreatDoor.lawSheetLost

theorem fact0 : (Rows.sheetLostRow.inPlace == (Tryz.prog).inPlace 5) = true := by kernel_rfl
theorem fact1 : (Rows.sheetLostRow.unfollowed == (Tryz.prog).unfollowed 5) = true := by kernel_rfl
theorem fact2 : (Rows.sheetLostRow.recurses == (Tryz.prog).recurses 5) = true := by kernel_rfl
theorem fact3 : (Rows.sheetLostRow.named == (Tryz.prog).varsNamed 5) = true := by kernel_rfl
theorem facts : joinedFacts Tryz.prog 5 Tryz.f5 Rows.sheetLostSpec Rows.sheetLostRow = true := by
  unfold joinedFacts
  rw [fact0, fact1, fact2, fact3]
  kernel_rfl
end Go.Proofs.YtkgchngaganokaaGreatDoor.lawSheetLost
