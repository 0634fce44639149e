/-
  The closed facts of the row of SheetWritten, reckoned by the kernel, one after the other.
-/
import Derived.Test.YtiidkbjckbkjgaaGreatDoorRows
import Derived.JoinedOf
import Derived.KernelRfl
namespace Go.Proofs.YtiidkbjckbkjgaaGreatDoor.lawSheetWritten

theorem fact0 : (Rows.sheetWrittenRow.inPlace == (Tryz.prog).inPlace 4) = true := by kernel_rfl
theorem fact1 : (Rows.sheetWrittenRow.unfollowed == (Tryz.prog).unfollowed 4) = true := by kernel_rfl
theorem fact2 : (Rows.sheetWrittenRow.recurses == (Tryz.prog).recurses 4) = true := by kernel_rfl
theorem fact3 : (Rows.sheetWrittenRow.named == (Tryz.prog).varsNamed 4) = true := by kernel_rfl
theorem facts : joinedFacts Tryz.prog 4 Tryz.f4 Rows.sheetWrittenSpec Rows.sheetWrittenRow = true := by
  unfold joinedFacts
  rw [fact0, fact1, fact2, fact3]
  kernel_rfl
end Go.Proofs.YtiidkbjckbkjgaaGreatDoor.lawSheetWritten
