/-
  The closed facts of the row of SheetJudges, reckoned by the kernel, one after the other.
-/
import Derived.Test.YtcickafaomfbmaaGreatDoorRows
import Derived.JoinedOf
import Derived.KernelRfl
namespace Go.Proofs.YtcickafaomfbmaaGreatDoor.lawSheetJudges

theorem fact0 : (Rows.sheetJudgesRow.inPlace == (Tryz.prog).inPlace 4) = true := by kernel_rfl
theorem fact1 : (Rows.sheetJudgesRow.unfollowed == (Tryz.prog).unfollowed 4) = true := by kernel_rfl
theorem fact2 : (Rows.sheetJudgesRow.recurses == (Tryz.prog).recurses 4) = true := by kernel_rfl
theorem fact3 : (Rows.sheetJudgesRow.named == (Tryz.prog).varsNamed 4) = true := by kernel_rfl
theorem facts : joinedFacts Tryz.prog 4 Tryz.f4 Rows.sheetJudgesSpec Rows.sheetJudgesRow = true := by
  unfold joinedFacts
  rw [fact0, fact1, fact2, fact3]
  kernel_rfl
end Go.Proofs.YtcickafaomfbmaaGreatDoor.lawSheetJudges
