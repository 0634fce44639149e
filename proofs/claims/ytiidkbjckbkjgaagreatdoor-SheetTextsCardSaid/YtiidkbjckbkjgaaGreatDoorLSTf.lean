/-
  The closed facts of the row of SheetTexts, reckoned by the kernel, one after the other.
-/
import Derived.Test.YtiidkbjckbkjgaaGreatDoorRows
import Derived.JoinedOf
import Derived.KernelRfl
namespace Go.Proofs.YtiidkbjckbkjgaaGreatDoor.lawSheetTexts

theorem fact0 : (Rows.sheetTextsRow.inPlace == (Tryz.prog).inPlace 3) = true := by kernel_rfl
theorem fact1 : (Rows.sheetTextsRow.unfollowed == (Tryz.prog).unfollowed 3) = true := by kernel_rfl
theorem fact2 : (Rows.sheetTextsRow.recurses == (Tryz.prog).recurses 3) = true := by kernel_rfl
theorem fact3 : (Rows.sheetTextsRow.named == (Tryz.prog).varsNamed 3) = true := by kernel_rfl
theorem facts : joinedFacts Tryz.prog 3 Tryz.f3 Rows.sheetTextsSpec Rows.sheetTextsRow = true := by
  unfold joinedFacts
  rw [fact0, fact1, fact2, fact3]
  kernel_rfl
end Go.Proofs.YtiidkbjckbkjgaaGreatDoor.lawSheetTexts
