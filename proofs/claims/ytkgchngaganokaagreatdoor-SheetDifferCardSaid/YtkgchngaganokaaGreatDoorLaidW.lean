/-
  What the row of SheetWritten lists.
-/
import Derived.Test.YtkgchngaganokaaGreatDoorYjT
namespace Go.Proofs.YtkgchngaganokaaGreatDoor
open Go.ChangeShapes Go.RowKit Kr
set_option linter.unusedVariables false
set_option linter.unusedSimpArgs false

/-- What the row lists. -/
def laidWritten : List (String × DataW Unit) := [("math/bits.deBruijn32tab", Rows.laid_math_bits_deBruijn32tab), ("math/bits.deBruijn64tab", Rows.laid_math_bits_deBruijn64tab), ("internal/strconv.uint64pow10", Rows.laid_internal_strconv_uint64pow10), ("unicode/utf8.acceptRanges", Rows.laid_unicode_utf8_acceptRanges), ("strconv.ErrRange", Rows.laid_strconv_ErrRange), ("strconv.ErrSyntax", Rows.laid_strconv_ErrSyntax), ("kreisel/kreiselref11.cols", Rows.laid_kreisel_kreiselref11_cols), ("unicode/utf8.first", Rows.laid_unicode_utf8_first)]
theorem plain_written {W : World} (h : laidMetH Tryz.prog laidWritten W) : laidMet Tryz.prog laidWritten W := by
  have h1 := (laidMetH_iff.1 h).1
  have e : (laidWritten.filter fun x => x.2.handleName?.isNone) = laidWritten := List.filter_eq_self.2 fun x hx => List.all_eq_true.1 (show (laidWritten.all fun x => x.2.handleName?.isNone) = true by kernel_rfl) x hx
  rw [e] at h1
  exact h1
theorem lib_of_laidW {W : World} (h0 : laidMetH Tryz.prog laidWritten W) (hsh : W.ShapedOpen Tryz.prog) : LibAt W :=
  have h := plain_written h0
  ⟨tab_of h (by simp [laidWritten]), most_of hsh, err_of h (n := "strconv.ErrSyntax") (g0 := 3) (d := .ptr (.agg [.lit (.string [105, 110, 118, 97, 108, 105, 100, 32, 115, 121, 110, 116, 97, 120])])) (by simp [laidWritten, Rows.laid_strconv_ErrSyntax]) (by kernel_rfl) (by kernel_rfl), err_of h (n := "strconv.ErrRange") (g0 := 4) (d := .ptr (.agg [.lit (.string [118, 97, 108, 117, 101, 32, 111, 117, 116, 32, 111, 102, 32, 114, 97, 110, 103, 101])])) (by simp [laidWritten, Rows.laid_strconv_ErrRange]) (by kernel_rfl) (by kernel_rfl)⟩
theorem cols_of_laidW {W : World} (h : laidMetH Tryz.prog laidWritten W) : ColsAt W := cols_of (plain_written h) (by simp [laidWritten])
theorem door_met4 (os : Os) (args : Array Value) : laidMetH Tryz.prog laidWritten ((pinnedWorld os).forCall (fun _ _ => 0) ⟨#[], args, []⟩).memory :=
  laidMetH_of_parts3 (fuel := 8) (laidMet_of_run' 8 (by kernel_rfl) (by kernel_rfl)) (by kernel_rfl) (by kernel_rfl)
end Go.Proofs.YtkgchngaganokaaGreatDoor
