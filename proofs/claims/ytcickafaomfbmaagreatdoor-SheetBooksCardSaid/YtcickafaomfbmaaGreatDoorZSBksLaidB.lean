/-
  What the row of SheetBooks lists.
-/
import Derived.Test.YtcickafaomfbmaaGreatDoorZSBksYjT
import Derived.Test.YtcickafaomfbmaaGreatDoorZSBksLdI
namespace Go.Proofs.YtcickafaomfbmaaGreatDoor
open Go.ChangeShapes Go.RowKit Kr
set_option linter.unusedVariables false
set_option linter.unusedSimpArgs false

/-- What the row lists. -/
def laidBooks : List (String × DataW Unit) := [("math/bits.deBruijn32tab", Rows.laid_math_bits_deBruijn32tab), ("math/bits.deBruijn64tab", Rows.laid_math_bits_deBruijn64tab), ("internal/strconv.uint64pow10", Rows.laid_internal_strconv_uint64pow10), ("unicode/utf8.acceptRanges", Rows.laid_unicode_utf8_acceptRanges), ("strconv.ErrRange", Rows.laid_strconv_ErrRange), ("strconv.ErrSyntax", Rows.laid_strconv_ErrSyntax), ("kreisel/ice.limits", Rows.laid_kreisel_ice_limits), ("unicode/utf8.first", Rows.laid_unicode_utf8_first)]
/-- The listed ones that are no tables of functions. -/
def laidBooksP : List (String × DataW Unit) := [("math/bits.deBruijn32tab", Rows.laid_math_bits_deBruijn32tab), ("math/bits.deBruijn64tab", Rows.laid_math_bits_deBruijn64tab), ("internal/strconv.uint64pow10", Rows.laid_internal_strconv_uint64pow10), ("unicode/utf8.acceptRanges", Rows.laid_unicode_utf8_acceptRanges), ("strconv.ErrRange", Rows.laid_strconv_ErrRange), ("strconv.ErrSyntax", Rows.laid_strconv_ErrSyntax), ("unicode/utf8.first", Rows.laid_unicode_utf8_first)]
theorem plain_laidBooks {W : World} (h : laidMetH Tryz.prog laidBooks W) : laidMet Tryz.prog laidBooksP W := by
  have h1 := (laidMetH_iff.1 h).1
  have e : (laidBooks.filter fun x => x.2.handleName?.isNone) = laidBooksP := rfl
  rw [e] at h1
  exact h1
theorem lib_of_laidBooks {W : World} (h0 : laidMetH Tryz.prog laidBooks W) (hsh : W.ShapedOpen Tryz.prog) : LibAt W :=
  have h := plain_laidBooks h0
  ⟨tab_of h (by simp [laidBooksP]), most_of hsh, err_of h (n := "strconv.ErrSyntax") (g0 := 4) (d := .ptr (.agg [.lit (.string [105, 110, 118, 97, 108, 105, 100, 32, 115, 121, 110, 116, 97, 120])])) (by simp [laidBooksP, Rows.laid_strconv_ErrSyntax]) (by kernel_rfl) (by kernel_rfl), err_of h (n := "strconv.ErrRange") (g0 := 5) (d := .ptr (.agg [.lit (.string [118, 97, 108, 117, 101, 32, 111, 117, 116, 32, 111, 102, 32, 114, 97, 110, 103, 101])])) (by simp [laidBooksP, Rows.laid_strconv_ErrRange]) (by kernel_rfl) (by kernel_rfl)⟩
theorem lims_of_laidB {W : World} (h : laidMetH Tryz.prog laidBooks W) : LimsAt W := lims_of_laidM (by simp [laidBooks]) h
theorem door_met7 (os : Os) (args : Array Value) : laidMetH Tryz.prog laidBooks ((pinnedWorld os).forCall (fun _ _ => 0) ⟨#[], args, []⟩).memory :=
  laidMetH_of_parts3 (fuel := 8) (laidMet_of_run' 8 (by kernel_rfl) (by kernel_rfl)) (by kernel_rfl) (by kernel_rfl)
end Go.Proofs.YtcickafaomfbmaaGreatDoor
