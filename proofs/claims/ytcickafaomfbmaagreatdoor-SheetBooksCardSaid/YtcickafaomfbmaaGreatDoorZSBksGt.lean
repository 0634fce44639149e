/-
  Deals in books: what one does, and how money goes. Plain laws.
-/
import Derived.Test.YtcickafaomfbmaaGreatDoorZSBksGaI
namespace Kr
set_option linter.unusedVariables false
set_option linter.unusedSimpArgs false

/-! ### Money -/
/-! ### Guests in order -/
theorem up_iff (l : List Int) : allN (upAt l) (l.length - 1) = true ↔ l.Pairwise (· < ·) := by
  constructor
  · intro h
    have hs : ∀ i d, i + d + 1 < l.length → l.getD i 0 < l.getD (i + d + 1) 0 := by
      intro i d
      induction d with
      | zero =>
        intro hd
        have h2 := allN_iff.1 h i (by omega)
        unfold upAt at h2
        exact of_decide_eq_true h2
      | succ d ih =>
        intro hd
        have h2 := allN_iff.1 h (i + d + 1) (by omega)
        unfold upAt at h2
        have h4 := of_decide_eq_true h2
        have h5 := ih (by omega)
        rw [show i + (d + 1) + 1 = i + d + 1 + 1 by omega]
        omega
    rw [List.pairwise_iff_getElem]
    intro i j hi hj hij
    have h2 := hs i (j - i - 1) (by omega)
    rw [show i + (j - i - 1) + 1 = j by omega, getD_of (List.getElem?_eq_getElem hi), getD_of (List.getElem?_eq_getElem hj)] at h2
    exact h2
  · intro h
    rw [List.pairwise_iff_getElem] at h
    refine allN_iff.2 fun j hj => ?_
    unfold upAt
    rw [getD_of (List.getElem?_eq_getElem (show j < l.length by omega)), getD_of (List.getElem?_eq_getElem (show j + 1 < l.length by omega))]
    exact decide_eq_true (h j (j + 1) (by omega) (by omega) (by omega))
theorem up_nodup {l : List Int} (h : l.Pairwise (· < ·)) : l.Nodup := h.imp fun hab => by omega
end Kr
