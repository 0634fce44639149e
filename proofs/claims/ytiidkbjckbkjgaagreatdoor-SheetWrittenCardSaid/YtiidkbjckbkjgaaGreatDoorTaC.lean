/-
  Several texts in one: see the heads of its parts.
-/
import Derived.Test.YtiidkbjckbkjgaaGreatDoorScDT
import Derived.Test.YtiidkbjckbkjgaaGreatDoorPl
import Derived.Test.YtiidkbjckbkjgaaGreatDoorScH

/-
  Walks of package scale and of its reference: the weights for which a scale shows a number.
-/
namespace Go.Proofs.YtiidkbjckbkjgaaGreatDoor
open Go.RowKit Kr

/-- The reference's weights. -/
def wtR (step gain off n : Int) : Span := if 1000 * (n + step - off) - 1 < 0 then ⟨1, 0⟩ else ⟨(max (1000 * (n - off)) 0 + (1000 + gain) - 1) / (1000 + gain), min ((1000 * (n + step - off) - 1) / (1000 + gain)) 1000000⟩
theorem wtR_eq {step gain off n : Int} (hg : -10 ≤ gain ∧ gain ≤ 10) : ((wtR step gain off n).lo ≤ (wtR step gain off n).hi ↔ (wt step gain off n).lo ≤ (wt step gain off n).hi) ∧ ((wt step gain off n).lo ≤ (wt step gain off n).hi → wtR step gain off n = wt step gain off n) := by
  have hb : 0 < 1000 + gain := by omega
  have e1 : -(-1000 * (n - off) / (1000 + gain)) = (1000 * (n - off) + (1000 + gain) - 1) / (1000 + gain) := by
    have := floor_ceil (-1000 * (n - off)) (1000 + gain) hb
    rw [this, Int.neg_neg]
    congr 1; omega
  unfold wtR wt
  by_cases hh : 1000 * (n + step - off) - 1 < 0
  · rw [if_pos hh]
    have h2 : (1000 * (n + step - off) - 1) / (1000 + gain) < 0 := Int.ediv_neg_of_neg_of_pos hh hb
    simp only
    constructor
    · constructor <;> intro h <;> omega
    · intro h; omega
  · rw [if_neg hh, e1]
    have e2 : (max (1000 * (n - off)) 0 + (1000 + gain) - 1) / (1000 + gain) = max 0 ((1000 * (n - off) + (1000 + gain) - 1) / (1000 + gain)) := by
      by_cases hc : 0 ≤ 1000 * (n - off)
      · rw [Int.max_eq_left hc]
        have : 0 ≤ (1000 * (n - off) + (1000 + gain) - 1) / (1000 + gain) := Int.ediv_nonneg (by omega) (by omega)
        omega
      · rw [Int.max_eq_right (by omega)]
        have h1 : (0 + (1000 + gain) - 1) / (1000 + gain) = 0 := Int.ediv_eq_zero_of_lt (by omega) (by omega)
        have h2 : (1000 * (n - off) + (1000 + gain) - 1) / (1000 + gain) ≤ 0 := by
          have := Int.ediv_le_ediv hb (show 1000 * (n - off) + (1000 + gain) - 1 ≤ 0 + (1000 + gain) - 1 by omega)
          omega
        rw [h1]; omega
    rw [e2, Int.min_comm]
    exact ⟨Iff.rfl, fun _ => rfl⟩
theorem wtR_bound {step gain off n : Int} (hg : -10 ≤ gain ∧ gain ≤ 10) (ho : -100 ≤ off ∧ off ≤ 100) (hn : -2000000 ≤ n ∧ n ≤ 2000000) : 0 ≤ (wtR step gain off n).lo ∧ (wtR step gain off n).lo ≤ 9000000000 ∧ 0 ≤ (wtR step gain off n).hi ∧ (wtR step gain off n).hi ≤ 1000000 := by
  unfold wtR
  split
  · simp
  · have b1 := ediv_bounds (a := max (1000 * (n - off)) 0 + (1000 + gain) - 1) (b := 1000 + gain) (m := 9000000000) (by omega) (by omega) (by omega) (by omega)
    have h1 : 0 ≤ (max (1000 * (n - off)) 0 + (1000 + gain) - 1) / (1000 + gain) := Int.ediv_nonneg (by omega) (by omega)
    have h2 : 0 ≤ (1000 * (n + step - off) - 1) / (1000 + gain) := Int.ediv_nonneg (by omega) (by omega)
    simp only
    omega

end Go.Proofs.YtiidkbjckbkjgaaGreatDoor

/-
  Walks of the reference of layer 4: all truths of a scale with loads.
-/
namespace Go.Proofs.YtiidkbjckbkjgaaGreatDoor
open Go.RowKit Kr

def partCs (l : List Part) : List Value := l.flatMap fun t => [.int .i64 t.gain, .int .i64 t.off, .int .i64 t.sum.lo, .int .i64 t.sum.hi]
theorem ownsRow_down {w : World} {base base' size n : Nat} {e : TypeId} {v : Value} {xs : List Value} (h : w.ownsRow base e size v n xs) (hb : base' ≤ base) : w.ownsRow base' e size v n xs :=
  ⟨h.1, h.2.elim Or.inl (fun ⟨g, cap, cur, hv, hg, r⟩ => Or.inr ⟨g, cap, cur, hv, Nat.le_trans hb hg, r⟩)⟩
theorem row_parts {w : World} {base : Nat} {e : TypeId} {v : Value} {l : List Part} (h : w.ownsRow base e 4 v l.length (partCs l)) : IsRow (fun t : Kr.Part => [.int .i64 t.gain, .int .i64 t.off, .int .i64 t.sum.lo, .int .i64 t.sum.hi]) 4 w v l :=
  IsRow.of_owns h (fun _ _ => rfl)
theorem addLoad_other {s : Scale} {gain off : Int} {x : Option Span} {l : Load} (h : (l.scale == s.id) = false) : addLoad s gain off x l = x := by
  unfold addLoad; rw [if_neg (by simpa using h)]
theorem fold_snoc {s : Scale} {gain off : Int} {ls : List Load} {j : Nat} {l : Load} (h : ls[j]? = some l) (x : Option Span) : (ls.take (j + 1)).foldl (addLoad s gain off) x = addLoad s gain off ((ls.take j).foldl (addLoad s gain off) x) l := by
  rw [take_snoc h, List.foldl_append]; rfl
theorem parts_yes {s : Scale} {gain lo : Int} {ls : List Load} {m : Nat} {x : Span} (h : ls.foldl (addLoad s gain (lo + m)) (some ⟨0, 0⟩) = some x) : partsN s ls gain lo (m + 1) = partsN s ls gain lo m ++ [⟨gain, lo + m, x⟩] := by
  rw [partsN]; unfold Kr.partAt partSum; rw [h]
theorem parts_no {s : Scale} {gain lo : Int} {ls : List Load} {m : Nat} (h : ls.foldl (addLoad s gain (lo + m)) (some ⟨0, 0⟩) = none) : partsN s ls gain lo (m + 1) = partsN s ls gain lo m := by
  rw [partsN]; unfold Kr.partAt partSum; rw [h]; simp

theorem addLoad_miss {s : Scale} {gain off : Int} {x : Option Span} {l : Load} (h : (l.scale == s.id) = true) (hg : -10 ≤ gain ∧ gain ≤ 10) (hb : (wtR s.step gain off l.shown).hi < (wtR s.step gain off l.shown).lo ∨ x = none) : addLoad s gain off x l = none := by
  have hq := (wtR_eq (step := s.step) (off := off) (n := l.shown) hg).1
  unfold addLoad
  rw [if_pos (by simpa using h)]
  cases x with
  | none => rfl
  | some x =>
    simp only
    rw [if_neg (fun hc => ?_)]
    rcases hb with hb | hb
    · have := hq.2 hc; omega
    · cases hb
theorem addLoad_hit {s : Scale} {gain off : Int} {x : Span} {l : Load} (h : (l.scale == s.id) = true) (hg : -10 ≤ gain ∧ gain ≤ 10) (hb : (wtR s.step gain off l.shown).lo ≤ (wtR s.step gain off l.shown).hi) :
    addLoad s gain off (some x) l = some ⟨x.lo + (wtR s.step gain off l.shown).lo, x.hi + (wtR s.step gain off l.shown).hi⟩ := by
  have hq := wtR_eq (step := s.step) (off := off) (n := l.shown) hg
  rw [hq.2 (hq.1.1 hb)]
  unfold addLoad
  rw [if_pos (by simpa using h)]
  simp only
  rw [if_pos (hq.1.1 hb)]

end Go.Proofs.YtiidkbjckbkjgaaGreatDoor
