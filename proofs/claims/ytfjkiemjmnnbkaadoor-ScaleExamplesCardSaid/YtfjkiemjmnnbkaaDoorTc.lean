/-
  Walks of the reference of layer 4: all truths of a scale with loads.
-/
import Derived.Test.YtfjkiemjmnnbkaaDoorTa
import Derived.Test.YtfjkiemjmnnbkaaDoorScH
import Derived.Test.YtfjkiemjmnnbkaaDoorScE
namespace Go.Proofs.YtfjkiemjmnnbkaaDoor
open Go.RowKit Kr

def partCs (l : List Part) : List Value := l.flatMap fun t => [.int .i64 t.gain, .int .i64 t.off, .int .i64 t.sum.lo, .int .i64 t.sum.hi]
theorem ownsRow_down {w : World} {base base' size n : Nat} {e : TypeId} {v : Value} {xs : List Value} (h : w.ownsRow base e size v n xs) (hb : base' ≤ base) : w.ownsRow base' e size v n xs :=
  ⟨h.1, h.2.elim Or.inl (fun ⟨g, cap, cur, hv, hg, r⟩ => Or.inr ⟨g, cap, cur, hv, Nat.le_trans hb hg, r⟩)⟩
theorem row_parts {w : World} {base : Nat} {e : TypeId} {v : Value} {l : List Part} (h : w.ownsRow base e 4 v l.length (partCs l)) : IsRow (fun t : Kr.Part => [.int .i64 t.gain, .int .i64 t.off, .int .i64 t.sum.lo, .int .i64 t.sum.hi]) 4 w v l :=
  IsRow.of_owns h (fun _ _ => rfl)
theorem addLoad_other {s : Scale} {gain off : Int} {x : Option Span} {l : Load} (h : (l.scale == s.id) = false) : addLoad s gain off x l = x := by
  unfold addLoad; rw [if_neg (by simpa using h)]
theorem fold_snoc {s : Scale} {gain off : Int} {ls : List Load} {j : Nat} {l : Load} (h : ls[j]? = some l) (x : Option Span) : (ls.take (j + 1)).foldl (addLoad s gain off) x = addLoad s gain off ((ls.take j).foldl (addLoad s gain off) x) l := by
  rw [take_snoc h, List.foldl_append]; rfl
theorem parts_yes {s : Scale} {gain lo : Int} {ls : List Load} {m : Nat} {x : Span} (h : ls.foldl (addLoad s gain (lo + m)) (some ⟨0, 0⟩) = some x) : partsN s ls gain lo (m + 1) = partsN s ls gain lo m ++ [⟨gain, lo + m, x⟩] := by
  rw [partsN]; unfold Kr.partAt partSum; rw [h]
theorem parts_no {s : Scale} {gain lo : Int} {ls : List Load} {m : Nat} (h : ls.foldl (addLoad s gain (lo + m)) (some ⟨0, 0⟩) = none) : partsN s ls gain lo (m + 1) = partsN s ls gain lo m := by
  rw [partsN]; unfold Kr.partAt partSum; rw [h]; simp

theorem addLoad_miss {s : Scale} {gain off : Int} {x : Option Span} {l : Load} (h : (l.scale == s.id) = true) (hg : -10 ≤ gain ∧ gain ≤ 10) (hb : (wtR s.step gain off l.shown).hi < (wtR s.step gain off l.shown).lo ∨ x = none) : addLoad s gain off x l = none := by
  have hq := (wtR_eq (step := s.step) (off := off) (n := l.shown) hg).1
  unfold addLoad
  rw [if_pos (by simpa using h)]
  cases x with
  | none => rfl
  | some x =>
    simp only
    rw [if_neg (fun hc => ?_)]
    rcases hb with hb | hb
    · have := hq.2 hc; omega
    · cases hb
theorem addLoad_hit {s : Scale} {gain off : Int} {x : Span} {l : Load} (h : (l.scale == s.id) = true) (hg : -10 ≤ gain ∧ gain ≤ 10) (hb : (wtR s.step gain off l.shown).lo ≤ (wtR s.step gain off l.shown).hi) :
    addLoad s gain off (some x) l = some ⟨x.lo + (wtR s.step gain off l.shown).lo, x.hi + (wtR s.step gain off l.shown).hi⟩ := by
  have hq := wtR_eq (step := s.step) (off := off) (n := l.shown) hg
  rw [hq.2 (hq.1.1 hb)]
  unfold addLoad
  rw [if_pos (by simpa using h)]
  simp only
  rw [if_pos (hq.1.1 hb)]

end Go.Proofs.YtfjkiemjmnnbkaaDoor
