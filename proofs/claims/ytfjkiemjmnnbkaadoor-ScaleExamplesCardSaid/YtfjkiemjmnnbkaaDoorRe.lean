/-
  Walks of the reference of layer 4: the truths of a scale.
-/
import Derived.Test.YtfjkiemjmnnbkaaDoorRx
import Derived.Test.YtfjkiemjmnnbkaaDoorBs
namespace Go.Proofs.YtfjkiemjmnnbkaaDoor
open Go.RowKit Kr

/-- The inner loop's books: from the first offset to before y. -/
def someB (s : Scale) (g y : Int) : Bool := decide ((offs s g).lo ≤ min (offs s g).hi (y - 1))
def inBooks (s : Scale) (g y lo hi : Int) : Prop := someB s g y = true → lo = (offs s g).lo ∧ hi = min (offs s g).hi (y - 1)
theorem someB_start (s : Scale) (g : Int) : someB s g s.off.lo = false := by
  have := offs_in s g
  unfold someB; simp; omega
theorem someB_hit {s : Scale} {g y : Int} (h : trueB s g y = true) : someB s g (y + 1) = true := by
  have := (trueB_iff s g y).1 h
  unfold someB; simp; omega
theorem someB_miss {s : Scale} {g y : Int} (hg : s.gain.lo ≤ g ∧ g ≤ s.gain.hi) (h : trueB s g y = false) : someB s g (y + 1) = someB s g y ∧ min (offs s g).hi (y + 1 - 1) = min (offs s g).hi (y - 1) ∨ someB s g (y + 1) = false ∧ someB s g y = false := by
  have hn : ¬ ((offs s g).lo ≤ y ∧ y ≤ (offs s g).hi) := fun hc => by
    have := (trueB_iff s g y).2 ⟨hg, hc⟩
    rw [h] at this; cases this
  unfold someB
  by_cases hc : y ≤ (offs s g).hi
  · right; simp; omega
  · left; exact ⟨by rw [Bool.eq_iff_iff]; simp; omega, by omega⟩
theorem books_first {s : Scale} {g y : Int} (h : trueB s g y = true) (hs : someB s g y = false) : inBooks s g (y + 1) y y := fun _ => by
  have := (trueB_iff s g y).1 h
  unfold someB at hs; simp at hs
  omega
theorem books_next {s : Scale} {g y lo hi : Int} (h : trueB s g y = true) (hs : someB s g y = true) (hb : inBooks s g y lo hi) : inBooks s g (y + 1) lo y := fun _ => by
  have := (trueB_iff s g y).1 h
  have := hb hs
  omega
theorem books_miss {s : Scale} {g y lo hi : Int} (hg : s.gain.lo ≤ g ∧ g ≤ s.gain.hi) (h : trueB s g y = false) (hb : inBooks s g y lo hi) : inBooks s g (y + 1) lo hi := fun hs => by
  rcases someB_miss hg h with ⟨h1, h2⟩ | ⟨h1, _⟩
  · rw [h1] at hs; rw [h2]; exact hb hs
  · rw [h1] at hs; cases hs
theorem someB_miss' {s : Scale} {g y : Int} (hg : s.gain.lo ≤ g ∧ g ≤ s.gain.hi) (h : trueB s g y = false) : someB s g (y + 1) = someB s g y := by
  rcases someB_miss hg h with ⟨h1, _⟩ | ⟨h1, h2⟩
  · exact h1
  · rw [h1, h2]
theorem books_end {s : Scale} {g lo hi : Int} (hb : inBooks s g (s.off.hi + 1) lo hi) : tuneAt s g = if someB s g (s.off.hi + 1) then [⟨g, ⟨lo, hi⟩⟩] else [] := by
  have h1 := offs_in s g
  unfold tuneAt
  by_cases hc : (offs s g).lo ≤ (offs s g).hi
  · have hs : someB s g (s.off.hi + 1) = true := by unfold someB; simp; omega
    obtain ⟨rfl, rfl⟩ := hb hs
    rw [if_pos hc, hs, show min (offs s g).hi (s.off.hi + 1 - 1) = (offs s g).hi from by omega]
    rfl
  · have hs : someB s g (s.off.hi + 1) = false := by unfold someB; simp; omega
    rw [if_neg hc, hs]; rfl

theorem elem_Tune : ElemOf Tryd.prog 59 27 (.agg #[.int .i64 0, .int .i64 0, .int .i64 0]) 3 24 := ⟨Tryd.underlying59, by kernel_rfl, rfl, by decide, by decide⟩

def tuneCs (l : List Tune) : List Value := l.flatMap fun t => [.int .i64 t.gain, .int .i64 t.off.lo, .int .i64 t.off.hi]

theorem row_tunes {w : World} {base : Nat} {v : Value} {l : List Tune} (h : w.ownsRow base 27 3 v l.length (tuneCs l)) : IsRow (fun t : Kr.Tune => [.int .i64 t.gain, .int .i64 t.off.lo, .int .i64 t.off.hi]) 3 w v l :=
  IsRow.of_owns h (fun _ _ => rfl)

end Go.Proofs.YtfjkiemjmnnbkaaDoor
