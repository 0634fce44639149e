/-
  What is judged of all parts. Plain laws.
-/
import Derived.Test.YtfjkiemjmnnbkaaGreatDoorPl
namespace Kr

/-- What is known by whether all, and whether some, are so. -/
def toldR (all some : Bool) : Int := if all then 2 else if some then 1 else 0
def totAll (o : Span) (l : List Span) : Bool := l.all fun s => decide (o.lo ≤ s.lo) && decide (s.hi ≤ o.hi)
def totSome (o : Span) (l : List Span) : Bool := l.any fun s => decide (s.lo ≤ o.hi) && decide (o.lo ≤ s.hi)
def coldB (m : Int) (l : List Span) : Bool := l.all fun s => decide (s.hi ≤ m)
def coolB (m : Int) (l : List Span) : Bool := l.all fun s => decide (s.lo ≤ m)
theorem toldR_range (a b : Bool) : 0 ≤ toldR a b ∧ toldR a b ≤ 2 := by cases a <;> cases b <;> simp [toldR]
theorem warm_fold {m : Int} (l : List Span) (hl : ∀ s ∈ l, -9000 ≤ s.lo ∧ s.lo ≤ s.hi) (a b : Bool) (hab : a = true → b = true) : l.foldl (warmStep m) (toldR a b) = toldR (a && coldB m l) (b && coolB m l) := by
  induction l generalizing a b with
  | nil => simp [coldB, coolB]
  | cons s l ih =>
    have hs := hl s (List.mem_cons_self ..)
    have hst : warmStep m (toldR a b) s = toldR (a && decide (s.hi ≤ m)) (b && decide (s.lo ≤ m)) := by
      unfold warmStep knownR touches toldR
      simp only [List.all_cons, List.all_nil, List.any_cons, List.any_nil, Bool.and_true, Bool.or_false]
      by_cases h1 : s.hi ≤ m
      · have h2 : s.lo ≤ m := by omega
        simp only [h1, h2, hs.1, decide_true, Bool.and_true, if_true]
        cases a <;> cases b <;> simp at hab ⊢ <;> decide
      · by_cases h2 : s.lo ≤ m
        · have h3 : -9000 ≤ s.hi := by omega
          simp only [h1, h2, h3, hs.1, decide_true, decide_false, Bool.and_true, Bool.and_false, if_true]
          cases a <;> cases b <;> simp at hab ⊢ <;> decide
        · simp only [h1, h2, decide_false, Bool.and_false, Bool.false_and]
          cases a <;> cases b <;> simp at hab ⊢ <;> decide
    rw [List.foldl_cons, hst, ih (fun t ht => hl t (List.mem_cons_of_mem _ ht))]
    · simp only [coldB, coolB, List.all_cons, Bool.and_assoc]
    · intro h
      simp at h ⊢
      exact ⟨hab h.1, by omega⟩
theorem warmOf_told {g : Gear} (hb : bare g = true) (m : Int) : warmOf g m = toldR (coldB m (warm g).1) (coolB m (warm g).1) := by
  have h := bare_bounds hb
  unfold warmOf warm
  rw [if_pos hb]
  have := warm_fold (m := m) (g.runners.map (warmAt g)) (fun s hs => by
    obtain ⟨r, hr, rfl⟩ := List.mem_map.1 hs
    have := h.2.2.2.1 r hr
    unfold warmAt
    dsimp only
    omega) true true (fun h => h)
  simpa [toldR] using this
def hardTold (g : Gear) (n : Norm) : Int := toldR (decide (n.hard.lo ≤ (hard g).1.lo) && decide ((hard g).1.hi ≤ n.hard.hi)) (decide ((hard g).1.lo ≤ n.hard.hi) && decide (n.hard.lo ≤ (hard g).1.hi))
def wantR (b : List Scale) (g : Gear) (n : Norm) : List Int :=
  [toldR (totAll n.total (totals b g)) (totSome n.total (totals b g)), toldR (decide (g.added ≤ n.added)) false, toldR (coldB n.warm (warm g).1) (coolB n.warm (warm g).1), hardTold g n, toldR (g.stamp || !n.stamp) false]
theorem partsJ_want {b : List Scale} {g : Gear} (h : check b g = 0) (n : Norm) : partsJ b g n = wantR b g n := by
  have hb := gearOk_bare (check_zero h).2
  unfold partsJ wantR
  rw [warmOf_told hb]
  have e1 : knownR [(hard g).1] n.hard = hardTold g n := by
    unfold knownR touches hardTold toldR
    simp only [List.all_cons, List.all_nil, List.any_cons, List.any_nil, Bool.and_true, Bool.or_false]
  rw [e1]
  have e2 : ∀ c : Bool, toldR c false = sureR c := by intro c; cases c <;> rfl
  rw [e2, e2]
  rfl
theorem wantR_range (b : List Scale) (g : Gear) (n : Norm) : ∀ x ∈ wantR b g n, 0 ≤ x ∧ x ≤ 2 := by
  intro x hx
  simp only [wantR, hardTold, List.mem_cons, List.not_mem_nil, or_false] at hx
  rcases hx with rfl | rfl | rfl | rfl | rfl <;> exact toldR_range _ _
/-- What is judged, where all that it needs is known. -/
theorem judgeR_want {b : List Scale} {g : Gear} {n : Norm} (h : check b g = 0) (hn : normB n = true) (ht : totals b g ≠ []) (hh : (hard g).2 = 0) : judgeR b g n = ((wantR b g n, minOf (wantR b g n)), 0) := by
  unfold judgeR
  rw [if_neg (by simp [h]), if_neg (by simp [hn]), if_neg ht, if_neg (by simp [hh]), partsJ_want h]
theorem judgeR_none {b : List Scale} {g : Gear} {n : Norm} (h : check b g = 0) (hn : normB n = true) (ht : totals b g = []) : (judgeR b g n).2 = 6 := by
  unfold judgeR
  rw [if_neg (by simp [h]), if_neg (by simp [hn]), if_pos ht]
theorem judgeR_bad {b : List Scale} {g : Gear} {n : Norm} (h : check b g = 0) (hn : normB n = true) (ht : totals b g ≠ []) (hh : (hard g).2 ≠ 0) : (judgeR b g n).2 = 8 := by
  unfold judgeR
  rw [if_neg (by simp [h]), if_neg (by simp [hn]), if_neg ht, if_pos hh]
  have hb := gearOk_bare (check_zero h).2
  unfold hard at hh ⊢
  rw [if_pos hb] at hh ⊢
  split at hh
  · rw [if_pos (by assumption)]
  · exact absurd rfl hh
end Kr
