/-
  Several texts in one: see the heads of its parts.
-/
import Derived.Test.YtkgchngaganokaaGreatDoorSort
import Derived.Test.YtkgchngaganokaaGreatDoorTaC
import Derived.Test.YtkgchngaganokaaGreatDoorBt
import Derived.Test.YtkgchngaganokaaGreatDoorPl

/-
  The library's slices.SortFunc over a slice of spans that a function owns, by their lo.
-/
namespace Go.Proofs.YtkgchngaganokaaGreatDoor
open Go.RowKit Go.Shelf Kr

def spanCs (l : List Span) : List Value := l.flatMap fun t => [.int .i64 t.lo, .int .i64 t.hi]
theorem spanCs_snoc (l : List Span) (s : Span) : spanCs (l ++ [s]) = spanCs l ++ [.int .i64 s.lo, .int .i64 s.hi] := by simp [spanCs]
theorem spanCs_len (l : List Span) : (spanCs l).length = l.length * 2 := flat_len l (fun _ _ => rfl)
theorem spanCs_at (r : List Span) (k : Span) (j : Nat) (u : Value) (h : ([.int .i64 k.lo, .int .i64 k.hi] : List Value)[j]? = some u) : (spanCs (r ++ [k]))[r.length * 2 + j]? = some u := by
  rw [spanCs_snoc, List.getElem?_append_right (by rw [spanCs_len]; omega), spanCs_len, Nat.add_sub_cancel_left]; exact h
theorem spanCs_set (r : List Span) (k : Span) (u : Int) : (spanCs (r ++ [k])).set (r.length * 2 + 1) (.int .i64 u) = spanCs (r ++ [⟨k.lo, u⟩]) := by
  rw [spanCs_snoc, spanCs_snoc, List.set_append_right _ _ (by rw [spanCs_len]; omega), spanCs_len, Nat.add_sub_cancel_left]; rfl
theorem owns_len {w : World} {base size n : Nat} {e : TypeId} {v : Value} {xs : List Value} (h : w.ownsRow base e size v n xs) : ∃ p cap, v = .slice p n cap := by
  rcases h.2 with ⟨rfl, rfl⟩ | ⟨g, cap, cur, rfl, _⟩
  · exact ⟨_, _, rfl⟩
  · exact ⟨_, _, rfl⟩
theorem owns_form {w : World} {base size n : Nat} {e : TypeId} {v : Value} {xs : List Value} (h : w.ownsRow base e size v n xs) (hn : 0 < n) : ∃ g cap, v = .slice (some ⟨g, 0, none⟩) n cap ∧ base ≤ g ∧ g < w.heap.size := by
  rcases h.2 with ⟨_, h0⟩ | ⟨g, cap, cur, hv, hb, hg, _⟩
  · omega
  · exact ⟨g, cap, hv, hb, (Array.getElem?_eq_some_iff.1 hg).1⟩
theorem one_Span (s : Span) : ∀ u ∈ ([.int .i64 s.lo, .int .i64 s.hi] : List Value), u.oneCell' = true := by intro u hu; simp at hu; rcases hu with rfl | rfl <;> rfl
theorem row_spans {w : World} {base : Nat} {e : TypeId} {v : Value} {l : List Span} (h : w.ownsRow base e 2 v l.length (spanCs l)) : IsRow (fun t : Kr.Span => [.int .i64 t.lo, .int .i64 t.hi]) 2 w v l :=
  IsRow.of_owns h (fun _ _ => rfl)

theorem push_len : ∀ (l few : List Span), (l.foldl push few).length ≤ few.length + l.length := by
  intro l
  induction l with
  | nil => intro few; simp
  | cons s l ih =>
    intro few
    rw [List.foldl_cons]
    have := ih (push few s)
    have h2 : (push few s).length ≤ few.length + 1 := by
      rcases snoc_cases few with rfl | ⟨r, k, rfl⟩
      · simp [push_nil]
      · rw [push_snoc]; split <;> simp
    rw [List.length_cons]; omega
theorem fold_hi {l : List Span} {B : Int} (h : ∀ y ∈ l, 0 ≤ y.hi ∧ y.hi ≤ B) : ∀ y ∈ l.foldl push [], 0 ≤ y.hi ∧ y.hi ≤ B := by
  have key : ∀ (l few : List Span), (∀ y ∈ l, 0 ≤ y.hi ∧ y.hi ≤ B) → (∀ y ∈ few, 0 ≤ y.hi ∧ y.hi ≤ B) → ∀ y ∈ l.foldl push few, 0 ≤ y.hi ∧ y.hi ≤ B := by
    intro l
    induction l with
    | nil => intro few _ h; exact h
    | cons s l ih =>
      intro few h1 h2
      rw [List.foldl_cons]
      refine ih _ (fun y hy => h1 y (List.mem_cons_of_mem _ hy)) ?_
      have hs := h1 s (List.mem_cons_self ..)
      rcases snoc_cases few with rfl | ⟨r, k, rfl⟩
      · rw [push_nil]; intro y hy; rw [List.mem_singleton.1 hy]; exact hs
      · have hk := h2 k (by simp)
        rw [push_snoc]
        split
        · intro y hy
          rcases List.mem_append.1 hy with h | h
          · exact h2 y (List.mem_append_left _ h)
          · rw [List.mem_singleton.1 h]; simp only; omega
        · intro y hy
          rcases List.mem_append.1 hy with h | h
          · exact h2 y h
          · rw [List.mem_singleton.1 h]; exact hs
  exact key l [] h (by simp)

/-- A span within bounds. -/
abbrev SpanB := { s : Span // 0 ≤ s.lo ∧ s.lo ≤ 100000000000 }
instance : Inhabited SpanB := ⟨⟨⟨0, 0⟩, by decide⟩⟩
theorem owns_cases {w : World} {base size n : Nat} {e : TypeId} {v : Value} {xs : List Value} (h : w.ownsRow base e size v n xs) : (v = .slice none 0 0 ∧ n = 0) ∨ ∃ g cap, v = .slice (some ⟨g, 0, none⟩) n cap ∧ base ≤ g ∧ g < w.heap.size := by
  rcases h.2 with h1 | ⟨g, cap, cur, hv, hb, hg, _⟩
  · exact .inl h1
  · exact .inr ⟨g, cap, hv, hb, (Array.getElem?_eq_some_iff.1 hg).1⟩
end Go.Proofs.YtkgchngaganokaaGreatDoor

/-
  Walks of package scale and of its reference: how warm and how hard runners are.
-/
namespace Go.Proofs.YtkgchngaganokaaGreatDoor
open Go.RowKit Kr

/-- The greatest, the least of numbers. -/
def maxL : List Int → Int | [] => 0 | x :: l => l.foldl max x
def minL : List Int → Int | [] => 0 | x :: l => l.foldl min x
theorem maxL_snoc {l : List Int} (h : 0 < l.length) (x : Int) : maxL (l ++ [x]) = max (maxL l) x := by
  cases l with
  | nil => simp at h
  | cons y l => simp [maxL]
theorem minL_snoc {l : List Int} (h : 0 < l.length) (x : Int) : minL (l ++ [x]) = min (minL l) x := by
  cases l with
  | nil => simp at h
  | cons y l => simp [minL]
theorem hard_fold {spread : Int} {l : List Int} (h : 0 < l.length) (o : Span) : l.foldl (hardStep spread) o = ⟨max o.lo (maxL l - spread), min o.hi (minL l + spread)⟩ := by
  have key : ∀ (l : List Int) (o : Span) (a b : Int), l.foldl (hardStep spread) ⟨max o.lo (a - spread), min o.hi (b + spread)⟩ = ⟨max o.lo (l.foldl max a - spread), min o.hi (l.foldl min b + spread)⟩ := by
    intro l
    induction l with
    | nil => intro o a b; rfl
    | cons x l ih =>
      intro o a b
      rw [List.foldl_cons, List.foldl_cons, List.foldl_cons, ← ih o (max a x) (min b x)]
      congr 1
      simp only [hardStep, Span.mk.injEq]
      omega
  cases l with
  | nil => simp at h
  | cons x l => rw [List.foldl_cons]; exact key l o x x
theorem maxL_in {l : List Int} (h : 0 < l.length) : maxL l ∈ l := by
  have key : ∀ (l : List Int) (a : Int), l.foldl max a = a ∨ l.foldl max a ∈ l := by
    intro l
    induction l with
    | nil => intro a; exact .inl rfl
    | cons x l ih =>
      intro a
      rw [List.foldl_cons]
      rcases ih (max a x) with h | h
      · rw [h]
        by_cases hc : a ≤ x
        · rw [Int.max_eq_right hc]; exact .inr (List.mem_cons_self ..)
        · rw [Int.max_eq_left (by omega)]; exact .inl rfl
      · exact .inr (List.mem_cons_of_mem _ h)
  cases l with
  | nil => simp at h
  | cons x l =>
    rcases key l x with h | h
    · show l.foldl max x ∈ _; rw [h]; exact List.mem_cons_self ..
    · exact List.mem_cons_of_mem _ h
theorem minL_in {l : List Int} (h : 0 < l.length) : minL l ∈ l := by
  have key : ∀ (l : List Int) (a : Int), l.foldl min a = a ∨ l.foldl min a ∈ l := by
    intro l
    induction l with
    | nil => intro a; exact .inl rfl
    | cons x l ih =>
      intro a
      rw [List.foldl_cons]
      rcases ih (min a x) with h | h
      · rw [h]
        by_cases hc : x ≤ a
        · rw [Int.min_eq_right hc]; exact .inr (List.mem_cons_self ..)
        · rw [Int.min_eq_left (by omega)]; exact .inl rfl
      · exact .inr (List.mem_cons_of_mem _ h)
  cases l with
  | nil => simp at h
  | cons x l =>
    rcases key l x with h | h
    · show l.foldl min x ∈ _; rw [h]; exact List.mem_cons_self ..
    · exact List.mem_cons_of_mem _ h

end Go.Proofs.YtkgchngaganokaaGreatDoor
