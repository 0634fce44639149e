/-
  Several texts in one: see the heads of its parts.
-/

/-
  The data of layer 4 as plain Lean types.
-/
namespace Kr
structure Span where
  lo : Int
  hi : Int
  deriving DecidableEq, Inhabited
structure Trial where
  weight : Int
  shown : Int
  deriving DecidableEq, Inhabited
structure Scale where
  id : Int
  step : Int
  gain : Span
  off : Span
  trials : List Trial
  deriving DecidableEq, Inhabited
structure Load where
  scale : Int
  shown : Int
  deriving DecidableEq, Inhabited
structure Tune where
  gain : Int
  off : Span
  deriving DecidableEq, Inhabited
/-- All numbers are from lo to hi. -/
def inb (lo hi n : Int) : Bool := decide (lo ≤ n) && decide (n ≤ hi)
def inAll (lo hi : Int) (l : List Int) : Bool := l.all (inb lo hi)
def ordered (s : Span) (lo hi : Int) : Bool := decide (lo ≤ s.lo) && decide (s.lo ≤ s.hi) && decide (s.hi ≤ hi)
def shownB (n step : Int) : Bool := inb (-2000000) 2000000 n && n.tmod step == 0
def trialOk (step : Int) (t : Trial) : Bool := inb 0 1000000 t.weight && shownB t.shown step
def right (s : Scale) : Bool :=
  inb 0 9999 s.id && inb 1 500 s.step && ordered s.gain (-10) 10 && ordered s.off (-100) 100 && decide (s.trials.length ≤ 6) && s.trials.all (trialOk s.step)
def lastId (last : Int) : List Scale → Int
  | [] => last
  | s :: l => lastId s.id l
/-- The first index of a scale with an Id, -1 if there is none. -/
def at_ (b : List Scale) (id : Int) : Int := match b.findIdx? (fun s => s.id == id) with | some i => (i : Int) | none => -1
/-- What the offset can be after one more trial, with a gain. -/
def offStep (gain step : Int) (o : Span) (t : Trial) : Span :=
  ⟨max o.lo (-(-(1000 * t.shown - t.weight * (1000 + gain)) / 1000)), min o.hi ((1000 * (t.shown + step) - 1 - t.weight * (1000 + gain)) / 1000)⟩
def offs (s : Scale) (gain : Int) : Span := s.trials.foldl (offStep gain s.step) s.off
def tuneAt (s : Scale) (gain : Int) : List Tune := if (offs s gain).lo ≤ (offs s gain).hi then [⟨gain, offs s gain⟩] else []
/-- The tunes of the first n gains from a gain on. -/
def tunesN (s : Scale) (gain : Int) : Nat → List Tune
  | 0 => []
  | n + 1 => tunesN s gain n ++ tuneAt s (gain + n)
def gainN (s : Scale) : Nat := (s.gain.hi - s.gain.lo + 1).toNat
def tunes (s : Scale) : List Tune := tunesN s s.gain.lo (gainN s)

end Kr

/-
  Spans of numbers: the fewest ones of given spans; sums; what numbers they have. Plain laws.
-/
namespace Kr

/-- One span more, behind spans by their lo. -/
def push (few : List Span) (s : Span) : List Span :=
  match few.getLast? with
  | some k => if s.lo ≤ k.hi + 1 then few.dropLast ++ [⟨k.lo, max k.hi s.hi⟩] else few ++ [s]
  | none => [s]
/-- A number is in one of them. -/
def has (l : List Span) (x : Int) : Prop := ∃ s ∈ l, s.lo ≤ x ∧ x ≤ s.hi
end Kr

/-
  The totals of gear, and the first truth with a total. Plain laws.
-/
namespace Kr

/-- The weights for which a scale with a gain and an offset shows a number. -/
def wt (step gain off n : Int) : Span := ⟨max 0 (-(-1000 * (n - off) / (1000 + gain))), min 1000000 ((1000 * (n + step - off) - 1) / (1000 + gain))⟩
/-- A truth of a scale, and what its loads weigh together. -/
structure Part where
  gain : Int
  off : Int
  sum : Span
  deriving DecidableEq, Inhabited
def addLoad (s : Scale) (gain off : Int) (x : Option Span) (l : Load) : Option Span :=
  if l.scale = s.id then
    match x with
    | some x => if (wt s.step gain off l.shown).lo ≤ (wt s.step gain off l.shown).hi then some ⟨x.lo + (wt s.step gain off l.shown).lo, x.hi + (wt s.step gain off l.shown).hi⟩ else none
    | none => none
  else x
def partSum (s : Scale) (gain off : Int) (ls : List Load) : Option Span := ls.foldl (addLoad s gain off) (some ⟨0, 0⟩)
def partAt (s : Scale) (ls : List Load) (gain off : Int) : List Part :=
  match partSum s gain off ls with
  | some x => [⟨gain, off, x⟩]
  | none => []
def partsN (s : Scale) (ls : List Load) (gain lo : Int) : Nat → List Part
  | 0 => []
  | n + 1 => partsN s ls gain lo n ++ partAt s ls gain (lo + n)
def offN (t : Tune) : Nat := (t.off.hi - t.off.lo + 1).toNat
def partsT (s : Scale) (ls : List Load) (t : Tune) : List Part := partsN s ls t.gain t.off.lo (offN t)
def partsL (s : Scale) (ls : List Load) (l : List Tune) : List Part := l.flatMap (partsT s ls)
def parts (s : Scale) (ls : List Load) : List Part := partsL s ls (tunes s)
/-! ### What several scales can weigh together, and the first truth -/
/-- What is left behind a part. -/
def leave (left : Span) (p : Part) : Span := ⟨left.lo - p.sum.hi, left.hi - p.sum.lo⟩
/-! ### Weights: the least ones first -/
end Kr

/-
  The first truth with a total: what the reference and the scale answer. Plain laws.
-/
namespace Kr

end Kr

/-
  The first truth step by step: the greedy choice, the spans of all loads, the weights laid. Plain laws.
-/
namespace Kr

def grown (ch : List Part) : Option (List Part × Span) → Option (List Part × Span)
  | some (l, r) => some (ch ++ l, r)
  | none => none
end Kr

/-
  What scales from each one on can weigh together, filled in from the last one on, in whatever order the indices come. Plain laws.
-/
namespace Kr

/-! ### Each scale once -/
end Kr

/-
  What lacks is laid on the last weights: step by step, in whatever order the indices come. Plain laws.
-/
namespace Kr

end Kr

/-
  Plain laws of what is judged, once and again.
-/
namespace Kr

/-- Whether a list comes before one of the same length. -/
def lexB : List Nat → List Nat → Bool
  | a :: as, b :: bs => if a = b then lexB as bs else decide (a < b)
  | _, _ => false
/-! ### Comparing lists, step by step -/
def compareN : List Nat → List Nat → Int
  | [], [] => 0
  | [], _ :: _ => -1
  | _ :: _, [] => 1
  | a :: as, b :: bs => if a = b then compareN as bs else if a < b then -1 else 1
theorem compareN_step {a b : List Nat} {k : Nat} {x y : Nat} (hx : a[k]? = some x) (hy : b[k]? = some y) : compareN (a.drop k) (b.drop k) = if x = y then compareN (a.drop (k + 1)) (b.drop (k + 1)) else if x < y then -1 else 1 := by
  obtain ⟨h1, rfl⟩ := List.getElem?_eq_some_iff.1 hx
  obtain ⟨h2, rfl⟩ := List.getElem?_eq_some_iff.1 hy
  rw [List.drop_eq_getElem_cons h1, List.drop_eq_getElem_cons h2]
  rfl
theorem compareN_left {a b : List Nat} {k : Nat} (h1 : k < a.length) (h2 : b.length ≤ k) : compareN (a.drop k) (b.drop k) = 1 := by
  rw [List.drop_eq_getElem_cons h1, List.drop_eq_nil_of_le h2]
  rfl
theorem compareN_end {a b : List Nat} {k : Nat} (h1 : a.length ≤ k) : compareN (a.drop k) (b.drop k) = if k < b.length then -1 else 0 := by
  rw [List.drop_eq_nil_of_le h1]
  split
  · rename_i h
    rw [List.drop_eq_getElem_cons h]
    rfl
  · rename_i h
    rw [List.drop_eq_nil_of_le (by omega)]
    rfl
end Kr

/-
  Forms of the plain laws that the kernel can reckon with (an insertion sort in the place of the merge sort).
-/
namespace Kr

end Kr

/-
  Plain laws for the outright statements: spans among spans, totals by what is added, totals as numbers.
-/
namespace Kr

end Kr
