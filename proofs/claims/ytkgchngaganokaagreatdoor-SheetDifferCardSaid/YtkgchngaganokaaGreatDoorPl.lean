/-
  Several texts in one: see the heads of its parts.
-/

/-
  The data of layer 4 as plain Lean types.
-/
namespace Kr
structure Span where
  lo : Int
  hi : Int
  deriving DecidableEq, Inhabited
structure Trial where
  weight : Int
  shown : Int
  deriving DecidableEq, Inhabited
structure Scale where
  id : Int
  step : Int
  gain : Span
  off : Span
  trials : List Trial
  deriving DecidableEq, Inhabited
structure Load where
  scale : Int
  shown : Int
  deriving DecidableEq, Inhabited
structure Gear where
  loads : List Load
  added : Int
  base : Int
  jitter : Int
  runners : List Int
  strokes : List Int
  spread : Int
  stamp : Bool
  deriving DecidableEq, Inhabited
structure Norm where
  total : Span
  added : Int
  warm : Int
  hard : Span
  stamp : Bool
  deriving DecidableEq, Inhabited
structure Tune where
  gain : Int
  off : Span
  deriving DecidableEq, Inhabited
structure Weighed where
  tunes : List (Int × Int)
  weights : List Int
  deriving DecidableEq, Inhabited

/-- All numbers are from lo to hi. -/
def inb (lo hi n : Int) : Bool := decide (lo ≤ n) && decide (n ≤ hi)
def inAll (lo hi : Int) (l : List Int) : Bool := l.all (inb lo hi)
def ordered (s : Span) (lo hi : Int) : Bool := decide (lo ≤ s.lo) && decide (s.lo ≤ s.hi) && decide (s.hi ≤ hi)
def shownB (n step : Int) : Bool := inb (-2000000) 2000000 n && n.tmod step == 0
def trialOk (step : Int) (t : Trial) : Bool := inb 0 1000000 t.weight && shownB t.shown step
def right (s : Scale) : Bool :=
  inb 0 9999 s.id && inb 1 500 s.step && ordered s.gain (-10) 10 && ordered s.off (-100) 100 && decide (s.trials.length ≤ 6) && s.trials.all (trialOk s.step)
/-- A scale with a gain and an offset shows a number for a weight. -/
def showsB (gain off weight n step : Int) : Bool := decide (1000 * n ≤ weight * (1000 + gain) + 1000 * off) && decide (weight * (1000 + gain) + 1000 * off < 1000 * (n + step))
def trueB (s : Scale) (gain off : Int) : Bool :=
  (s.trials.all fun t => showsB gain off t.weight t.shown s.step) && (inb s.gain.lo s.gain.hi gain && inb s.off.lo s.off.hi off)

/-- Scales by strictly increasing Ids, the first one above a number, all valid. -/
def bayFrom (last : Int) : List Scale → Bool
  | [] => true
  | s :: l => decide (last < s.id) && right s && bayFrom s.id l
def bayOk (b : List Scale) : Bool := bayFrom (-1) b && decide (b.length ≤ 4)
def lastId (last : Int) : List Scale → Int
  | [] => last
  | s :: l => lastId s.id l
theorem bayFrom_snoc (a : Int) (l : List Scale) (s : Scale) : bayFrom a (l ++ [s]) = (bayFrom a l && decide (lastId a l < s.id) && right s) := by
  induction l generalizing a with
  | nil => simp [bayFrom]; rfl
  | cons x l ih => simp only [List.cons_append, bayFrom, ih, Bool.and_assoc]; rfl
theorem lastId_snoc (a : Int) (l : List Scale) (s : Scale) : lastId a (l ++ [s]) = s.id := by
  induction l generalizing a with
  | nil => rfl
  | cons x l ih => exact ih _
theorem right_id {s : Scale} (h : right s = true) : 0 ≤ s.id ∧ s.id ≤ 9999 := by
  simp [right, inb] at h; omega
theorem bayFrom_prefix (a : Int) (l m : List Scale) (h : bayFrom a (l ++ m) = true) : bayFrom a l = true := by
  induction l generalizing a with
  | nil => rfl
  | cons x l ih => simp [bayFrom] at h ⊢; exact ⟨h.1, ih _ h.2⟩
theorem bayFrom_right {a : Int} {l : List Scale} (h : bayFrom a l = true) : ∀ s ∈ l, right s = true := by
  induction l generalizing a with
  | nil => intro s hs; cases hs
  | cons x l ih =>
    simp [bayFrom] at h
    intro s hs
    rcases List.mem_cons.1 hs with rfl | hs
    · exact h.1.2
    · exact ih h.2 s hs

/-- The first index of a scale with an Id, -1 if there is none. -/
def at_ (b : List Scale) (id : Int) : Int := match b.findIdx? (fun s => s.id == id) with | some i => (i : Int) | none => -1
/-- Gear is valid but for its loads. -/
def bare (g : Gear) : Bool :=
  inb 0 1000000 g.added && inb (-1000) 1000 g.base && inb 0 1000 g.jitter && (inAll (-1000) 1000 g.runners && decide (g.runners.length ≤ 8)) && (inAll 0 2000 g.strokes && decide (g.strokes.length ≤ 8)) && inb 0 2000 g.spread
def loadOk (b : List Scale) (l : Load) : Bool := match b.find? (fun s => s.id == l.scale) with | some s => shownB l.shown s.step | none => false
def gearOk (b : List Scale) (g : Gear) : Bool := g.loads.all (loadOk b) && decide (g.loads.length ≤ 6) && bare g
/-- What the offset can be after one more trial, with a gain. -/
def offStep (gain step : Int) (o : Span) (t : Trial) : Span :=
  ⟨max o.lo (-(-(1000 * t.shown - t.weight * (1000 + gain)) / 1000)), min o.hi ((1000 * (t.shown + step) - 1 - t.weight * (1000 + gain)) / 1000)⟩
def offs (s : Scale) (gain : Int) : Span := s.trials.foldl (offStep gain s.step) s.off
def tuneAt (s : Scale) (gain : Int) : List Tune := if (offs s gain).lo ≤ (offs s gain).hi then [⟨gain, offs s gain⟩] else []
/-- The tunes of the first n gains from a gain on. -/
def tunesN (s : Scale) (gain : Int) : Nat → List Tune
  | 0 => []
  | n + 1 => tunesN s gain n ++ tuneAt s (gain + n)
def gainN (s : Scale) : Nat := (s.gain.hi - s.gain.lo + 1).toNat
def tunes (s : Scale) : List Tune := tunesN s s.gain.lo (gainN s)

theorem shows_iff (gain off weight n step : Int) : showsB gain off weight n step = true ↔ -(-(1000 * n - weight * (1000 + gain)) / 1000) ≤ off ∧ off ≤ (1000 * (n + step) - 1 - weight * (1000 + gain)) / 1000 := by
  unfold showsB
  generalize weight * (1000 + gain) = x
  simp
  omega
theorem offs_iff (gain step : Int) (l : List Trial) (o : Span) (x : Int) : ((l.foldl (offStep gain step) o).lo ≤ x ∧ x ≤ (l.foldl (offStep gain step) o).hi) ↔
    (o.lo ≤ x ∧ x ≤ o.hi) ∧ (l.all fun t => showsB gain x t.weight t.shown step) = true := by
  induction l generalizing o with
  | nil => simp
  | cons t l ih =>
    rw [List.foldl_cons, ih, List.all_cons, Bool.and_eq_true, shows_iff]
    simp only [offStep, Int.max_le, Int.le_min]
    constructor
    · rintro ⟨⟨⟨a, b⟩, c, d⟩, e⟩; exact ⟨⟨a, c⟩, ⟨b, d⟩, e⟩
    · rintro ⟨⟨a, c⟩, ⟨b, d⟩, e⟩; exact ⟨⟨⟨a, b⟩, c, d⟩, e⟩
theorem trueB_iff (s : Scale) (gain x : Int) : trueB s gain x = true ↔ (s.gain.lo ≤ gain ∧ gain ≤ s.gain.hi) ∧ (offs s gain).lo ≤ x ∧ x ≤ (offs s gain).hi := by
  unfold offs
  rw [offs_iff]
  simp only [trueB, inb, Bool.and_eq_true, decide_eq_true_eq]
  constructor
  · rintro ⟨a, b, c⟩; exact ⟨b, c, a⟩
  · rintro ⟨b, c, a⟩; exact ⟨a, b, c⟩
theorem offs_sub (gain step : Int) (l : List Trial) (o : Span) : o.lo ≤ (l.foldl (offStep gain step) o).lo ∧ (l.foldl (offStep gain step) o).hi ≤ o.hi := by
  induction l generalizing o with
  | nil => simp
  | cons t l ih =>
    have := ih (offStep gain step o t)
    rw [List.foldl_cons]
    simp only [offStep] at this ⊢
    omega
theorem offs_in (s : Scale) (gain : Int) : s.off.lo ≤ (offs s gain).lo ∧ (offs s gain).hi ≤ s.off.hi := offs_sub _ _ _ _
theorem tunesN_len (s : Scale) (gain : Int) (n : Nat) : (tunesN s gain n).length ≤ n := by
  induction n with
  | zero => simp [tunesN]
  | succ n ih =>
    simp only [tunesN, List.length_append]
    unfold tuneAt
    split <;> simp <;> omega
def check (b : List Scale) (g : Gear) : Int := if bayOk b then (if gearOk b g then 0 else 41) else 40

/-- What a scale shows for a weight, with a gain and an offset. -/
def readAt (step weight g o : Int) : Int := (weight * (1000 + g) + 1000 * o) / 1000 / step * step
def readT (step weight : Int) (t : Tune) : Span := ⟨readAt step weight t.gain t.off.lo, readAt step weight t.gain t.off.hi⟩
def wider (step weight : Int) (o : Span) (t : Tune) : Span := ⟨min o.lo (readT step weight t).lo, max o.hi (readT step weight t).hi⟩
def readsOf (step weight : Int) : List Tune → Span
  | [] => ⟨0, 0⟩
  | t :: l => l.foldl (wider step weight) (readT step weight t)
def reads (s : Scale) (weight : Int) : Span × Int :=
  if right s then (if inb 0 1000000 weight then (if tunes s = [] then (⟨0, 0⟩, 6) else (readsOf s.step weight (tunes s), 0)) else (⟨0, 0⟩, 2)) else (⟨0, 0⟩, 40)
theorem readAt_bound {step weight g o : Int} (hs : 1 ≤ step ∧ step ≤ 500) (hw : 0 ≤ weight ∧ weight ≤ 1000000) (hg : -10 ≤ g ∧ g ≤ 10) (ho : -100 ≤ o ∧ o ≤ 100) : -1000 ≤ readAt step weight g o ∧ readAt step weight g o ≤ 2000000 := by
  unfold readAt
  have h1 : 0 ≤ weight * (1000 + g) := Int.mul_nonneg (by omega) (by omega)
  have h2 : weight * (1000 + g) ≤ 1000000 * 1010 := Int.mul_le_mul (by omega) (by omega) (by omega) (by omega)
  generalize hn : (weight * (1000 + g) + 1000 * o) / 1000 = n
  have hn1 : -100 ≤ n ∧ n ≤ 1010100 := by omega
  have h3 := Int.ediv_mul_le n (show step ≠ 0 by omega)
  have h4 := Int.lt_ediv_add_one_mul_self n (show 0 < step by omega)
  rw [Int.add_mul] at h4
  omega
theorem tune_bound {s : Scale} {g : Int} {n : Nat} (hr : -10 ≤ g ∧ g + n ≤ 11) : ∀ t ∈ tunesN s g n, (g ≤ t.gain ∧ t.gain < g + n) ∧ s.off.lo ≤ t.off.lo ∧ t.off.lo ≤ t.off.hi ∧ t.off.hi ≤ s.off.hi := by
  induction n with
  | zero => intro t ht; simp [tunesN] at ht
  | succ n ih =>
    intro t ht
    rw [tunesN, List.mem_append] at ht
    rcases ht with ht | ht
    · have := ih (by omega) t ht; omega
    · unfold tuneAt at ht
      split at ht
      · rw [List.mem_singleton] at ht
        subst ht
        have := offs_in s (g + n)
        simp only
        omega
      · cases ht
theorem tunes_bound {s : Scale} (hr : right s = true) : ∀ t ∈ tunes s, (-10 ≤ t.gain ∧ t.gain ≤ 10) ∧ (-100 ≤ t.off.lo ∧ t.off.lo ≤ 100) ∧ (-100 ≤ t.off.hi ∧ t.off.hi ≤ 100) ∧ s.gain.lo ≤ t.gain ∧ t.gain ≤ s.gain.hi ∧ t.off.lo ≤ t.off.hi ∧ s.off.lo ≤ t.off.lo ∧ t.off.hi ≤ s.off.hi := by
  intro t ht
  simp [right, inb, ordered] at hr
  have h := tune_bound (s := s) (g := s.gain.lo) (n := gainN s) (by unfold gainN; omega) t ht
  unfold gainN at h
  omega
theorem wider_bound {step weight : Int} (hs : 1 ≤ step ∧ step ≤ 500) (hw : 0 ≤ weight ∧ weight ≤ 1000000) : ∀ (l : List Tune) (o : Span), (∀ t ∈ l, (-10 ≤ t.gain ∧ t.gain ≤ 10) ∧ (-100 ≤ t.off.lo ∧ t.off.lo ≤ 100) ∧ (-100 ≤ t.off.hi ∧ t.off.hi ≤ 100)) →
    (-4000000 ≤ o.lo ∧ o.lo ≤ 4000000) → (-4000000 ≤ o.hi ∧ o.hi ≤ 4000000) →
    (-4000000 ≤ (l.foldl (wider step weight) o).lo ∧ (l.foldl (wider step weight) o).lo ≤ 4000000) ∧ (-4000000 ≤ (l.foldl (wider step weight) o).hi ∧ (l.foldl (wider step weight) o).hi ≤ 4000000) := by
  intro l
  induction l with
  | nil => intro o _ h1 h2; exact ⟨h1, h2⟩
  | cons t l ih =>
    intro o hl h1 h2
    obtain ⟨hg, ho1, ho2⟩ := hl t (List.mem_cons_self ..)
    have b1 := readAt_bound hs hw hg ho1
    have b2 := readAt_bound hs hw hg ho2
    rw [List.foldl_cons]
    refine ih _ (fun t ht => hl t (List.mem_cons_of_mem _ ht)) ?_ ?_ <;> simp only [wider, readT] <;> omega
theorem readsOf_fold {step weight : Int} (hs : 1 ≤ step ∧ step ≤ 500) (hw : 0 ≤ weight ∧ weight ≤ 1000000) {l : List Tune} (hne : l ≠ []) (hl : ∀ t ∈ l, (-10 ≤ t.gain ∧ t.gain ≤ 10) ∧ (-100 ≤ t.off.lo ∧ t.off.lo ≤ 100) ∧ (-100 ≤ t.off.hi ∧ t.off.hi ≤ 100)) :
    l.foldl (wider step weight) ⟨4000000, -4000000⟩ = readsOf step weight l := by
  cases l with
  | nil => exact absurd rfl hne
  | cons t l =>
    obtain ⟨hg, ho1, ho2⟩ := hl t (List.mem_cons_self ..)
    have b1 := readAt_bound hs hw hg ho1
    have b2 := readAt_bound hs hw hg ho2
    have : wider step weight ⟨4000000, -4000000⟩ t = readT step weight t := by
      simp only [wider, readT]; congr 1 <;> omega
    rw [List.foldl_cons, this]
    rfl
end Kr

/-
  Spans of numbers: the fewest ones of given spans; sums; what numbers they have. Plain laws.
-/
namespace Kr

theorem snoc_cases {α : Type} (l : List α) : l = [] ∨ ∃ r k, l = r ++ [k] := by
  rcases List.eq_nil_or_concat l with h | ⟨r, k, h⟩
  · exact .inl h
  · exact .inr ⟨r, k, by rw [h, List.concat_eq_append]⟩

/-- One span more, behind spans by their lo. -/
def push (few : List Span) (s : Span) : List Span :=
  match few.getLast? with
  | some k => if s.lo ≤ k.hi + 1 then few.dropLast ++ [⟨k.lo, max k.hi s.hi⟩] else few ++ [s]
  | none => [s]
theorem push_nil (s : Span) : push [] s = [s] := rfl
theorem push_snoc (r : List Span) (k s : Span) : push (r ++ [k]) s = if s.lo ≤ k.hi + 1 then r ++ [⟨k.lo, max k.hi s.hi⟩] else r ++ [k] ++ [s] := by
  unfold push
  simp
def loLe (a b : Span) : Bool := decide (a.lo ≤ b.lo)
def merged (l : List Span) : List Span := (l.mergeSort loLe).foldl push []
def ByLo (l : List Span) : Prop := l.Pairwise fun a b => a.lo ≤ b.lo
def Full (l : List Span) : Prop := ∀ s ∈ l, s.lo ≤ s.hi

theorem push_swap (few : List Span) (x a : Span) (h : x.lo = a.lo) (hx : x.lo ≤ x.hi) (ha : a.lo ≤ a.hi) : push (push few x) a = push (push few a) x := by
  rcases snoc_cases few with rfl | ⟨r, k, rfl⟩
  · rw [push_nil, push_nil]
    rw [show [x] = [] ++ [x] from rfl, show [a] = [] ++ [a] from rfl, push_snoc, push_snoc, if_pos (by omega), if_pos (by omega), h, Int.max_comm]
  · rw [push_snoc, push_snoc]
    by_cases hc : x.lo ≤ k.hi + 1
    · rw [if_pos hc, if_pos (by omega), push_snoc, push_snoc, if_pos (by simp only; omega), if_pos (by simp only; omega)]
      simp only [Int.max_assoc, Int.max_comm x.hi]
    · rw [if_neg hc, if_neg (by omega), push_snoc, push_snoc, if_pos (by omega), if_pos (by omega), h, Int.max_comm]
theorem fold_front (p : List Span) (a : Span) (q few : List Span) (hp : ∀ x ∈ p, x.lo = a.lo ∧ x.lo ≤ x.hi) (ha : a.lo ≤ a.hi) : (p ++ a :: q).foldl push few = (a :: (p ++ q)).foldl push few := by
  induction p generalizing few with
  | nil => rfl
  | cons x p ih =>
    rw [List.cons_append, List.foldl_cons, ih _ (fun y hy => hp y (List.mem_cons_of_mem _ hy)), List.foldl_cons, List.foldl_cons, List.cons_append, List.foldl_cons, push_swap _ _ _ (hp x (List.mem_cons_self ..)).1 (hp x (List.mem_cons_self ..)).2 ha]
theorem fold_perm (l1 l2 few : List Span) (hp : l1.Perm l2) (h1 : ByLo l1) (h2 : ByLo l2) (hf : Full l1) : l1.foldl push few = l2.foldl push few := by
  induction l1 generalizing l2 few with
  | nil => rw [List.nil_perm.1 hp]
  | cons a t ih =>
    have hm : a ∈ l2 := hp.mem_iff.1 (List.mem_cons_self ..)
    obtain ⟨p, q, rfl⟩ := List.append_of_mem hm
    have hpl : ∀ x ∈ p, x.lo = a.lo ∧ x.lo ≤ x.hi := fun x hx => by
      have hx2 : x ∈ a :: t := hp.mem_iff.2 (List.mem_append_left _ hx)
      refine ⟨?_, hf x hx2⟩
      have e1 : x.lo ≤ a.lo := (List.pairwise_append.1 h2).2.2 x hx a (List.mem_cons_self ..)
      rcases List.mem_cons.1 hx2 with rfl | hx3
      · rfl
      · have := (List.pairwise_cons.1 h1).1 x hx3; omega
    rw [fold_front p a q few hpl (hf a (List.mem_cons_self ..)), List.foldl_cons, List.foldl_cons]
    have hperm : t.Perm (p ++ q) := by
      have := hp.trans List.perm_middle
      exact (List.perm_cons a).1 this
    refine ih _ _ hperm (List.pairwise_cons.1 h1).2 ?_ (fun s hs => hf s (List.mem_cons_of_mem _ hs))
    exact h2.sublist (List.Sublist.append_left (List.sublist_cons_self a q) p)
theorem byLo_sort (l : List Span) : ByLo (l.mergeSort loLe) := by
  have h := List.pairwise_mergeSort (le := loLe) (fun a b c h1 h2 => by simp [loLe] at *; omega) (fun a b => by simp [loLe]; omega) l
  exact h.imp (fun h => by simpa [loLe] using h)
/-- Whatever order a sort leaves. -/
theorem merged_of {l l' : List Span} (hp : l'.Perm l) (hs : ByLo l') (hf : Full l) : l'.foldl push [] = merged l := by
  refine fold_perm _ _ _ (hp.trans (List.mergeSort_perm l loLe).symm) hs (byLo_sort l) (fun s h => hf s (hp.mem_iff.1 h))

/-- Spans that neither meet nor touch, in order. -/
def Neat (l : List Span) : Prop := Full l ∧ l.Pairwise fun a b => a.hi + 1 < b.lo
/-- A number is in one of them. -/
def has (l : List Span) (x : Int) : Prop := ∃ s ∈ l, s.lo ≤ x ∧ x ≤ s.hi
theorem has_append (a b : List Span) (x : Int) : has (a ++ b) x ↔ has a x ∨ has b x := by
  unfold has
  constructor
  · rintro ⟨s, hs, h⟩; rcases List.mem_append.1 hs with h1 | h1; exact .inl ⟨s, h1, h⟩; exact .inr ⟨s, h1, h⟩
  · rintro (⟨s, hs, h⟩ | ⟨s, hs, h⟩); exact ⟨s, List.mem_append_left _ hs, h⟩; exact ⟨s, List.mem_append_right _ hs, h⟩
theorem has_one (s : Span) (x : Int) : has [s] x ↔ s.lo ≤ x ∧ x ≤ s.hi := by simp [has]
theorem has_nil (x : Int) : ¬ has [] x := by simp [has]
theorem has_perm {l l' : List Span} (h : l.Perm l') (x : Int) : has l x ↔ has l' x := by
  unfold has
  constructor
  · rintro ⟨s, hs, hx⟩; exact ⟨s, h.mem_iff.1 hs, hx⟩
  · rintro ⟨s, hs, hx⟩; exact ⟨s, h.mem_iff.2 hs, hx⟩

/-- All that lies in few stays below s's lo. -/
def Under (few : List Span) (s : Span) : Prop := ∀ k ∈ few, k.lo ≤ s.lo
theorem push_has {few : List Span} {s : Span} (hf : Full few) (hu : Under few s) (_hs : s.lo ≤ s.hi) (x : Int) : has (push few s) x ↔ has few x ∨ (s.lo ≤ x ∧ x ≤ s.hi) := by
  rcases snoc_cases few with rfl | ⟨r, k, rfl⟩
  · rw [push_nil, has_one]; simp [has_nil]
  · have hk : k.lo ≤ k.hi := hf k (by simp)
    have hk2 : k.lo ≤ s.lo := hu k (by simp)
    rw [push_snoc]
    split
    · rw [has_append, has_append, has_one, has_one]
      constructor
      · rintro (h | h)
        · exact .inl (.inl h)
        · simp only at h
          by_cases hx : x ≤ k.hi
          · exact .inl (.inr ⟨by omega, hx⟩)
          · exact .inr ⟨by omega, by omega⟩
      · rintro ((h | h) | h)
        · exact .inl h
        · exact .inr ⟨by simp only; omega, by simp only; omega⟩
        · exact .inr ⟨by simp only; omega, by simp only; omega⟩
    · rw [has_append, has_one]
theorem push_neat {few : List Span} {s : Span} (hn : Neat few) (hu : Under few s) (hs : s.lo ≤ s.hi) : Neat (push few s) := by
  rcases snoc_cases few with rfl | ⟨r, k, rfl⟩
  · rw [push_nil]; exact ⟨fun y hy => by rw [List.mem_singleton.1 hy]; exact hs, List.pairwise_singleton _ _⟩
  · obtain ⟨hf, hp⟩ := hn
    have hp' := List.pairwise_append.1 hp
    have hk : k.lo ≤ k.hi := hf k (by simp)
    have hk2 : k.lo ≤ s.lo := hu k (by simp)
    rw [push_snoc]
    split
    · refine ⟨fun y hy => ?_, List.pairwise_append.2 ⟨hp'.1, List.pairwise_singleton _ _, fun a ha b hb => ?_⟩⟩
      · rcases List.mem_append.1 hy with h | h
        · exact hf y (List.mem_append_left _ h)
        · rw [List.mem_singleton.1 h]; simp only; omega
      · rw [List.mem_singleton.1 hb]; exact hp'.2.2 a ha k (by simp)
    · rename_i hc
      refine ⟨fun y hy => ?_, List.pairwise_append.2 ⟨hp, List.pairwise_singleton _ _, fun a ha b hb => ?_⟩⟩
      · rcases List.mem_append.1 hy with h | h
        · exact hf y h
        · rw [List.mem_singleton.1 h]; exact hs
      · rw [List.mem_singleton.1 hb]
        rcases List.mem_append.1 ha with h | h
        · have := hp'.2.2 a h k (by simp); have := hf a (List.mem_append_left _ h); omega
        · rw [List.mem_singleton.1 h]; omega
theorem push_under {few : List Span} {s t : Span} (hu : Under few s) (ht : s.lo ≤ t.lo) : Under (push few s) t := by
  rcases snoc_cases few with rfl | ⟨r, k, rfl⟩
  · rw [push_nil]; intro y hy; rw [List.mem_singleton.1 hy]; exact ht
  · have hk2 : k.lo ≤ s.lo := hu k (by simp)
    rw [push_snoc]
    split
    · intro y hy
      rcases List.mem_append.1 hy with h | h
      · have := hu y (List.mem_append_left _ h); omega
      · rw [List.mem_singleton.1 h]; simp only; omega
    · intro y hy
      rcases List.mem_append.1 hy with h | h
      · have := hu y h; omega
      · rw [List.mem_singleton.1 h]; exact ht
theorem fold_neat (l few : List Span) (h1 : ByLo l) (hf : Full l) (hn : Neat few) (hu : ∀ s ∈ l, Under few s) : Neat (l.foldl push few) ∧ ∀ x, has (l.foldl push few) x ↔ has few x ∨ has l x := by
  induction l generalizing few with
  | nil => exact ⟨hn, fun x => by simp [has_nil]⟩
  | cons s l ih =>
    have hs := hf s (List.mem_cons_self ..)
    have hus := hu s (List.mem_cons_self ..)
    have h2 := List.pairwise_cons.1 h1
    have := ih (push few s) h2.2 (fun t ht => hf t (List.mem_cons_of_mem _ ht)) (push_neat hn hus hs) (fun t ht => push_under hus (h2.1 t ht))
    refine ⟨this.1, fun x => ?_⟩
    rw [List.foldl_cons, this.2 x, push_has hn.1 hus hs, show (s :: l) = [s] ++ l from rfl, has_append, has_one, or_assoc]
theorem merged_neat {l : List Span} (hf : Full l) : Neat (merged l) :=
  (fold_neat _ [] (byLo_sort l) (fun s hs => hf s ((List.mergeSort_perm l loLe).mem_iff.1 hs)) ⟨fun _ h => by simp at h, List.Pairwise.nil⟩ (fun _ _ _ h => by simp at h)).1
theorem merged_has {l : List Span} (hf : Full l) (x : Int) : has (merged l) x ↔ has l x := by
  have := (fold_neat _ [] (byLo_sort l) (fun s hs => hf s ((List.mergeSort_perm l loLe).mem_iff.1 hs)) ⟨fun _ h => by simp at h, List.Pairwise.nil⟩ (fun _ _ _ h => by simp at h)).2 x
  unfold merged
  rw [this, has_perm (List.mergeSort_perm l loLe)]
  simp [has_nil]
theorem merged_full {l : List Span} (hf : Full l) : Full (merged l) := (merged_neat hf).1

/-- Ends lie from a to b. -/
def Within (a b : Int) (l : List Span) : Prop := ∀ s ∈ l, a ≤ s.lo ∧ s.hi ≤ b
theorem within_has {a b : Int} {l : List Span} (hf : Full l) : Within a b l ↔ ∀ x, has l x → a ≤ x ∧ x ≤ b := by
  constructor
  · rintro h x ⟨s, hs, h1, h2⟩; have := h s hs; omega
  · intro h s hs
    have hs2 := hf s hs
    have h1 := h s.lo ⟨s, hs, by omega, hs2⟩
    have h2 := h s.hi ⟨s, hs, hs2, by omega⟩
    omega
theorem merged_within {a b : Int} {l : List Span} (hf : Full l) (h : Within a b l) : Within a b (merged l) := by
  rw [within_has (merged_full hf)]
  intro x hx
  exact (within_has hf).1 h x ((merged_has hf x).1 hx)
theorem neat_len {a b : Int} {l : List Span} (hn : Neat l) (h : Within a b l) (hab : a ≤ b + 1) : (l.length : Int) ≤ b + 1 - a := by
  obtain ⟨hf, hp⟩ := hn
  induction l generalizing a with
  | nil => simp; omega
  | cons s l ih =>
    have h2 := List.pairwise_cons.1 hp
    have hs := hf s (List.mem_cons_self ..)
    have hs2 := h s (List.mem_cons_self ..)
    have := ih (a := s.hi + 1) (fun t ht => ⟨by have := h2.1 t ht; omega, (h t (List.mem_cons_of_mem _ ht)).2⟩) (by omega) (fun t ht => hf t (List.mem_cons_of_mem _ ht)) h2.2
    rw [List.length_cons]
    omega
theorem merged_len (l : List Span) : (merged l).length ≤ l.length := by
  have key : ∀ (l few : List Span), (l.foldl push few).length ≤ few.length + l.length := by
    intro l
    induction l with
    | nil => intro few; simp
    | cons s l ih =>
      intro few
      rw [List.foldl_cons]
      have := ih (push few s)
      have h2 : (push few s).length ≤ few.length + 1 := by
        rcases snoc_cases few with rfl | ⟨r, k, rfl⟩
        · simp [push_nil]
        · rw [push_snoc]; split <;> simp
      rw [List.length_cons]; omega
  have := key (l.mergeSort loLe) []
  rw [List.length_mergeSort] at this
  simpa [merged] using this
theorem merged_nil : merged [] = [] := by simp [merged]
theorem push_ne (few : List Span) (s : Span) : push few s ≠ [] := by
  unfold push
  split
  · split <;> simp
  · simp
theorem merged_eq_nil {l : List Span} : merged l = [] ↔ l = [] := by
  constructor
  · intro h
    rcases snoc_cases (l.mergeSort loLe) with h1 | ⟨r, k, h1⟩
    · have h2 := congrArg List.length h1
      rw [List.length_mergeSort] at h2
      exact List.eq_nil_of_length_eq_zero h2
    · unfold merged at h
      rw [h1, List.foldl_append] at h
      exact absurd h (push_ne _ _)
  · rintro rfl; exact merged_nil

/-- All sums of one span and others. -/
def crossed (a b : List Span) : List Span := a.flatMap fun s => b.map fun t => ⟨s.lo + t.lo, s.hi + t.hi⟩
def plus (a b : List Span) : List Span := merged (crossed a b)
theorem crossed_full {a b : List Span} (ha : Full a) (hb : Full b) : Full (crossed a b) := by
  intro s hs
  simp only [crossed, List.mem_flatMap, List.mem_map] at hs
  obtain ⟨x, hx, y, hy, rfl⟩ := hs
  have := ha x hx
  have := hb y hy
  simp only; omega
theorem crossed_within {a b : List Span} {p q r t : Int} (ha : Within p q a) (hb : Within r t b) : Within (p + r) (q + t) (crossed a b) := by
  intro s hs
  simp only [crossed, List.mem_flatMap, List.mem_map] at hs
  obtain ⟨x, hx, y, hy, rfl⟩ := hs
  have := ha x hx
  have := hb y hy
  simp only; omega
theorem crossed_len (a b : List Span) : (crossed a b).length = a.length * b.length := by
  unfold crossed
  induction a with
  | nil => simp
  | cons x l ih => rw [List.flatMap_cons, List.length_append, ih, List.length_map, List.length_cons, Nat.succ_mul]; omega
theorem crossed_has {a b : List Span} (ha : Full a) (hb : Full b) (x : Int) : has (crossed a b) x ↔ ∃ y z, has a y ∧ has b z ∧ x = y + z := by
  constructor
  · rintro ⟨s, hs, h1, h2⟩
    simp only [crossed, List.mem_flatMap, List.mem_map] at hs
    obtain ⟨u, hu, v, hv, rfl⟩ := hs
    simp only at h1 h2
    have hu2 := ha u hu
    have hv2 := hb v hv
    by_cases hc : x - u.lo ≤ v.hi
    · exact ⟨u.lo, x - u.lo, ⟨u, hu, by omega, hu2⟩, ⟨v, hv, by omega, hc⟩, by omega⟩
    · exact ⟨x - v.hi, v.hi, ⟨u, hu, by omega, by omega⟩, ⟨v, hv, hv2, by omega⟩, by omega⟩
  · rintro ⟨y, z, ⟨u, hu, h1, h2⟩, ⟨v, hv, h3, h4⟩, rfl⟩
    refine ⟨⟨u.lo + v.lo, u.hi + v.hi⟩, ?_, by simp only; omega, by simp only; omega⟩
    simp only [crossed, List.mem_flatMap, List.mem_map]
    exact ⟨u, hu, v, hv, rfl⟩
theorem plus_neat {a b : List Span} (ha : Full a) (hb : Full b) : Neat (plus a b) := merged_neat (crossed_full ha hb)
theorem plus_full {a b : List Span} (ha : Full a) (hb : Full b) : Full (plus a b) := (plus_neat ha hb).1
theorem plus_within {a b : List Span} {p q r t : Int} (ha : Full a) (hb : Full b) (h1 : Within p q a) (h2 : Within r t b) : Within (p + r) (q + t) (plus a b) := merged_within (crossed_full ha hb) (crossed_within h1 h2)
theorem plus_has {a b : List Span} (ha : Full a) (hb : Full b) (x : Int) : has (plus a b) x ↔ ∃ y z, has a y ∧ has b z ∧ x = y + z := by
  unfold plus
  rw [merged_has (crossed_full ha hb), crossed_has ha hb]

/-- Neat spans are told by their numbers. -/
theorem neat_ext {a b : List Span} (ha : Neat a) (hb : Neat b) (h : ∀ x, has a x ↔ has b x) : a = b := by
  obtain ⟨fa, pa⟩ := ha
  obtain ⟨fb, pb⟩ := hb
  induction a generalizing b with
  | nil =>
    cases b with
    | nil => rfl
    | cons t b => exact absurd ((h t.lo).2 ⟨t, List.mem_cons_self .., by omega, fb t (List.mem_cons_self ..)⟩) (has_nil _)
  | cons s a ih =>
    cases b with
    | nil => exact absurd ((h s.lo).1 ⟨s, List.mem_cons_self .., by omega, fa s (List.mem_cons_self ..)⟩) (has_nil _)
    | cons t b =>
      have hs := fa s (List.mem_cons_self ..)
      have ht := fb t (List.mem_cons_self ..)
      have pa' := List.pairwise_cons.1 pa
      have pb' := List.pairwise_cons.1 pb
      have min1 : ∀ x, has (s :: a) x → s.lo ≤ x := by
        rintro x ⟨y, hy, h1, h2⟩
        rcases List.mem_cons.1 hy with rfl | hy
        · exact h1
        · have := pa'.1 y hy; omega
      have min2 : ∀ x, has (t :: b) x → t.lo ≤ x := by
        rintro x ⟨y, hy, h1, h2⟩
        rcases List.mem_cons.1 hy with rfl | hy
        · exact h1
        · have := pb'.1 y hy; omega
      have e1 : s.lo = t.lo := by
        have := min2 s.lo ((h _).1 ⟨s, List.mem_cons_self .., by omega, hs⟩)
        have := min1 t.lo ((h _).2 ⟨t, List.mem_cons_self .., by omega, ht⟩)
        omega
      have gap1 : ¬ has (s :: a) (s.hi + 1) := by
        rintro ⟨y, hy, h1, h2⟩
        rcases List.mem_cons.1 hy with rfl | hy
        · omega
        · have := pa'.1 y hy; omega
      have gap2 : ¬ has (t :: b) (t.hi + 1) := by
        rintro ⟨y, hy, h1, h2⟩
        rcases List.mem_cons.1 hy with rfl | hy
        · omega
        · have := pb'.1 y hy; omega
      have e2 : s.hi = t.hi := by
        rcases Int.lt_trichotomy s.hi t.hi with hc | hc | hc
        · exact absurd ((h _).2 ⟨t, List.mem_cons_self .., by omega, by omega⟩) gap1
        · exact hc
        · exact absurd ((h _).1 ⟨s, List.mem_cons_self .., by omega, by omega⟩) gap2
      obtain rfl : s = t := by cases s; cases t; simp only at e1 e2; subst e1 e2; rfl
      congr 1
      refine ih (b := b) (fun x => ?_) (fun y hy => fa y (List.mem_cons_of_mem _ hy)) pa'.2 (fun y hy => fb y (List.mem_cons_of_mem _ hy)) pb'.2
      have hx := h x
      rw [show s :: a = [s] ++ a from rfl, show s :: b = [s] ++ b from rfl, has_append, has_append, has_one] at hx
      constructor
      · intro ha
        rcases hx.1 (.inr ha) with hc | hc
        · obtain ⟨y, hy, h1, _⟩ := ha
          have := pa'.1 y hy; omega
        · exact hc
      · intro hb
        rcases hx.2 (.inr hb) with hc | hc
        · obtain ⟨y, hy, h1, _⟩ := hb
          have := pb'.1 y hy; omega
        · exact hc
end Kr

/-
  The totals of gear, and the first truth with a total. Plain laws.
-/
namespace Kr

/-- The weights for which a scale with a gain and an offset shows a number. -/
def wt (step gain off n : Int) : Span := ⟨max 0 (-(-1000 * (n - off) / (1000 + gain))), min 1000000 ((1000 * (n + step - off) - 1) / (1000 + gain))⟩
/-- A truth of a scale, and what its loads weigh together. -/
structure Part where
  gain : Int
  off : Int
  sum : Span
  deriving DecidableEq, Inhabited
def addLoad (s : Scale) (gain off : Int) (x : Option Span) (l : Load) : Option Span :=
  if l.scale = s.id then
    match x with
    | some x => if (wt s.step gain off l.shown).lo ≤ (wt s.step gain off l.shown).hi then some ⟨x.lo + (wt s.step gain off l.shown).lo, x.hi + (wt s.step gain off l.shown).hi⟩ else none
    | none => none
  else x
def partSum (s : Scale) (gain off : Int) (ls : List Load) : Option Span := ls.foldl (addLoad s gain off) (some ⟨0, 0⟩)
def partAt (s : Scale) (ls : List Load) (gain off : Int) : List Part :=
  match partSum s gain off ls with
  | some x => [⟨gain, off, x⟩]
  | none => []
def partsN (s : Scale) (ls : List Load) (gain lo : Int) : Nat → List Part
  | 0 => []
  | n + 1 => partsN s ls gain lo n ++ partAt s ls gain (lo + n)
def offN (t : Tune) : Nat := (t.off.hi - t.off.lo + 1).toNat
def partsT (s : Scale) (ls : List Load) (t : Tune) : List Part := partsN s ls t.gain t.off.lo (offN t)
def partsL (s : Scale) (ls : List Load) (l : List Tune) : List Part := l.flatMap (partsT s ls)
def parts (s : Scale) (ls : List Load) : List Part := partsL s ls (tunes s)
theorem gainN_le {s : Scale} (hr : right s = true) : gainN s ≤ 21 := by
  simp [right, inb, ordered] at hr
  unfold gainN; omega
theorem addLoad_none (s : Scale) (gain off : Int) (ls : List Load) : ls.foldl (addLoad s gain off) none = none := by
  induction ls with
  | nil => rfl
  | cons l ls ih =>
    rw [List.foldl_cons, show addLoad s gain off none l = none from by unfold addLoad; split <;> rfl, ih]

theorem wt_bound (step gain off n : Int) : 0 ≤ (wt step gain off n).lo ∧ (wt step gain off n).hi ≤ 1000000 := by
  unfold wt; simp only; omega
theorem sum_bound {s : Scale} {gain off : Int} (ls : List Load) {o x : Span} {a : Int} (ha : 0 ≤ o.lo ∧ o.lo ≤ o.hi ∧ o.hi ≤ a) (h : ls.foldl (addLoad s gain off) (some o) = some x) : 0 ≤ x.lo ∧ x.lo ≤ x.hi ∧ x.hi ≤ a + 1000000 * ls.length := by
  induction ls generalizing o a with
  | nil => cases h; simp; omega
  | cons l ls ih =>
    rw [List.foldl_cons] at h
    by_cases hl : l.scale = s.id
    · have hw := wt_bound s.step gain off l.shown
      by_cases hc : (wt s.step gain off l.shown).lo ≤ (wt s.step gain off l.shown).hi
      · rw [show addLoad s gain off (some o) l = some ⟨o.lo + (wt s.step gain off l.shown).lo, o.hi + (wt s.step gain off l.shown).hi⟩ from by unfold addLoad; rw [if_pos hl]; simp only; rw [if_pos hc]] at h
        have := ih (a := a + 1000000) (by simp only; omega) h
        rw [List.length_cons]; omega
      · rw [show addLoad s gain off (some o) l = none from by unfold addLoad; rw [if_pos hl]; simp only; rw [if_neg hc], addLoad_none] at h
        cases h
    · rw [show addLoad s gain off (some o) l = some o from by unfold addLoad; rw [if_neg hl]] at h
      have := ih ha h
      rw [List.length_cons]; omega
theorem partSum_bound {s : Scale} {gain off : Int} {ls : List Load} {x : Span} (h : partSum s gain off ls = some x) : 0 ≤ x.lo ∧ x.lo ≤ x.hi ∧ x.hi ≤ 1000000 * ls.length := by
  have := sum_bound ls (a := 0) (o := ⟨0, 0⟩) (by simp) h
  omega
def Good (k : Nat) (l : List Part) : Prop := ∀ p ∈ l, 0 ≤ p.sum.lo ∧ p.sum.lo ≤ p.sum.hi ∧ p.sum.hi ≤ 1000000 * (k : Int)
theorem partAt_good (s : Scale) (ls : List Load) (gain off : Int) : Good ls.length (partAt s ls gain off) := by
  intro p hp
  unfold partAt at hp
  split at hp
  · rename_i x hx
    rw [List.mem_singleton.1 hp]
    exact partSum_bound hx
  · cases hp
theorem partsN_good (s : Scale) (ls : List Load) (gain lo : Int) (n : Nat) : Good ls.length (partsN s ls gain lo n) := by
  induction n with
  | zero => intro p hp; cases hp
  | succ n ih =>
    intro p hp
    rcases List.mem_append.1 hp with h | h
    · exact ih p h
    · exact partAt_good _ _ _ _ p h
theorem partsN_len (s : Scale) (ls : List Load) (gain lo : Int) (n : Nat) : (partsN s ls gain lo n).length ≤ n := by
  induction n with
  | zero => simp [partsN]
  | succ n ih =>
    rw [partsN, List.length_append]
    have : (partAt s ls gain (lo + n)).length ≤ 1 := by unfold partAt; split <;> simp
    omega
theorem partsL_good (s : Scale) (ls : List Load) (l : List Tune) : Good ls.length (partsL s ls l) := by
  intro p hp
  obtain ⟨t, _, hp⟩ := List.mem_flatMap.1 hp
  exact partsN_good _ _ _ _ _ p hp
theorem partsL_len (s : Scale) (ls : List Load) (l : List Tune) (h : ∀ t ∈ l, -100 ≤ t.off.lo ∧ t.off.hi ≤ 100) : (partsL s ls l).length ≤ 201 * l.length := by
  induction l with
  | nil => simp [partsL]
  | cons t l ih =>
    have h1 := ih (fun t ht => h t (List.mem_cons_of_mem _ ht))
    have h2 := partsN_len s ls t.gain t.off.lo (offN t)
    have h3 := h t (List.mem_cons_self ..)
    unfold partsL at h1 ⊢
    rw [List.flatMap_cons, List.length_append, List.length_cons]
    have : offN t ≤ 201 := by unfold offN; omega
    unfold partsT at *
    omega
theorem parts_good (s : Scale) (ls : List Load) : Good ls.length (parts s ls) := partsL_good _ _ _
theorem parts_len {s : Scale} (ls : List Load) (hr : right s = true) : (parts s ls).length ≤ 4221 := by
  have h1 := partsL_len s ls (tunes s) (fun t ht => by have := tunes_bound hr t ht; omega)
  have h2 := tunesN_len s s.gain.lo (gainN s)
  simp [right, inb, ordered] at hr
  have h3 : gainN s ≤ 21 := by unfold gainN; omega
  unfold parts
  unfold tunes at h1 ⊢
  omega

/-- The scales that some load names. -/
def usedB (ls : List Load) (s : Scale) : Bool := ls.any fun l => l.scale == s.id
def used (b : List Scale) (ls : List Load) : List Scale := b.filter (usedB ls)
def sums (l : List Part) : List Span := merged (l.map Part.sum)
def totalsL (ls : List Load) (all : List Span) (l : List Scale) : List Span := l.foldl (fun all s => plus all (sums (parts s ls))) all
def totals (b : List Scale) (g : Gear) : List Span := totalsL g.loads [⟨g.added, g.added⟩] (used b g.loads)
theorem good_full {k : Nat} {l : List Part} (h : Good k l) : Full (l.map Part.sum) := by
  intro s hs
  obtain ⟨p, hp, rfl⟩ := List.mem_map.1 hs
  exact (h p hp).2.1
theorem good_within {k : Nat} {l : List Part} (h : Good k l) : Within 0 (1000000 * k) (l.map Part.sum) := by
  intro s hs
  obtain ⟨p, hp, rfl⟩ := List.mem_map.1 hs
  exact ⟨(h p hp).1, (h p hp).2.2⟩
theorem sums_neat {k : Nat} {l : List Part} (h : Good k l) : Neat (sums l) := merged_neat (good_full h)
theorem sums_within {k : Nat} {l : List Part} (h : Good k l) : Within 0 (1000000 * k) (sums l) := merged_within (good_full h) (good_within h)
theorem sums_has {k : Nat} {l : List Part} (h : Good k l) (x : Int) : has (sums l) x ↔ ∃ p ∈ l, p.sum.lo ≤ x ∧ x ≤ p.sum.hi := by
  unfold sums
  rw [merged_has (good_full h)]
  constructor
  · rintro ⟨s, hs, h⟩
    obtain ⟨p, hp, rfl⟩ := List.mem_map.1 hs
    exact ⟨p, hp, h⟩
  · rintro ⟨p, hp, h⟩
    exact ⟨p.sum, List.mem_map.2 ⟨p, hp, rfl⟩, h⟩
theorem totalsL_ok (ls : List Load) (l : List Scale) (all : List Span) (a c : Int) (hn : Neat all) (hw : Within a c all) : Neat (totalsL ls all l) ∧ Within a (c + 1000000 * ls.length * l.length) (totalsL ls all l) := by
  induction l generalizing all c with
  | nil => exact ⟨hn, by simpa [totalsL] using hw⟩
  | cons s l ih =>
    have hg := parts_good s ls
    have h1 := plus_neat hn.1 (sums_neat hg).1
    have h2 := plus_within hn.1 (sums_neat hg).1 hw (sums_within hg)
    have := ih _ _ h1 (by rw [Int.add_zero] at h2; exact h2)
    refine ⟨this.1, ?_⟩
    have h3 := this.2
    rw [List.length_cons, show c + 1000000 * (ls.length : Int) * ((l.length + 1 : Nat) : Int) = c + 1000000 * ls.length + 1000000 * ls.length * l.length from by rw [Int.natCast_add, Int.mul_add]; simp; omega]
    exact h3

/-! ### What several scales can weigh together, and the first truth -/
def restOf : List (List Part) → List Span
  | [] => [⟨0, 0⟩]
  | p :: ps => plus (sums p) (restOf ps)
def GoodAll (k : Nat) (ps : List (List Part)) : Prop := ∀ p ∈ ps, Good k p
theorem restOf_ok {k : Nat} {ps : List (List Part)} (h : GoodAll k ps) : Neat (restOf ps) ∧ Within 0 (1000000 * k * ps.length) (restOf ps) := by
  induction ps with
  | nil => exact ⟨⟨fun s hs => by rw [List.mem_singleton.1 hs]; simp, List.pairwise_singleton _ _⟩, fun s hs => by rw [List.mem_singleton.1 hs]; simp⟩
  | cons p ps ih =>
    have ih := ih (fun q hq => h q (List.mem_cons_of_mem _ hq))
    have hg := h p (List.mem_cons_self ..)
    refine ⟨plus_neat (sums_neat hg).1 ih.1.1, ?_⟩
    have := plus_within (sums_neat hg).1 ih.1.1 (sums_within hg) ih.2
    rw [List.length_cons, show 1000000 * (k : Int) * ((ps.length + 1 : Nat) : Int) = 1000000 * k + 1000000 * k * ps.length from by rw [Int.natCast_add, Int.mul_add]; simp; omega]
    exact this
theorem rest_has {k : Nat} {p : List Part} {ps : List (List Part)} (h : GoodAll k (p :: ps)) (x : Int) : has (restOf (p :: ps)) x ↔ ∃ q ∈ p, ∃ y, has (restOf ps) y ∧ q.sum.lo ≤ x - y ∧ x - y ≤ q.sum.hi := by
  have hg := h p (List.mem_cons_self ..)
  have ho := restOf_ok (fun q hq => h q (List.mem_cons_of_mem _ hq))
  rw [restOf, plus_has (sums_neat hg).1 ho.1.1]
  constructor
  · rintro ⟨y, z, hy, hz, rfl⟩
    obtain ⟨q, hq, h1, h2⟩ := (sums_has hg y).1 hy
    exact ⟨q, hq, z, hz, by omega, by omega⟩
  · rintro ⟨q, hq, y, hy, h1, h2⟩
    exact ⟨x - y, y, (sums_has hg _).2 ⟨q, hq, h1, h2⟩, hy, by omega⟩
theorem totalsL_has {ls : List Load} (l : List Scale) (all : List Span) (hn : Neat all) (x : Int) : has (totalsL ls all l) x ↔ ∃ y z, has all y ∧ has (restOf (l.map fun s => parts s ls)) z ∧ x = y + z := by
  induction l generalizing all with
  | nil =>
    constructor
    · intro h; exact ⟨x, 0, h, ⟨⟨0, 0⟩, by simp [restOf], by simp, by simp⟩, by omega⟩
    · rintro ⟨y, z, hy, ⟨s, hs, h1, h2⟩, rfl⟩
      simp [restOf] at hs; subst hs
      obtain rfl : z = 0 := by simp only at h1 h2; omega
      rw [Int.add_zero]; exact hy
  | cons s l ih =>
    have hg := parts_good s ls
    have h1 := plus_neat hn.1 (sums_neat hg).1
    have ho : Neat (restOf (l.map fun s => parts s ls)) := (restOf_ok (k := ls.length) (fun q hq => by obtain ⟨t, _, rfl⟩ := List.mem_map.1 hq; exact parts_good t ls)).1
    rw [show totalsL ls all (s :: l) = totalsL ls (plus all (sums (parts s ls))) l from rfl, ih _ h1, List.map_cons, restOf]
    constructor
    · rintro ⟨y, z, hy, hz, rfl⟩
      obtain ⟨u, v, hu, hv, rfl⟩ := (plus_has hn.1 (sums_neat hg).1 y).1 hy
      exact ⟨u, v + z, hu, (plus_has (sums_neat hg).1 ho.1 _).2 ⟨v, z, hv, hz, rfl⟩, by omega⟩
    · rintro ⟨y, z, hy, hz, rfl⟩
      obtain ⟨u, v, hu, hv, rfl⟩ := (plus_has (sums_neat hg).1 ho.1 z).1 hz
      exact ⟨y + u, v, (plus_has hn.1 (sums_neat hg).1 _).2 ⟨y, u, hy, hu, rfl⟩, hv, by omega⟩

/-- Some spans have a number from lo to hi. -/
def touches (l : List Span) (lo hi : Int) : Bool := l.any fun t => decide (t.lo ≤ hi) && decide (lo ≤ t.hi)
theorem touches_iff {l : List Span} (hf : Full l) (lo hi : Int) (h : lo ≤ hi) : touches l lo hi = true ↔ ∃ y, has l y ∧ lo ≤ y ∧ y ≤ hi := by
  unfold touches
  rw [List.any_eq_true]
  constructor
  · rintro ⟨t, ht, h1⟩
    simp at h1
    have := hf t ht
    by_cases hc : lo ≤ t.lo
    · exact ⟨t.lo, ⟨t, ht, by omega, this⟩, hc, h1.1⟩
    · exact ⟨lo, ⟨t, ht, by omega, h1.2⟩, by omega, h⟩
  · rintro ⟨y, ⟨t, ht, h1, h2⟩, h3, h4⟩
    exact ⟨t, ht, by simp; omega⟩
/-- What is left behind a part. -/
def leave (left : Span) (p : Part) : Span := ⟨left.lo - p.sum.hi, left.hi - p.sum.lo⟩
def fitsB (ps : List (List Part)) (left : Span) (p : Part) : Bool := touches (restOf ps) (left.lo - p.sum.hi) (left.hi - p.sum.lo)
/-- The first part of each scale with which the others can be enough. -/
def greedy : Span → List (List Part) → Option (List Part × Span)
  | left, [] => some ([], left)
  | left, p :: ps =>
    match p.find? (fitsB ps left) with
    | some q => match greedy (leave left q) ps with | some (l, r) => some (q :: l, r) | none => none
    | none => none
theorem greedy_yes {k : Nat} {ps : List (List Part)} {left : Span} (hg : GoodAll k ps) (hl : left.lo ≤ left.hi) (h : ∃ y, has (restOf ps) y ∧ left.lo ≤ y ∧ y ≤ left.hi) : ∃ l r, greedy left ps = some (l, r) ∧ r.lo ≤ 0 ∧ 0 ≤ r.hi := by
  induction ps generalizing left with
  | nil =>
    obtain ⟨y, ⟨s, hs, h1, h2⟩, h3, h4⟩ := h
    simp [restOf] at hs; subst hs
    exact ⟨[], left, rfl, by simp only at h1 h2; omega, by simp only at h1 h2; omega⟩
  | cons p ps ih =>
    obtain ⟨y, hy, h3, h4⟩ := h
    obtain ⟨q, hq, z, hz, h5, h6⟩ := (rest_has hg y).1 hy
    have hg2 : GoodAll k ps := fun q hq => hg q (List.mem_cons_of_mem _ hq)
    have ho := restOf_ok hg2
    have hfit : ∀ q ∈ p, fitsB ps left q = true ↔ ∃ y, has (restOf ps) y ∧ (leave left q).lo ≤ y ∧ y ≤ (leave left q).hi := fun q hq => by
      have := hg p (List.mem_cons_self ..) q hq
      exact touches_iff ho.1.1 _ _ (by omega)
    have hs : (p.find? (fitsB ps left)).isSome := by
      rw [List.find?_isSome]
      exact ⟨q, hq, (hfit q hq).2 ⟨z, hz, by unfold leave; simp only; omega, by unfold leave; simp only; omega⟩⟩
    obtain ⟨q', hq'⟩ := Option.isSome_iff_exists.1 hs
    have hm := List.mem_of_find?_eq_some hq'
    have hgq := hg p (List.mem_cons_self ..) q' hm
    obtain ⟨l, r, h7, h8⟩ := ih hg2 (left := leave left q') (by unfold leave; simp only; omega) ((hfit q' hm).1 (List.find?_some hq'))
    exact ⟨q' :: l, r, by simp only [greedy, hq', h7], h8⟩
theorem greedy_no {k : Nat} {ps : List (List Part)} {left : Span} (hg : GoodAll k ps) (hl : left.lo ≤ left.hi) {l : List Part} {r : Span} (h : greedy left ps = some (l, r)) (h1 : r.lo ≤ 0) (h2 : 0 ≤ r.hi) : ∃ y, has (restOf ps) y ∧ left.lo ≤ y ∧ y ≤ left.hi := by
  induction ps generalizing left l with
  | nil => cases h; exact ⟨0, ⟨⟨0, 0⟩, by simp [restOf], by simp, by simp⟩, h1, h2⟩
  | cons p ps ih =>
    have hg2 : GoodAll k ps := fun q hq => hg q (List.mem_cons_of_mem _ hq)
    simp only [greedy] at h
    split at h
    · rename_i q hq
      split at h
      · rename_i l' r' h3
        cases h
        have hm := List.mem_of_find?_eq_some hq
        have hgq := hg p (List.mem_cons_self ..) q hm
        obtain ⟨y, hy, h4, h5⟩ := ih hg2 (left := leave left q) (by unfold leave; simp only; omega) h3
        unfold leave at h4 h5
        simp only at h4 h5
        by_cases hc : left.lo ≤ y + q.sum.hi ∧ y + q.sum.hi ≤ left.hi
        · exact ⟨y + q.sum.hi, (rest_has hg _).2 ⟨q, hm, y, hy, by omega, by omega⟩, hc⟩
        · by_cases hc2 : left.lo ≤ y + q.sum.lo
          · exact ⟨y + q.sum.lo, (rest_has hg _).2 ⟨q, hm, y, hy, by omega, by omega⟩, hc2, by omega⟩
          · exact ⟨left.lo, (rest_has hg _).2 ⟨q, hm, y, hy, by omega, by omega⟩, by omega, hl⟩
      · cases h
    · cases h
def Chosen : List Part → List (List Part) → Prop
  | [], [] => True
  | q :: l, p :: ps => q ∈ p ∧ Chosen l ps
  | _, _ => False
theorem greedy_spec {k : Nat} {ps : List (List Part)} {left : Span} (hg : GoodAll k ps) {l : List Part} {r : Span} (h : greedy left ps = some (l, r)) : Chosen l ps ∧ r = ⟨left.lo - (l.map fun q => q.sum.hi).sum, left.hi - (l.map fun q => q.sum.lo).sum⟩ := by
  induction ps generalizing left l with
  | nil => cases h; exact ⟨trivial, by simp⟩
  | cons p ps ih =>
    have hg2 : GoodAll k ps := fun q hq => hg q (List.mem_cons_of_mem _ hq)
    simp only [greedy] at h
    split at h
    · rename_i q hq
      split at h
      · rename_i l' r' h3
        cases h
        have := ih hg2 h3
        refine ⟨⟨List.mem_of_find?_eq_some hq, this.1⟩, ?_⟩
        rw [this.2]
        simp only [leave, List.map_cons, List.sum_cons, Span.mk.injEq]
        omega
      · cases h
    · cases h

/-! ### Weights: the least ones first -/
def sumLo (l : List Span) : Int := (l.map Span.lo).sum
def sumHi (l : List Span) : Int := (l.map Span.hi).sum
/-- What lacks is laid on the last ones: the weights, and what still lacks. -/
def layB (lacks : Int) : List Span → List Int × Int
  | [] => ([], lacks)
  | s :: r => ((s.lo + min (layB lacks r).2 (s.hi - s.lo)) :: (layB lacks r).1, (layB lacks r).2 - min (layB lacks r).2 (s.hi - s.lo))
/-- The least weights, such that those after them are enough. -/
def layF (need : Int) : List Span → List Int
  | [] => []
  | s :: r => max s.lo (need - sumHi r) :: layF (need - max s.lo (need - sumHi r)) r
theorem layB_left {l : List Span} (hf : Full l) (lacks : Int) (h : 0 ≤ lacks) : (layB lacks l).2 = max 0 (lacks - (sumHi l - sumLo l)) := by
  induction l with
  | nil => simp [layB, sumHi, sumLo]; omega
  | cons s l ih =>
    have ih := ih (fun t ht => hf t (List.mem_cons_of_mem _ ht))
    have hs := hf s (List.mem_cons_self ..)
    simp only [layB, ih, sumHi, sumLo, List.map_cons, List.sum_cons]
    omega
theorem sum_le {l : List Span} (hf : Full l) : sumLo l ≤ sumHi l := by
  induction l with
  | nil => simp [sumLo, sumHi]
  | cons s l ih =>
    have ih := ih (fun t ht => hf t (List.mem_cons_of_mem _ ht))
    have hs := hf s (List.mem_cons_self ..)
    simp only [sumHi, sumLo, List.map_cons, List.sum_cons] at *
    omega
theorem layB_most {l : List Span} (hf : Full l) (a c : Int) (h : sumHi l - sumLo l ≤ a) (h2 : sumHi l - sumLo l ≤ c) : (layB a l).1 = (layB c l).1 := by
  induction l generalizing a c with
  | nil => rfl
  | cons s l ih =>
    have hf2 : Full l := fun t ht => hf t (List.mem_cons_of_mem _ ht)
    have hs := hf s (List.mem_cons_self ..)
    have hl := sum_le hf2
    simp only [sumHi, sumLo, List.map_cons, List.sum_cons] at h h2 hl ih
    have e1 := layB_left hf2 a (by omega)
    have e2 := layB_left hf2 c (by omega)
    simp only [sumHi, sumLo] at e1 e2
    simp only [layB, ih hf2 a c (by omega) (by omega), e1, e2]
    congr 1
    omega
theorem lay_eq {l : List Span} (hf : Full l) (need : Int) (h1 : sumLo l ≤ need) (h2 : need ≤ sumHi l) : layF need l = (layB (need - sumLo l) l).1 := by
  induction l generalizing need with
  | nil => rfl
  | cons s l ih =>
    have hf2 : Full l := fun t ht => hf t (List.mem_cons_of_mem _ ht)
    have hs := hf s (List.mem_cons_self ..)
    have hl := sum_le hf2
    have e1 := layB_left hf2 (need - sumLo (s :: l)) (by omega)
    simp only [sumHi, sumLo, List.map_cons, List.sum_cons] at h1 h2 hl ih e1 ⊢
    simp only [layF, layB, sumHi, e1]
    congr 1
    · omega
    · rw [ih hf2 _ (by omega) (by omega)]
      by_cases hc : need - (l.map Span.hi).sum ≤ s.lo
      · congr 2; omega
      · exact layB_most hf2 _ _ (by simp only [sumHi, sumLo]; omega) (by simp only [sumHi, sumLo]; omega)
end Kr

/-
  The first truth with a total: what the reference and the scale answer. Plain laws.
-/
namespace Kr

/-- What a scale's loads can weigh, in order. -/
def ownW (s : Scale) (gain off : Int) (ls : List Load) : List Span := (ls.filter fun l => l.scale == s.id).map fun l => wt s.step gain off l.shown
theorem sumLo_append (a b : List Span) : sumLo (a ++ b) = sumLo a + sumLo b := by unfold sumLo; rw [List.map_append, List.sum_append]
theorem sumHi_append (a b : List Span) : sumHi (a ++ b) = sumHi a + sumHi b := by unfold sumHi; rw [List.map_append, List.sum_append]
theorem ownW_cons (s : Scale) (gain off : Int) (l : Load) (ls : List Load) : ownW s gain off (l :: ls) = (if l.scale = s.id then [wt s.step gain off l.shown] else []) ++ ownW s gain off ls := by
  unfold ownW
  rw [List.filter_cons]
  by_cases h : l.scale = s.id <;> simp [h]
theorem fold_own {s : Scale} {gain off : Int} (ls : List Load) {o x : Span} (h : ls.foldl (addLoad s gain off) (some o) = some x) :
    x = ⟨o.lo + sumLo (ownW s gain off ls), o.hi + sumHi (ownW s gain off ls)⟩ ∧ Full (ownW s gain off ls) := by
  induction ls generalizing o with
  | nil => cases h; exact ⟨by simp [ownW, sumLo, sumHi], fun s hs => by cases hs⟩
  | cons l ls ih =>
    rw [List.foldl_cons] at h
    rw [ownW_cons, sumLo_append, sumHi_append]
    by_cases hl : l.scale = s.id
    · rw [if_pos hl]
      by_cases hc : (wt s.step gain off l.shown).lo ≤ (wt s.step gain off l.shown).hi
      · rw [show addLoad s gain off (some o) l = some ⟨o.lo + (wt s.step gain off l.shown).lo, o.hi + (wt s.step gain off l.shown).hi⟩ from by unfold addLoad; rw [if_pos hl]; simp only; rw [if_pos hc]] at h
        obtain ⟨e, hf⟩ := ih h
        refine ⟨?_, fun t ht => ?_⟩
        · rw [e]; simp [sumLo, sumHi]; omega
        · rcases List.mem_append.1 ht with h1 | h1
          · rw [List.mem_singleton.1 h1]; exact hc
          · exact hf t h1
      · rw [show addLoad s gain off (some o) l = none from by unfold addLoad; rw [if_pos hl]; simp only; rw [if_neg hc], addLoad_none] at h
        cases h
    · rw [if_neg hl]
      rw [show addLoad s gain off (some o) l = some o from by unfold addLoad; rw [if_neg hl]] at h
      obtain ⟨e, hf⟩ := ih h
      exact ⟨by rw [e]; simp [sumLo, sumHi], hf⟩
theorem partSum_own {s : Scale} {gain off : Int} {ls : List Load} {x : Span} (h : partSum s gain off ls = some x) : x = ⟨sumLo (ownW s gain off ls), sumHi (ownW s gain off ls)⟩ ∧ Full (ownW s gain off ls) := by
  have := fold_own ls h
  simpa using this
theorem partAt_sum {s : Scale} {ls : List Load} {gain off : Int} {p : Part} (h : p ∈ partAt s ls gain off) : partSum s p.gain p.off ls = some p.sum ∧ p.gain = gain ∧ p.off = off := by
  unfold partAt at h
  split at h
  · rename_i x hx
    rw [List.mem_singleton.1 h]; exact ⟨hx, rfl, rfl⟩
  · cases h
theorem partsN_sum {s : Scale} {ls : List Load} {gain lo : Int} {n : Nat} {p : Part} (h : p ∈ partsN s ls gain lo n) : partSum s p.gain p.off ls = some p.sum ∧ p.gain = gain ∧ lo ≤ p.off ∧ p.off < lo + n := by
  induction n with
  | zero => cases h
  | succ n ih =>
    rcases List.mem_append.1 h with h | h
    · have := ih h; refine ⟨this.1, this.2.1, this.2.2.1, by omega⟩
    · have := partAt_sum h; exact ⟨this.1, this.2.1, by omega, by omega⟩
theorem parts_sum {s : Scale} {ls : List Load} {p : Part} (h : p ∈ parts s ls) : partSum s p.gain p.off ls = some p.sum := by
  obtain ⟨t, _, hp⟩ := List.mem_flatMap.1 h
  exact (partsN_sum hp).1
theorem parts_bound {s : Scale} {ls : List Load} (hr : right s = true) {p : Part} (h : p ∈ parts s ls) : (-10 ≤ p.gain ∧ p.gain ≤ 10) ∧ (-100 ≤ p.off ∧ p.off ≤ 100) := by
  obtain ⟨t, ht, hp⟩ := List.mem_flatMap.1 h
  have h1 := partsN_sum hp
  have h2 := tunes_bound hr t ht
  have h3 : (offN t : Int) ≤ t.off.hi - t.off.lo + 1 ∨ offN t = 0 := by unfold offN; omega
  omega

/-- The spans of the loads, as the reference gathers them: of each load, by each scale of its Id. -/
def gath (Z : List (Scale × Part)) (l : Load) : List Span := Z.flatMap fun x => if x.1.id = l.scale then [wt x.1.step x.2.gain x.2.off l.shown] else []
def gathL (Z : List (Scale × Part)) (ls : List Load) : List Span := ls.flatMap (gath Z)
theorem gath_cons (x : Scale × Part) (Z : List (Scale × Part)) (l : Load) : gath (x :: Z) l = (if x.1.id = l.scale then [wt x.1.step x.2.gain x.2.off l.shown] else []) ++ gath Z l := by unfold gath; rw [List.flatMap_cons]
theorem gath_sum (Z : List (Scale × Part)) (ls : List Load) : sumLo (gathL Z ls) = (Z.map fun x => sumLo (ownW x.1 x.2.gain x.2.off ls)).sum ∧ sumHi (gathL Z ls) = (Z.map fun x => sumHi (ownW x.1 x.2.gain x.2.off ls)).sum := by
  induction ls with
  | nil =>
    have h1 : ∀ Z : List (Scale × Part), (Z.map fun x => sumLo (ownW x.1 x.2.gain x.2.off [])).sum = 0 ∧ (Z.map fun x => sumHi (ownW x.1 x.2.gain x.2.off [])).sum = 0 := by
      intro Z
      induction Z with
      | nil => simp
      | cons x Z ih => simp only [List.map_cons, List.sum_cons, ih.1, ih.2]; simp [ownW, sumLo, sumHi]
    exact ⟨by rw [(h1 Z).1]; rfl, by rw [(h1 Z).2]; rfl⟩
  | cons l ls ih =>
    have e : gathL Z (l :: ls) = gath Z l ++ gathL Z ls := by unfold gathL; rw [List.flatMap_cons]
    rw [e, sumLo_append, sumHi_append, ih.1, ih.2]
    clear e ih
    induction Z with
    | nil => exact ⟨rfl, rfl⟩
    | cons x Z ih2 =>
      have e2 := ownW_cons x.1 x.2.gain x.2.off l ls
      rw [gath_cons, sumLo_append, sumHi_append]
      simp only [List.map_cons, List.sum_cons]
      rw [e2, sumLo_append, sumHi_append, ← ih2.1, ← ih2.2]
      by_cases h : l.scale = x.1.id
      · rw [if_pos h, if_pos h.symm]; omega
      · rw [if_neg h, if_neg (fun e => h e.symm)]; omega
theorem gath_mem {Z : List (Scale × Part)} {ls : List Load} {t : Span} (h : t ∈ gathL Z ls) : ∃ x ∈ Z, t ∈ ownW x.1 x.2.gain x.2.off ls := by
  obtain ⟨l, hl, h⟩ := List.mem_flatMap.1 h
  obtain ⟨x, hx, h⟩ := List.mem_flatMap.1 h
  refine ⟨x, hx, ?_⟩
  split at h
  · rename_i e
    rw [List.mem_singleton.1 h]
    unfold ownW
    exact List.mem_map.2 ⟨l, List.mem_filter.2 ⟨hl, by simpa using e.symm⟩, rfl⟩
  · cases h
theorem chosen_len {ch : List Part} {ps : List (List Part)} (h : Chosen ch ps) : ch.length = ps.length := by
  induction ps generalizing ch with
  | nil => cases ch with
    | nil => rfl
    | cons q ch => cases h
  | cons p ps ih => cases ch with
    | nil => cases h
    | cons q ch => simp [ih h.2]
theorem chosen_zip {ls : List Load} {U : List Scale} {ch : List Part} (h : Chosen ch (U.map fun s => parts s ls)) : ∀ x ∈ U.zip ch, x.1 ∈ U ∧ x.2 ∈ parts x.1 ls := by
  induction U generalizing ch with
  | nil => intro x hx; cases ch <;> simp at hx
  | cons s U ih => cases ch with
    | nil => cases h
    | cons q ch =>
      intro x hx
      rw [List.zip_cons_cons] at hx
      rcases List.mem_cons.1 hx with rfl | hx
      · exact ⟨List.mem_cons_self .., h.1⟩
      · have := ih h.2 x hx; exact ⟨List.mem_cons_of_mem _ this.1, this.2⟩
theorem chosen_sum {ls : List Load} {U : List Scale} {ch : List Part} (h : Chosen ch (U.map fun s => parts s ls)) : sumLo (gathL (U.zip ch) ls) = (ch.map fun q => q.sum.lo).sum ∧ sumHi (gathL (U.zip ch) ls) = (ch.map fun q => q.sum.hi).sum := by
  rw [(gath_sum _ ls).1, (gath_sum _ ls).2]
  induction U generalizing ch with
  | nil => cases ch with
    | nil => exact ⟨rfl, rfl⟩
    | cons q ch => cases h
  | cons s U ih => cases ch with
    | nil => cases h
    | cons q ch =>
      have h1 := (partSum_own (parts_sum h.1)).1
      have h2 := ih h.2
      rw [List.zip_cons_cons]
      simp only [List.map_cons, List.sum_cons, h2.1, h2.2]
      rw [h1]; exact ⟨rfl, rfl⟩
theorem chosen_full {ls : List Load} {U : List Scale} {ch : List Part} (h : Chosen ch (U.map fun s => parts s ls)) : Full (gathL (U.zip ch) ls) := by
  intro t ht
  obtain ⟨x, hx, ht⟩ := gath_mem ht
  exact (partSum_own (parts_sum (chosen_zip h x hx).2)).2 t ht

/-- The answer of both. -/
def truthOf (U : List Scale) (ls : List Load) (need : Int) : Option (List Part × List Int) :=
  match greedy ⟨need, need⟩ (U.map fun s => parts s ls) with
  | some (ch, r) => if r.lo ≤ 0 ∧ 0 ≤ r.hi then some (ch, layF need (gathL (U.zip ch) ls)) else none
  | none => none
theorem goodAll (U : List Scale) (ls : List Load) : GoodAll ls.length (U.map fun s => parts s ls) := fun p hp => by
  obtain ⟨s, _, rfl⟩ := List.mem_map.1 hp; exact parts_good s ls
end Kr

/-
  The first truth step by step: the greedy choice, the spans of all loads, the weights laid. Plain laws.
-/
namespace Kr

def grown (ch : List Part) : Option (List Part × Span) → Option (List Part × Span)
  | some (l, r) => some (ch ++ l, r)
  | none => none
theorem grown_nil (x : Option (List Part × Span)) : grown [] x = x := by
  cases x with
  | none => rfl
  | some y => rfl
theorem greedy_hit {PS : List (List Part)} {k : Nat} {ps : List Part} {left : Span} {q : Part} (ch : List Part) (hk : PS[k]? = some ps) (hf : ps.find? (fitsB (PS.drop (k + 1)) left) = some q) :
    grown ch (greedy left (PS.drop k)) = grown (ch ++ [q]) (greedy (leave left q) (PS.drop (k + 1))) := by
  obtain ⟨hlt, e⟩ := List.getElem?_eq_some_iff.1 hk
  rw [List.drop_eq_getElem_cons hlt, e]
  simp only [greedy, hf]
  cases greedy (leave left q) (PS.drop (k + 1)) with
  | none => rfl
  | some y => obtain ⟨l, r⟩ := y; simp [grown]
theorem greedy_miss {PS : List (List Part)} {k : Nat} {ps : List Part} {left : Span} (ch : List Part) (hk : PS[k]? = some ps) (hf : ps.find? (fitsB (PS.drop (k + 1)) left) = none) :
    grown ch (greedy left (PS.drop k)) = none := by
  obtain ⟨hlt, e⟩ := List.getElem?_eq_some_iff.1 hk
  rw [List.drop_eq_getElem_cons hlt, e]
  simp only [greedy, hf]
  rfl
theorem greedy_end {PS : List (List Part)} {k : Nat} {left : Span} (ch : List Part) (h : PS.length ≤ k) : grown ch (greedy left (PS.drop k)) = some (ch, left) := by
  rw [List.drop_eq_nil_of_le h]; simp [greedy, grown]
theorem find_hit {α : Type} {l : List α} {k : Nat} {x : α} {p : α → Bool} (hx : l[k]? = some x) (hp : p x = true) (hno : ∀ y ∈ l.take k, p y = false) : l.find? p = some x := by
  obtain ⟨hlt, e⟩ := List.getElem?_eq_some_iff.1 hx
  have h1 : l = l.take k ++ x :: l.drop (k + 1) := by
    rw [← e, ← List.drop_eq_getElem_cons hlt, List.take_append_drop]
  rw [h1, List.find?_append, List.find?_eq_none.2 (fun y hy => by rw [hno y hy]; simp)]
  simp [hp]
theorem find_miss {α : Type} {l : List α} {p : α → Bool} (hno : ∀ y ∈ l, p y = false) : l.find? p = none := List.find?_eq_none.2 (fun y hy => by rw [hno y hy]; simp)
/-- How far what is left can reach. -/
def LeftOk (k : Nat) (left : Span) : Prop := left.lo ≤ left.hi ∧ -(1000000 + 6000000 * (k : Int)) ≤ left.lo ∧ left.hi ≤ 10000000
theorem leftOk_step {n k : Nat} {left : Span} {ps : List Part} {q : Part} (hg : Good n ps) (hn : n ≤ 6) (hq : q ∈ ps) (h : LeftOk k left) : LeftOk (k + 1) (leave left q) := by
  have h1 := hg q hq
  unfold LeftOk leave at *
  simp only
  have : (n : Int) ≤ 6 := by omega
  have h2 : 1000000 * (n : Int) ≤ 6000000 := by omega
  rw [Int.natCast_add]
  omega

theorem gathL_snoc (Z : List (Scale × Part)) {ls : List Load} {k : Nat} {l : Load} (h : ls[k]? = some l) : gathL Z (ls.take (k + 1)) = gathL Z (ls.take k) ++ gath Z l := by
  obtain ⟨hlt, e⟩ := List.getElem?_eq_some_iff.1 h
  unfold gathL
  rw [List.take_succ_eq_append_getElem hlt, List.flatMap_append, e]
  simp
theorem gath_snoc {Z : List (Scale × Part)} {m : Nat} {x : Scale × Part} (h : Z[m]? = some x) (l : Load) :
    gath (Z.take (m + 1)) l = gath (Z.take m) l ++ (if x.1.id = l.scale then [wt x.1.step x.2.gain x.2.off l.shown] else []) := by
  obtain ⟨hlt, e⟩ := List.getElem?_eq_some_iff.1 h
  unfold gath
  rw [List.take_succ_eq_append_getElem hlt, List.flatMap_append, e]
  simp
/-- Spans of weights. -/
def SpOk (c : Nat) (l : List Span) : Prop := l.length ≤ c ∧ ∀ t ∈ l, 0 ≤ t.lo ∧ t.lo ≤ t.hi ∧ t.hi ≤ 1000000
theorem spOk_snoc {c : Nat} {l : List Span} {t : Span} (h : SpOk c l) (ht : 0 ≤ t.lo ∧ t.lo ≤ t.hi ∧ t.hi ≤ 1000000) : SpOk (c + 1) (l ++ [t]) := by
  refine ⟨by simp; have := h.1; omega, fun y hy => ?_⟩
  rcases List.mem_append.1 hy with h1 | h1
  · exact h.2 y h1
  · rw [List.mem_singleton.1 h1]; exact ht
theorem spOk_le {c d : Nat} {l : List Span} (h : SpOk c l) (hd : c ≤ d) : SpOk d l := ⟨Nat.le_trans h.1 hd, h.2⟩
theorem sumHi_bd {c : Nat} {l : List Span} (h : SpOk c l) : 0 ≤ sumHi l ∧ sumHi l ≤ 1000000 * (c : Int) := by
  have key : ∀ l : List Span, (∀ t ∈ l, 0 ≤ t.lo ∧ t.lo ≤ t.hi ∧ t.hi ≤ 1000000) → 0 ≤ sumHi l ∧ sumHi l ≤ 1000000 * (l.length : Int) := by
    intro l
    induction l with
    | nil => intro _; simp [sumHi]
    | cons t l ih =>
      intro h
      have h1 := h t (List.mem_cons_self ..)
      have h2 := ih (fun y hy => h y (List.mem_cons_of_mem _ hy))
      simp only [sumHi, List.map_cons, List.sum_cons, List.length_cons] at *
      rw [Int.natCast_add]
      omega
  have h1 := key l h.2
  have h2 := h.1
  omega
theorem sumHi_snoc (l : List Span) (t : Span) : sumHi (l ++ [t]) = sumHi l + t.hi := by simp [sumHi]
theorem sumHi_drop {l : List Span} {k : Nat} {t : Span} (h : l[k]? = some t) : sumHi (l.drop k) = t.hi + sumHi (l.drop (k + 1)) := by
  obtain ⟨hlt, e⟩ := List.getElem?_eq_some_iff.1 h
  rw [List.drop_eq_getElem_cons hlt, e]
  simp [sumHi]
theorem spOk_drop {c : Nat} {l : List Span} (h : SpOk c l) (k : Nat) : SpOk c (l.drop k) := ⟨by rw [List.length_drop]; have := h.1; omega, fun t ht => h.2 t (List.mem_of_mem_drop ht)⟩
theorem layF_step {l : List Span} {k : Nat} {t : Span} (need : Int) (h : l[k]? = some t) :
    layF need (l.drop k) = max t.lo (need - sumHi (l.drop (k + 1))) :: layF (need - max t.lo (need - sumHi (l.drop (k + 1)))) (l.drop (k + 1)) := by
  obtain ⟨hlt, e⟩ := List.getElem?_eq_some_iff.1 h
  rw [List.drop_eq_getElem_cons hlt, e]
  rfl
theorem layF_grow {L : List Span} {k : Nat} {t : Span} {ws : List Int} {need need0 : Int} (hl : layF need0 L = ws ++ layF need (L.drop k)) (h : L[k]? = some t) :
    layF need0 L = (ws ++ [max t.lo (need - sumHi (L.drop (k + 1)))]) ++ layF (need - max t.lo (need - sumHi (L.drop (k + 1)))) (L.drop (k + 1)) := by
  rw [hl, layF_step need h]; simp
/-- What the chosen parts' scales show. -/
theorem chosen_span {ls : List Load} {U : List Scale} {ch : List Part} {m : Nat} {s : Scale} {q : Part} {l : Load} (h : Chosen ch (U.map fun s => parts s ls)) (hs : U[m]? = some s) (hq : ch[m]? = some q) (hl : l ∈ ls) (he : l.scale = s.id) :
    (wt s.step q.gain q.off l.shown).lo ≤ (wt s.step q.gain q.off l.shown).hi := by
  have hz : (s, q) ∈ U.zip ch := by
    refine List.mem_of_getElem? (i := m) ?_
    rw [List.getElem?_zip_eq_some]; exact ⟨hs, hq⟩
  have h1 := chosen_zip h _ hz
  refine (partSum_own (parts_sum h1.2)).2 _ ?_
  unfold ownW
  exact List.mem_map.2 ⟨l, List.mem_filter.2 ⟨hl, by simpa using he⟩, rfl⟩
theorem chosen_at {ls : List Load} {U : List Scale} {ch : List Part} {m : Nat} {s : Scale} {q : Part} (h : Chosen ch (U.map fun s => parts s ls)) (hs : U[m]? = some s) (hq : ch[m]? = some q) : q ∈ parts s ls := by
  have hz : (s, q) ∈ U.zip ch := by
    refine List.mem_of_getElem? (i := m) ?_
    rw [List.getElem?_zip_eq_some]; exact ⟨hs, hq⟩
  exact (chosen_zip h _ hz).2
theorem zip_at {U : List Scale} {ch : List Part} {m : Nat} {s : Scale} {q : Part} (hs : U[m]? = some s) (hq : ch[m]? = some q) : (U.zip ch)[m]? = some (s, q) := by
  rw [List.getElem?_zip_eq_some]; exact ⟨hs, hq⟩
end Kr

/-
  What scales from each one on can weigh together, filled in from the last one on, in whatever order the indices come. Plain laws.
-/
namespace Kr

def lat0 (n : Nat) : Nat → List Span := fun m => if m = n then [⟨0, 0⟩] else []
def latStep (PS : List (List Part)) (f : Nat → List Span) (i : Nat) : Nat → List Span := fun m => if m = i then plus (sums (PS.getD i [])) (f (i + 1)) else f m
def latOf (PS : List (List Part)) (pre : List Nat) : Nat → List Span := pre.foldl (latStep PS) (lat0 PS.length)
def allOf (PS : List (List Part)) (pre : List Nat) : Nat → List Part := fun m => if m ∈ pre then PS.getD m [] else []
theorem latOf_snoc (PS : List (List Part)) (pre : List Nat) (i : Nat) : latOf PS (pre ++ [i]) = latStep PS (latOf PS pre) i := by unfold latOf; rw [List.foldl_append]; rfl
theorem allOf_snoc (PS : List (List Part)) (pre : List Nat) (i : Nat) : allOf PS (pre ++ [i]) = fun m => if m = i then PS.getD i [] else allOf PS pre m := by
  funext m
  unfold allOf
  by_cases h : m = i
  · subst h; simp
  · simp [h]
theorem goodAll_getD {k : Nat} {PS : List (List Part)} (h : GoodAll k PS) (i : Nat) : Good k (PS.getD i []) := by
  by_cases hi : i < PS.length
  · rw [List.getD_eq_getElem?_getD, List.getElem?_eq_getElem hi]; exact h _ (List.getElem_mem hi)
  · rw [List.getD_eq_getElem?_getD, List.getElem?_eq_none (by omega)]; intro p hp; cases hp
theorem latOf_ok {k : Nat} {PS : List (List Part)} (h : GoodAll k PS) (pre : List Nat) (m : Nat) : Neat (latOf PS pre m) ∧ Within 0 (1000000 * k * pre.length) (latOf PS pre m) := by
  have key : ∀ (r : List Nat), (∀ m, Neat (latOf PS r.reverse m) ∧ Within 0 (1000000 * k * r.length) (latOf PS r.reverse m)) := by
    intro r
    induction r with
    | nil =>
      intro m
      show Neat (lat0 PS.length m) ∧ Within _ _ (lat0 PS.length m)
      unfold lat0
      split
      · exact ⟨⟨fun s hs => by rw [List.mem_singleton.1 hs]; simp, List.pairwise_singleton _ _⟩, fun s hs => by rw [List.mem_singleton.1 hs]; simp⟩
      · exact ⟨⟨fun s hs => (by cases hs), List.Pairwise.nil⟩, fun s hs => (by cases hs)⟩
    | cons i r ih =>
      intro m
      rw [List.reverse_cons, latOf_snoc]
      have hnn : (0 : Int) ≤ 1000000 * (k : Int) := by omega
      have hlen : 1000000 * (k : Int) * (((i :: r).length : Nat) : Int) = 1000000 * k + 1000000 * k * r.length := by rw [List.length_cons, Int.natCast_add, Int.mul_add]; simp; omega
      rw [hlen]
      unfold latStep
      split
      · have hg := goodAll_getD h i
        have h2 := ih (i + 1)
        refine ⟨plus_neat (sums_neat hg).1 h2.1.1, ?_⟩
        have := plus_within (sums_neat hg).1 h2.1.1 (sums_within hg) h2.2
        simpa using this
      · have h2 := ih m
        exact ⟨h2.1, fun s hs => by have := h2.2 s hs; omega⟩
  have := key pre.reverse m
  simpa using this
/-- From the last one on. -/
def downTo (n j : Nat) : List Nat := ((List.range n).drop j).reverse
theorem downTo_step {n j : Nat} (h : j < n) : downTo n j = downTo n (j + 1) ++ [j] := by
  unfold downTo
  rw [List.drop_eq_getElem_cons (by simpa using h), List.reverse_cons]
  simp
theorem downTo_all (n : Nat) : downTo n n = [] := by unfold downTo; simp
theorem latOf_down {PS : List (List Part)} (d : Nat) : ∀ j, j + d = PS.length → ∀ m, j ≤ m → m ≤ PS.length → latOf PS (downTo PS.length j) m = restOf (PS.drop m) := by
  induction d with
  | zero =>
    intro j hj m h1 h2
    obtain rfl : j = PS.length := by omega
    obtain rfl : m = PS.length := by omega
    rw [downTo_all, List.drop_length]
    show lat0 PS.length PS.length = _
    unfold lat0
    rw [if_pos rfl]; rfl
  | succ d ih =>
    intro j hj m h1 h2
    have hlt : j < PS.length := by omega
    rw [downTo_step hlt, latOf_snoc]
    unfold latStep
    split
    · rename_i e
      subst e
      rw [ih (m + 1) (by omega) (m + 1) (Nat.le_refl _) (by omega), List.drop_eq_getElem_cons hlt, List.getD_eq_getElem?_getD, List.getElem?_eq_getElem hlt]
      rfl
    · exact ih (j + 1) (by omega) m (by omega) h2
theorem latOf_fin {PS : List (List Part)} {m : Nat} (h : m ≤ PS.length) : latOf PS (((List.finRange PS.length).reverse).map Fin.val) m = restOf (PS.drop m) := by
  have e : ((List.finRange PS.length).reverse).map Fin.val = downTo PS.length 0 := by
    unfold downTo
    rw [List.map_reverse, List.drop_zero]
    congr 1
    refine List.ext_getElem (by simp) fun i h1 h2 => ?_
    simp
  rw [e]
  exact latOf_down PS.length 0 (by omega) m (Nat.zero_le _) h
theorem allOf_fin {PS : List (List Part)} {m : Nat} {ps : List Part} (h : PS[m]? = some ps) : allOf PS (((List.finRange PS.length).reverse).map Fin.val) m = ps := by
  have hlt := (List.getElem?_eq_some_iff.1 h).1
  unfold allOf
  have hm : m ∈ ((List.finRange PS.length).reverse).map Fin.val := List.mem_map.2 ⟨⟨m, hlt⟩, by simp, rfl⟩
  rw [if_pos hm, List.getD_eq_getElem?_getD, h]
  rfl
theorem latOf_fin' {PS : List (List Part)} {n m : Nat} (hn : PS.length = n) (h : m ≤ n) : latOf PS (((List.finRange n).reverse).map Fin.val) m = restOf (PS.drop m) := by
  subst hn; exact latOf_fin h
theorem allOf_fin' {PS : List (List Part)} {n m : Nat} (hn : PS.length = n) (h : m < n) : allOf PS (((List.finRange n).reverse).map Fin.val) m = PS.getD m [] := by
  subst hn
  rw [allOf_fin (List.getElem?_eq_getElem h), List.getD_eq_getElem?_getD, List.getElem?_eq_getElem h]; rfl

/-! ### Each scale once -/
abbrev IdLt (a b : Scale) : Prop := a.id < b.id
theorem bayFrom_ids {a : Int} {l : List Scale} (h : bayFrom a l = true) : (∀ s ∈ l, a < s.id) ∧ l.Pairwise IdLt := by
  induction l generalizing a with
  | nil => exact ⟨fun s hs => (by cases hs), List.Pairwise.nil⟩
  | cons x l ih =>
    simp only [bayFrom, Bool.and_eq_true, decide_eq_true_eq] at h
    have h2 := ih h.2
    refine ⟨fun s hs => ?_, List.pairwise_cons.2 ⟨fun b hb => h2.1 b hb, h2.2⟩⟩
    rcases List.mem_cons.1 hs with rfl | hs
    · exact h.1.1
    · have := h2.1 s hs; omega
theorem used_ids {b : List Scale} (h : bayOk b = true) (ls : List Load) : (used b ls).Pairwise IdLt := by
  unfold bayOk at h
  simp only [Bool.and_eq_true] at h
  exact (bayFrom_ids h.1).2.filter _
theorem zip_snoc {U : List Scale} {ch : List Part} {s : Scale} (q : Part) (h : U[ch.length]? = some s) : U.zip (ch ++ [q]) = U.zip ch ++ [(s, q)] := by
  induction ch generalizing U with
  | nil =>
    cases U with
    | nil => cases h
    | cons a U => simp at h; subst h; simp
  | cons c ch ih =>
    cases U with
    | nil => cases h
    | cons a U =>
      simp only [List.cons_append, List.zip_cons_cons, List.cons.injEq, true_and]
      exact ih (by simpa using h)
theorem zip_ids {U : List Scale} (hu : U.Pairwise IdLt) (ch : List Part) : (U.zip ch).Pairwise fun a b => a.1.id < b.1.id := by
  induction U generalizing ch with
  | nil => simp
  | cons a U ih =>
    cases ch with
    | nil => simp
    | cons c ch =>
      rw [List.zip_cons_cons, List.pairwise_cons]
      refine ⟨fun b hb => (List.pairwise_cons.1 hu).1 b.1 (List.of_mem_zip hb).1, ih (List.pairwise_cons.1 hu).2 ch⟩
theorem zip_fresh {U : List Scale} (hu : U.Pairwise IdLt) {ch : List Part} {s : Scale} (h : U[ch.length]? = some s) : ∀ x ∈ U.zip ch, x.1.id ≠ s.id := by
  intro x hx
  have h1 := zip_ids hu (ch ++ [⟨0, 0, ⟨0, 0⟩⟩])
  rw [zip_snoc _ h, List.pairwise_append] at h1
  have := h1.2.2 x hx _ (List.mem_singleton.2 rfl)
  simp only at this
  omega
theorem gath_none {Z : List (Scale × Part)} {l : Load} (h : ∀ x ∈ Z, x.1.id ≠ l.scale) : gath Z l = [] := by
  unfold gath
  rw [List.flatMap_eq_nil_iff]
  intro x hx
  rw [if_neg (h x hx)]
theorem gath_uniq {Z : List (Scale × Part)} (hu : Z.Pairwise fun a b => a.1.id < b.1.id) {x : Scale × Part} (hx : x ∈ Z) {l : Load} (he : x.1.id = l.scale) : gath Z l = [wt x.1.step x.2.gain x.2.off l.shown] := by
  induction Z with
  | nil => cases hx
  | cons y Z ih =>
    rw [gath_cons]
    have h1 := List.pairwise_cons.1 hu
    rcases List.mem_cons.1 hx with rfl | hx
    · rw [if_pos he, gath_none (fun z hz => by have := h1.1 z hz; omega)]; rfl
    · have := h1.1 x hx
      rw [if_neg (by omega), ih h1.2 hx]; rfl
theorem find_uniq {Z : List (Scale × Part)} (hu : Z.Pairwise fun a b => a.1.id < b.1.id) {x : Scale × Part} (hx : x ∈ Z) : Z.find? (fun y => y.1.id == x.1.id) = some x := by
  induction Z with
  | nil => cases hx
  | cons y Z ih =>
    have h1 := List.pairwise_cons.1 hu
    rcases List.mem_cons.1 hx with rfl | hx
    · simp
    · have := h1.1 x hx
      rw [List.find?_cons_of_neg (by simp; omega), ih h1.2 hx]
/-- What the scale asks first: whether the total is among the totals. -/
theorem greedy_any {b : List Scale} {g : Gear} {total : Int} (h : (totals b g).any (fun s => inAll s.lo s.hi [total]) = true) :
    ∃ ch r, greedy ⟨total - g.added, total - g.added⟩ ((used b g.loads).map fun s => parts s g.loads) = some (ch, r) ∧ r.lo ≤ 0 ∧ 0 ≤ r.hi := by
  obtain ⟨s, hs, h1⟩ := List.any_eq_true.1 h
  have h2 : has (totals b g) total := ⟨s, hs, by simp [inAll, inb] at h1; omega⟩
  unfold totals at h2
  rw [totalsL_has _ _ ⟨fun s hs => by rw [List.mem_singleton.1 hs]; simp, List.pairwise_singleton _ _⟩] at h2
  obtain ⟨y, z, hy, hz, e⟩ := h2
  rw [has_one] at hy
  simp only at hy
  exact greedy_yes (goodAll _ _) (Int.le_refl _) ⟨z, hz, by dsimp only; omega, by dsimp only; omega⟩
/-- Where it is not: the reference says so too. -/
theorem truthOf_none {b : List Scale} {g : Gear} {total : Int} (h : (totals b g).any (fun s => inAll s.lo s.hi [total]) = false) : truthOf (used b g.loads) g.loads (total - g.added) = none := by
  unfold truthOf
  split
  · rename_i ch r hg
    split
    · rename_i hr
      exfalso
      obtain ⟨y, hy, h1, h2⟩ := greedy_no (goodAll _ _) (Int.le_refl _) hg hr.1 hr.2
      dsimp only at h1 h2
      have h3 : has (totals b g) total := by
        unfold totals
        rw [totalsL_has _ _ ⟨fun s hs => by rw [List.mem_singleton.1 hs]; simp, List.pairwise_singleton _ _⟩]
        exact ⟨g.added, y, by rw [has_one]; simp, hy, by omega⟩
      obtain ⟨s, hs, h4, h5⟩ := h3
      have h6 : (totals b g).any (fun s => inAll s.lo s.hi [total]) = true := List.any_eq_true.2 ⟨s, hs, by simp [inAll, inb]; omega⟩
      rw [h6] at h; cases h
    · rfl
  · rfl
theorem total_bd {b : List Scale} {g : Gear} {total : Int} (h : (totals b g).any (fun s => inAll s.lo s.hi [total]) = true) (hu : (used b g.loads).length ≤ 4) (h6 : g.loads.length ≤ 6) (ha : 0 ≤ g.added ∧ g.added ≤ 1000000) : 0 ≤ total ∧ total ≤ 25000000 := by
  obtain ⟨s, hs, h1⟩ := List.any_eq_true.1 h
  have h2 := (totalsL_ok g.loads (used b g.loads) [⟨g.added, g.added⟩] g.added g.added ⟨fun s hs => by rw [List.mem_singleton.1 hs]; simp, List.pairwise_singleton _ _⟩ (fun s hs => by rw [List.mem_singleton.1 hs]; simp)).2 s hs
  have h3 : (g.loads.length : Int) * ((used b g.loads).length : Int) ≤ 6 * 4 := by
    have := Nat.mul_le_mul h6 hu
    omega
  rw [Int.mul_assoc] at h2
  simp [inAll, inb] at h1
  omega
/-- How far what is left can reach. -/
def LeftS (k : Nat) (left : Span) : Prop := left.lo ≤ left.hi ∧ -(1000000 + 6000000 * (k : Int)) ≤ left.lo ∧ left.hi ≤ 25000000
theorem leftS_step {n k : Nat} {left : Span} {ps : List Part} {q : Part} (hg : Good n ps) (hn : n ≤ 6) (hq : q ∈ ps) (h : LeftS k left) : LeftS (k + 1) (leave left q) := by
  have h1 := hg q hq
  unfold LeftS leave at *
  simp only
  have : (n : Int) ≤ 6 := by omega
  have h2 : 1000000 * (n : Int) ≤ 6000000 := by omega
  rw [Int.natCast_add]
  omega
/-- Behind the greedy choice. -/
theorem truthOf_of {U : List Scale} {ls : List Load} {need : Int} {ch : List Part} {r : Span} (h : greedy ⟨need, need⟩ (U.map fun s => parts s ls) = some (ch, r)) (h1 : r.lo ≤ 0) (h2 : 0 ≤ r.hi) :
    truthOf U ls need = some (ch, (layB (need - sumLo (gathL (U.zip ch) ls)) (gathL (U.zip ch) ls)).1) ∧ 0 ≤ need - sumLo (gathL (U.zip ch) ls) := by
  have hs := greedy_spec (goodAll U ls) h
  have hc := chosen_sum hs.1
  have hf := chosen_full hs.1
  have e := hs.2
  rw [e] at h1 h2
  dsimp only at h1 h2
  unfold truthOf
  rw [h]
  dsimp only
  rw [if_pos (by rw [e]; dsimp only; omega), lay_eq hf need (by omega) (by omega)]
  exact ⟨rfl, by omega⟩
theorem gath_le {Z : List (Scale × Part)} (hu : Z.Pairwise fun a b => a.1.id < b.1.id) (l : Load) : (gath Z l).length ≤ 1 := by
  by_cases h : ∃ x ∈ Z, x.1.id = l.scale
  · obtain ⟨x, hx, he⟩ := h
    rw [gath_uniq hu hx he]; simp
  · rw [gath_none (fun x hx he => h ⟨x, hx, he⟩)]; simp
theorem gathL_spOk {U : List Scale} (hu : U.Pairwise IdLt) {ls : List Load} {ch : List Part} (h : Chosen ch (U.map fun s => parts s ls)) (k : Nat) : SpOk k (gathL (U.zip ch) (ls.take k)) := by
  refine ⟨?_, fun t ht => ?_⟩
  · have key : ∀ l : List Load, (gathL (U.zip ch) l).length ≤ l.length := by
      intro l
      induction l with
      | nil => simp [gathL]
      | cons a l ih =>
        have h1 := gath_le (zip_ids hu ch) a
        unfold gathL at ih ⊢
        rw [List.flatMap_cons, List.length_append, List.length_cons]
        omega
    have := key (ls.take k)
    rw [List.length_take] at this
    omega
  · have ht2 : t ∈ gathL (U.zip ch) ls := by
      obtain ⟨l, hl, h1⟩ := List.mem_flatMap.1 ht
      exact List.mem_flatMap.2 ⟨l, List.mem_of_mem_take hl, h1⟩
    have h1 := chosen_full h t ht2
    obtain ⟨x, _, hx⟩ := gath_mem ht2
    unfold ownW at hx
    obtain ⟨l, _, rfl⟩ := List.mem_map.1 hx
    have := wt_bound x.1.step x.2.gain x.2.off l.shown
    omega
theorem sumLo_bd {c : Nat} {l : List Span} (h : SpOk c l) : 0 ≤ sumLo l ∧ sumLo l ≤ 1000000 * (c : Int) := by
  have h1 := sumHi_bd h
  have h2 : Full l := fun t ht => (h.2 t ht).2.1
  have h3 := sum_le h2
  have key : ∀ l : List Span, (∀ t ∈ l, 0 ≤ t.lo ∧ t.lo ≤ t.hi ∧ t.hi ≤ 1000000) → 0 ≤ sumLo l := by
    intro l
    induction l with
    | nil => intro _; simp [sumLo]
    | cons t l ih =>
      intro h
      have h1 := h t (List.mem_cons_self ..)
      have h2 := ih (fun y hy => h y (List.mem_cons_of_mem _ hy))
      simp only [sumLo, List.map_cons, List.sum_cons] at *
      omega
  have := key l h.2
  omega
theorem total_in {U : List Scale} (hu : U.Pairwise IdLt) {ls : List Load} {need : Int} {ch : List Part} {r : Span} (h : greedy ⟨need, need⟩ (U.map fun s => parts s ls) = some (ch, r)) (h1 : r.lo ≤ 0) (h2 : 0 ≤ r.hi) (h6 : ls.length ≤ 6) : 0 ≤ need ∧ need ≤ 6000000 := by
  have hs := greedy_spec (goodAll U ls) h
  have hc := chosen_sum hs.1
  have e := hs.2
  rw [e] at h1 h2
  dsimp only at h1 h2
  have hk := gathL_spOk hu hs.1 ls.length
  rw [List.take_length] at hk
  have b1 := sumHi_bd hk
  have b2 := sumLo_bd hk
  have : (ls.length : Int) ≤ 6 := by omega
  omega
theorem sumLo_snoc (l : List Span) (t : Span) : sumLo (l ++ [t]) = sumLo l + t.lo := by simp [sumLo]
end Kr

/-
  What lacks is laid on the last weights: step by step, in whatever order the indices come. Plain laws.
-/
namespace Kr

def layStep (l : List Span) (st : List Int × Int) (i : Nat) : List Int × Int :=
  (st.1.set i (st.1.getD i 0 + min st.2 ((l.getD i ⟨0, 0⟩).hi - (l.getD i ⟨0, 0⟩).lo)), st.2 - min st.2 ((l.getD i ⟨0, 0⟩).hi - (l.getD i ⟨0, 0⟩).lo))
def layOf (l : List Span) (lacks : Int) (pre : List Nat) : List Int × Int := pre.foldl (layStep l) (l.map Span.lo, lacks)
theorem layOf_snoc (l : List Span) (lacks : Int) (pre : List Nat) (i : Nat) : layOf l lacks (pre ++ [i]) = layStep l (layOf l lacks pre) i := by unfold layOf; rw [List.foldl_append]; rfl
theorem getD_span {c : Nat} {l : List Span} (h : SpOk c l) (i : Nat) : 0 ≤ (l.getD i ⟨0, 0⟩).lo ∧ (l.getD i ⟨0, 0⟩).lo ≤ (l.getD i ⟨0, 0⟩).hi ∧ (l.getD i ⟨0, 0⟩).hi ≤ 1000000 := by
  rw [List.getD_eq_getElem?_getD]
  by_cases hi : i < l.length
  · rw [List.getElem?_eq_getElem hi]; exact h.2 _ (List.getElem_mem hi)
  · rw [List.getElem?_eq_none (by omega)]; simp
theorem layOf_ok {c : Nat} {l : List Span} (h : SpOk c l) {lacks M : Int} (h0 : 0 ≤ lacks) (h1 : lacks ≤ M) (pre : List Nat) :
    (layOf l lacks pre).1.length = l.length ∧ 0 ≤ (layOf l lacks pre).2 ∧ (layOf l lacks pre).2 ≤ M ∧ ∀ x ∈ (layOf l lacks pre).1, 0 ≤ x ∧ x ≤ 1000000 + 1000000 * (pre.length : Int) := by
  have key : ∀ r : List Nat, (layOf l lacks r.reverse).1.length = l.length ∧ 0 ≤ (layOf l lacks r.reverse).2 ∧ (layOf l lacks r.reverse).2 ≤ M ∧ ∀ x ∈ (layOf l lacks r.reverse).1, 0 ≤ x ∧ x ≤ 1000000 + 1000000 * (r.length : Int) := by
    intro r
    induction r with
    | nil =>
      refine ⟨by simp [layOf], h0, h1, fun x hx => ?_⟩
      obtain ⟨t, ht, rfl⟩ := List.mem_map.1 hx
      have := h.2 t ht
      simp; omega
    | cons i r ih =>
      rw [List.reverse_cons, layOf_snoc]
      obtain ⟨e1, e2, e3, e4⟩ := ih
      have hs := getD_span h i
      unfold layStep
      dsimp only
      refine ⟨by rw [List.length_set]; exact e1, by omega, by omega, fun x hx => ?_⟩
      have hlen : 1000000 * (((i :: r).length : Nat) : Int) = 1000000 + 1000000 * (r.length : Int) := by rw [List.length_cons, Int.natCast_add]; omega
      rw [hlen]
      rcases List.mem_or_eq_of_mem_set hx with hx | rfl
      · have := e4 x hx; omega
      · have hg : 0 ≤ (layOf l lacks r.reverse).1.getD i 0 ∧ (layOf l lacks r.reverse).1.getD i 0 ≤ 1000000 + 1000000 * (r.length : Int) := by
          rw [List.getD_eq_getElem?_getD]
          by_cases hi : i < (layOf l lacks r.reverse).1.length
          · rw [List.getElem?_eq_getElem hi]; exact e4 _ (List.getElem_mem hi)
          · rw [List.getElem?_eq_none (by omega)]; simp; omega
        omega
  have := key pre.reverse
  simpa using this
theorem layB_len (lacks : Int) (l : List Span) : (layB lacks l).1.length = l.length := by
  induction l with
  | nil => rfl
  | cons s r ih => simp [layB, ih]
theorem layOf_down {l : List Span} {lacks : Int} (d : Nat) : ∀ j, j + d = l.length → layOf l lacks (downTo l.length j) = ((l.take j).map Span.lo ++ (layB lacks (l.drop j)).1, (layB lacks (l.drop j)).2) := by
  induction d with
  | zero =>
    intro j hj
    obtain rfl : j = l.length := by omega
    rw [downTo_all, List.drop_length, List.take_length]
    simp [layOf, layB]
  | succ d ih =>
    intro j hj
    have hlt : j < l.length := by omega
    rw [downTo_step hlt, layOf_snoc, ih (j + 1) (by omega)]
    have hd : l.drop j = l[j] :: l.drop (j + 1) := List.drop_eq_getElem_cons hlt
    have ht : l.take (j + 1) = l.take j ++ [l[j]] := List.take_succ_eq_append_getElem hlt
    have hg : l.getD j ⟨0, 0⟩ = l[j] := by rw [List.getD_eq_getElem?_getD, List.getElem?_eq_getElem hlt]; rfl
    have hl : ((l.take j).map Span.lo).length = j := by simp; omega
    unfold layStep
    rw [hg, hd, ht]
    simp only [layB, List.map_append, List.map_cons, List.map_nil, List.append_assoc, List.singleton_append]
    have e1 : ((l.take j).map Span.lo ++ l[j].lo :: (layB lacks (l.drop (j + 1))).1).getD j 0 = l[j].lo := by
      rw [List.getD_eq_getElem?_getD, List.getElem?_append_right (by omega), hl, Nat.sub_self]; rfl
    have e2 : ∀ x, ((l.take j).map Span.lo ++ l[j].lo :: (layB lacks (l.drop (j + 1))).1).set j x = (l.take j).map Span.lo ++ x :: (layB lacks (l.drop (j + 1))).1 := fun x => by
      rw [List.set_append_right _ _ (by omega), hl, Nat.sub_self]; rfl
    rw [e1, e2]
theorem layOf_fin {l : List Span} {lacks : Int} : layOf l lacks (((List.finRange l.length).reverse).map Fin.val) = layB lacks l := by
  have e : ((List.finRange l.length).reverse).map Fin.val = downTo l.length 0 := by
    unfold downTo
    rw [List.map_reverse, List.drop_zero]
    congr 1
    refine List.ext_getElem (by simp) fun i h1 h2 => ?_
    simp
  rw [e, layOf_down l.length 0 (by omega)]
  simp
end Kr

/-
  Plain laws of what is judged, once and again.
-/
namespace Kr

def warmAt (g : Gear) (r : Int) : Span := ⟨r - g.base - 2 * g.jitter, r - g.base + 2 * g.jitter⟩
def warm (g : Gear) : List Span × Int := if bare g then (g.runners.map (warmAt g), 0) else ([], 41)
def hardStep (spread : Int) (o : Span) (x : Int) : Span := ⟨max o.lo (x - spread), min o.hi (x + spread)⟩
def hardOf (g : Gear) : Span := g.strokes.foldl (hardStep g.spread) ⟨0, 2000⟩
def hard (g : Gear) : Span × Int := if bare g then (if (hardOf g).hi < (hardOf g).lo then (⟨0, 0⟩, 8) else (hardOf g, 0)) else (⟨0, 0⟩, 41)
theorem bare_bounds {g : Gear} (h : bare g = true) : (0 ≤ g.added ∧ g.added ≤ 1000000) ∧ (-1000 ≤ g.base ∧ g.base ≤ 1000) ∧ (0 ≤ g.jitter ∧ g.jitter ≤ 1000) ∧ (∀ r ∈ g.runners, -1000 ≤ r ∧ r ≤ 1000) ∧ g.runners.length ≤ 8 ∧ (∀ r ∈ g.strokes, 0 ≤ r ∧ r ≤ 2000) ∧ g.strokes.length ≤ 8 ∧ (0 ≤ g.spread ∧ g.spread ≤ 2000) := by
  simp [bare, inb, inAll] at h
  obtain ⟨⟨⟨⟨⟨h1, h2⟩, h3⟩, h4, h5⟩, h6, h7⟩, h8⟩ := h
  exact ⟨h1, h2, h3, h4, h5, h6, h7, h8⟩

/-- What is known of whether numbers of spans are of one: 2 all, 1 some, 0 none. -/
def knownR (l : List Span) (o : Span) : Int :=
  if (l.all fun s => decide (o.lo ≤ s.lo) && decide (s.hi ≤ o.hi)) = true then 2 else if touches l o.lo o.hi = true then 1 else 0
/-- The same as the other way of asking: both ends are in it. -/
def insideB (o s : Span) : Bool := inAll o.lo o.hi [s.lo, s.hi]
theorem insideB_eq {o s : Span} (h : s.lo ≤ s.hi) : insideB o s = (decide (o.lo ≤ s.lo) && decide (s.hi ≤ o.hi)) := by
  unfold insideB inAll inb
  rw [Bool.eq_iff_iff]
  simp
  omega
theorem inside_all {l : List Span} (hf : Full l) (o : Span) : l.all (insideB o) = l.all fun s => decide (o.lo ≤ s.lo) && decide (s.hi ≤ o.hi) := by
  rw [Bool.eq_iff_iff, List.all_eq_true, List.all_eq_true]
  exact ⟨fun h s hs => (insideB_eq (hf s hs)) ▸ h s hs, fun h s hs => (insideB_eq (hf s hs)).symm ▸ h s hs⟩
theorem all_within (l : List Span) (o : Span) : (l.all fun s => decide (o.lo ≤ s.lo) && decide (s.hi ≤ o.hi)) = true ↔ Within o.lo o.hi l := by
  rw [List.all_eq_true]
  constructor
  · intro h s hs
    have := h s hs
    simp at this
    exact this
  · intro h s hs
    have := h s hs
    simp
    exact this
/-- What is known hangs on the numbers alone. -/
theorem known_merged {l : List Span} (hf : Full l) {o : Span} (ho : o.lo ≤ o.hi) : knownR (merged l) o = knownR l o := by
  have h1 : ((merged l).all fun s => decide (o.lo ≤ s.lo) && decide (s.hi ≤ o.hi)) = (l.all fun s => decide (o.lo ≤ s.lo) && decide (s.hi ≤ o.hi)) := by
    rw [Bool.eq_iff_iff, all_within, all_within, within_has (merged_full hf), within_has hf]
    exact ⟨fun h x hx => h x ((merged_has hf x).2 hx), fun h x hx => h x ((merged_has hf x).1 hx)⟩
  have h2 : touches (merged l) o.lo o.hi = touches l o.lo o.hi := by
    rw [Bool.eq_iff_iff, touches_iff (merged_full hf) _ _ ho, touches_iff hf _ _ ho]
    exact ⟨fun ⟨y, h, h'⟩ => ⟨y, (merged_has hf y).1 h, h'⟩, fun ⟨y, h, h'⟩ => ⟨y, (merged_has hf y).2 h, h'⟩⟩
  unfold knownR
  rw [h1, h2]
theorem knownR_range (l : List Span) (o : Span) : 0 ≤ knownR l o ∧ knownR l o ≤ 2 := by
  unfold knownR
  split
  · omega
  · split <;> omega

def sureR (b : Bool) : Int := if b then 2 else 0
def normB (n : Norm) : Bool := ordered n.total 0 10000000 && ordered n.hard 0 2000 && inb 0 1000000 n.added && inb (-1000) 1000 n.warm
def warmStep (warm : Int) (k : Int) (s : Span) : Int := min k (knownR [s] ⟨-9000, warm⟩)
theorem warm_known {s : Span} (h : s.lo ≤ s.hi) (h9 : -9000 ≤ s.lo) (warm : Int) : knownR [s] ⟨min s.lo warm, warm⟩ = knownR [s] ⟨-9000, warm⟩ := by
  unfold knownR touches
  simp only [List.all_cons, List.all_nil, List.any_cons, List.any_nil, Bool.and_true, Bool.or_false, Bool.and_eq_true, decide_eq_true_eq]
  repeat' split
  all_goals omega
def minOf (l : List Int) : Int := l.foldl min 2

/-- The numbers that are in spans and in others. -/
def commonL (a b : List Span) : List Span := a.flatMap fun s => b.flatMap fun t => if max s.lo t.lo ≤ min s.hi t.hi then [⟨max s.lo t.lo, min s.hi t.hi⟩] else []
theorem common_full (a b : List Span) : Full (commonL a b) := by
  intro x hx
  obtain ⟨s, _, h⟩ := List.mem_flatMap.1 hx
  obtain ⟨t, _, h⟩ := List.mem_flatMap.1 h
  split at h
  · rw [List.mem_singleton.1 h]; assumption
  · simp at h
theorem common_within {a b : List Span} {lo hi : Int} (ha : Within lo hi a) : Within lo hi (commonL a b) := by
  intro x hx
  obtain ⟨s, hs, h⟩ := List.mem_flatMap.1 hx
  obtain ⟨t, _, h⟩ := List.mem_flatMap.1 h
  have := ha s hs
  split at h
  · rw [List.mem_singleton.1 h]; dsimp only; omega
  · simp at h
theorem common_len (a b : List Span) : (commonL a b).length ≤ a.length * b.length := by
  unfold commonL
  induction a with
  | nil => simp
  | cons s a ih =>
    rw [List.flatMap_cons, List.length_append, List.length_cons, Nat.succ_mul]
    have : (b.flatMap fun t => if max s.lo t.lo ≤ min s.hi t.hi then [(⟨max s.lo t.lo, min s.hi t.hi⟩ : Span)] else []).length ≤ b.length := by
      clear ih
      induction b with
      | nil => simp
      | cons t b ih =>
        rw [List.flatMap_cons, List.length_append, List.length_cons]
        split <;> simp only [List.length_cons, List.length_nil] <;> omega
    omega
theorem common_merged (a b : List Span) : merged (commonL a b) = [] ↔ commonL a b = [] := merged_eq_nil
def againR (b : List Scale) (g later : Gear) (n : Norm) : Int × Int :=
  if check b g ≠ 0 then (0, check b g) else if check b later ≠ 0 then (0, check b later) else if normB n = false then (0, 42)
  else if commonL (totals b g) (totals b later) = [] then (0, 6) else (knownR (commonL (totals b g) (totals b later)) n.total, 0)

/-- The members of a set of numbers below n. -/
def membersN (set n : Nat) : List Nat := (List.range n).filter fun i => set.testBit i
def weighN (pieces : List Int) (m : List Nat) : Int := (m.map fun i => pieces.getD i 0).sum
theorem membersN_succ (set n : Nat) : membersN set (n + 1) = membersN set n ++ (if set.testBit n then [n] else []) := by
  unfold membersN
  rw [List.range_succ, List.filter_append, List.filter_cons, List.filter_nil]
theorem membersN_lt {set n i : Nat} (h : i ∈ membersN set n) : i < n := by
  unfold membersN at h
  rw [List.mem_filter, List.mem_range] at h
  exact h.1
theorem membersN_len (set n : Nat) : (membersN set n).length ≤ n := by
  have h := List.length_filter_le (fun i => set.testBit i) (List.range n)
  rwa [List.length_range] at h
theorem weighN_append (pieces : List Int) (a b : List Nat) : weighN pieces (a ++ b) = weighN pieces a + weighN pieces b := by
  unfold weighN
  rw [List.map_append, List.sum_append]
/-- Whether a list comes before one of the same length. -/
def lexB : List Nat → List Nat → Bool
  | a :: as, b :: bs => if a = b then lexB as bs else decide (a < b)
  | _, _ => false
def beforeB (a b : List Nat) : Bool := if a.length ≠ b.length then decide (a.length < b.length) else lexB a b
/-- A choice: what it weighs, and its pieces. -/
structure Choice where
  weight : Int
  pieces : List Nat
  deriving DecidableEq, Inhabited
def lessC (a b : Choice) : Bool := if a.weight ≠ b.weight then decide (a.weight < b.weight) else beforeB a.pieces b.pieces
def better (best : Option Choice) (c : Choice) : Option Choice :=
  match best with
  | none => some c
  | some b => if lessC c b then some c else some b
def choiceOf (pieces : List Int) (set : Nat) : Choice := ⟨weighN pieces (membersN set pieces.length), membersN set pieces.length⟩
/-- What may be added: at most so much, such that all totals are in a span. -/
def fitsC (n : Norm) (l : List Span) (c : Choice) : Bool := decide (c.weight ≤ n.added) && inAll n.total.lo n.total.hi [(l.headD ⟨0, 0⟩).lo + c.weight, (l.getLastD ⟨0, 0⟩).hi + c.weight]
def choices (n : Norm) (l : List Span) (pieces : List Int) (k : Nat) : List Choice := ((List.range k).map (choiceOf pieces)).filter (fitsC n l)
def bestOf (n : Norm) (l : List Span) (pieces : List Int) (k : Nat) : Option Choice := (choices n l pieces k).foldl better none
theorem choices_succ (n : Norm) (l : List Span) (pieces : List Int) (k : Nat) : choices n l pieces (k + 1) = choices n l pieces k ++ (if fitsC n l (choiceOf pieces k) then [choiceOf pieces k] else []) := by
  unfold choices
  rw [List.range_succ, List.map_append, List.filter_append, List.map_cons, List.map_nil, List.filter_cons, List.filter_nil]
theorem bestOf_succ (n : Norm) (l : List Span) (pieces : List Int) (k : Nat) : bestOf n l pieces (k + 1) = if fitsC n l (choiceOf pieces k) then better (bestOf n l pieces k) (choiceOf pieces k) else bestOf n l pieces k := by
  unfold bestOf
  rw [choices_succ, List.foldl_append]
  split
  · rfl
  · rfl
theorem better_some : ∀ l : List Choice, ∀ b, ∃ b', l.foldl better (some b) = some b' := by
  intro l
  induction l with
  | nil => intro b; exact ⟨b, rfl⟩
  | cons x l ih =>
    intro b
    rw [List.foldl_cons]
    unfold better
    dsimp only
    split
    · exact ih _
    · exact ih _
theorem better_none : ∀ {l : List Choice}, l.foldl better none = none ↔ l = [] := by
  intro l
  cases l with
  | nil => simp
  | cons x l =>
    rw [List.foldl_cons]
    obtain ⟨b', h⟩ := better_some l x
    rw [show better none x = some x from rfl, h]
    simp
def ballastR (b : List Scale) (g : Gear) (n : Norm) (pieces : List Int) : List Nat × Int :=
  if check b g ≠ 0 then ([], check b g) else if normB n = false then ([], 42) else if (inAll 0 1000000 pieces && decide (pieces.length ≤ 8)) = false then ([], 2)
  else if totals b { g with added := 0 } = [] then ([], 6)
  else match bestOf n (totals b { g with added := 0 }) pieces (2 ^ pieces.length) with
    | none => ([], 8)
    | some c => (c.pieces, 0)
def warmOf (g : Gear) (warm : Int) : Int := (g.runners.map (warmAt g)).foldl (warmStep warm) 2
def partsJ (b : List Scale) (g : Gear) (n : Norm) : List Int :=
  [knownR (totals b g) n.total, sureR (decide (g.added ≤ n.added)), warmOf g n.warm, knownR [(hard g).1] n.hard, sureR (g.stamp || !n.stamp)]
def judgeR (b : List Scale) (g : Gear) (n : Norm) : (List Int × Int) × Int :=
  if check b g ≠ 0 then (([], 0), check b g) else if normB n = false then (([], 0), 42) else if totals b g = [] then (([], 0), 6)
  else if (hard g).2 ≠ 0 then (([], 0), (hard g).2) else ((partsJ b g n, minOf (partsJ b g n)), 0)
theorem sureR_range (b : Bool) : 0 ≤ sureR b ∧ sureR b ≤ 2 := by cases b <;> simp [sureR]
theorem warmOf_range (g : Gear) (warm : Int) : 0 ≤ warmOf g warm ∧ warmOf g warm ≤ 2 := by
  have key : ∀ (l : List Span) (k : Int), 0 ≤ k ∧ k ≤ 2 → 0 ≤ l.foldl (warmStep warm) k ∧ l.foldl (warmStep warm) k ≤ 2 := by
    intro l
    induction l with
    | nil => intro k h; exact h
    | cons s l ih =>
      intro k h
      rw [List.foldl_cons]
      have := knownR_range [s] ⟨-9000, warm⟩
      exact ih _ (by unfold warmStep; omega)
  exact key _ 2 (by omega)
theorem check_zero {b : List Scale} {g : Gear} (h : check b g = 0) : bayOk b = true ∧ gearOk b g = true := by
  unfold check at h
  split at h
  · split at h
    · exact ⟨by assumption, by assumption⟩
    · cases h
  · cases h
theorem gearOk_bare {b : List Scale} {g : Gear} (h : gearOk b g = true) : bare g = true := by
  unfold gearOk at h
  simp at h
  exact h.2
/-! ### Comparing lists, step by step -/
def compareN : List Nat → List Nat → Int
  | [], [] => 0
  | [], _ :: _ => -1
  | _ :: _, [] => 1
  | a :: as, b :: bs => if a = b then compareN as bs else if a < b then -1 else 1
theorem compareN_lex : ∀ (a b : List Nat), a.length = b.length → (compareN a b < 0 ↔ lexB a b = true)
  | [], [], _ => by simp [compareN, lexB]
  | a :: as, b :: bs, h => by
    unfold compareN lexB
    by_cases hab : a = b
    · rw [if_pos hab, if_pos hab]
      exact compareN_lex as bs (by simpa using h)
    · rw [if_neg hab, if_neg hab]
      by_cases hlt : a < b
      · rw [if_pos hlt]; simp [hlt]
      · rw [if_neg hlt]; simp [hlt]
theorem compareN_range : ∀ (a b : List Nat), -1 ≤ compareN a b ∧ compareN a b ≤ 1
  | [], [] => by simp [compareN]
  | [], _ :: _ => by simp [compareN]
  | _ :: _, [] => by simp [compareN]
  | a :: as, b :: bs => by
    have := compareN_range as bs
    unfold compareN
    split
    · exact this
    · split <;> omega
theorem compareN_step {a b : List Nat} {k : Nat} {x y : Nat} (hx : a[k]? = some x) (hy : b[k]? = some y) : compareN (a.drop k) (b.drop k) = if x = y then compareN (a.drop (k + 1)) (b.drop (k + 1)) else if x < y then -1 else 1 := by
  obtain ⟨h1, rfl⟩ := List.getElem?_eq_some_iff.1 hx
  obtain ⟨h2, rfl⟩ := List.getElem?_eq_some_iff.1 hy
  rw [List.drop_eq_getElem_cons h1, List.drop_eq_getElem_cons h2]
  rfl
theorem compareN_left {a b : List Nat} {k : Nat} (h1 : k < a.length) (h2 : b.length ≤ k) : compareN (a.drop k) (b.drop k) = 1 := by
  rw [List.drop_eq_getElem_cons h1, List.drop_eq_nil_of_le h2]
  rfl
theorem compareN_end {a b : List Nat} {k : Nat} (h1 : a.length ≤ k) : compareN (a.drop k) (b.drop k) = if k < b.length then -1 else 0 := by
  rw [List.drop_eq_nil_of_le h1]
  split
  · rename_i h
    rw [List.drop_eq_getElem_cons h]
    rfl
  · rename_i h
    rw [List.drop_eq_nil_of_le (by omega)]
    rfl
theorem lexB_step {a b : List Nat} {k : Nat} {x y : Nat} (hx : a[k]? = some x) (hy : b[k]? = some y) : lexB (a.drop k) (b.drop k) = if x = y then lexB (a.drop (k + 1)) (b.drop (k + 1)) else decide (x < y) := by
  obtain ⟨h1, rfl⟩ := List.getElem?_eq_some_iff.1 hx
  obtain ⟨h2, rfl⟩ := List.getElem?_eq_some_iff.1 hy
  rw [List.drop_eq_getElem_cons h1, List.drop_eq_getElem_cons h2]
  rfl
theorem lexB_end {a b : List Nat} {k : Nat} (h1 : a.length ≤ k) : lexB (a.drop k) (b.drop k) = false := by
  rw [List.drop_eq_nil_of_le h1]
  rfl
/-- How two choices compare. -/
def cmpC (a b : Choice) : Int :=
  if a.weight ≠ b.weight then a.weight - b.weight else if a.pieces.length ≠ b.pieces.length then (a.pieces.length : Int) - b.pieces.length else compareN a.pieces b.pieces
theorem cmpC_less (a b : Choice) : decide (cmpC a b < 0) = lessC a b := by
  unfold cmpC lessC beforeB
  split
  · rw [decide_eq_decide]; omega
  · split
    · rw [decide_eq_decide]; omega
    · rename_i h
      rw [Bool.eq_iff_iff, decide_eq_true_eq]
      exact compareN_lex _ _ (by omega)
def pickC (m x : Choice) : Choice := if cmpC x m < 0 then x else m
theorem better_pick (c : Choice) (l : List Choice) : (c :: l).foldl better none = some (l.foldl pickC c) := by
  rw [List.foldl_cons]
  show l.foldl better (some c) = _
  induction l generalizing c with
  | nil => rfl
  | cons x l ih =>
    rw [List.foldl_cons, List.foldl_cons, ← ih]
    congr 1
    unfold better pickC
    dsimp only
    rw [← cmpC_less]
    by_cases h : cmpC x c < 0
    · simp [h]
    · simp [h]
theorem pickC_mem (c : Choice) (l : List Choice) : l.foldl pickC c ∈ c :: l := by
  induction l generalizing c with
  | nil => exact List.mem_singleton.2 rfl
  | cons x l ih =>
    rw [List.foldl_cons]
    rcases List.mem_cons.1 (ih (pickC c x)) with h | h
    · rw [h]
      unfold pickC
      split
      · simp
      · simp
    · exact List.mem_cons_of_mem _ (List.mem_cons_of_mem _ h)
theorem weighN_bound {pieces : List Int} (h : ∀ x ∈ pieces, 0 ≤ x ∧ x ≤ 1000000) : ∀ m : List Nat, 0 ≤ weighN pieces m ∧ weighN pieces m ≤ 1000000 * m.length
  | [] => by simp [weighN]
  | i :: m => by
    have ih := weighN_bound h m
    have h1 : 0 ≤ pieces.getD i 0 ∧ pieces.getD i 0 ≤ 1000000 := by
      rw [List.getD_eq_getElem?_getD]
      cases hi : pieces[i]? with
      | none => simp
      | some x => exact h x (List.mem_of_getElem? hi)
    have e : weighN pieces (i :: m) = pieces.getD i 0 + weighN pieces m := by unfold weighN; rw [List.map_cons, List.sum_cons]
    rw [e, List.length_cons]
    omega
theorem neat_ends {l : List Span} (hn : Neat l) (h0 : 0 < l.length) : (l.headD ⟨0, 0⟩).lo ≤ (l.getLastD ⟨0, 0⟩).hi := by
  obtain ⟨s, r, rfl⟩ : ∃ s r, l = s :: r := by
    cases l with
    | nil => simp at h0
    | cons s r => exact ⟨s, r, rfl⟩
  have hs := hn.1 s (List.mem_cons_self ..)
  rw [List.headD_cons]
  rcases List.eq_nil_or_concat r with rfl | ⟨r', t, rfl⟩
  · exact hs
  · have e : (s :: r'.concat t).getLastD ⟨0, 0⟩ = t := by
      rw [List.concat_eq_append, ← List.cons_append, List.getLastD_eq_getLast?, List.getLast?_append, List.getLast?_singleton]
      rfl
    rw [e]
    have h1 := (List.pairwise_cons.1 hn.2).1 t (by simp)
    have h2 := hn.1 t (by simp)
    omega
theorem fitsC_eq {n : Norm} {l : List Span} (hn : Neat l) (h0 : 0 < l.length) (c : Choice) :
    fitsC n l c = inb (n.total.lo - (l.headD ⟨0, 0⟩).lo) (min n.added (n.total.hi - (l.getLastD ⟨0, 0⟩).hi)) c.weight := by
  have := neat_ends hn h0
  unfold fitsC inAll inb
  generalize l.headD ⟨0, 0⟩ = A at this ⊢
  generalize l.getLastD ⟨0, 0⟩ = B at this ⊢
  rw [Bool.eq_iff_iff]
  simp
  omega
theorem headD_at {l : List Span} {s : Span} (h : l[0]? = some s) : l.headD ⟨0, 0⟩ = s := by
  cases l with
  | nil => simp at h
  | cons x l => simpa using h
theorem getLastD_at {l : List Span} {s : Span} {k : Nat} (h : l[k]? = some s) (hk : l.length = k + 1) : l.getLastD ⟨0, 0⟩ = s := by
  rcases List.eq_nil_or_concat l with rfl | ⟨r, t, rfl⟩
  · simp at h
  · have e : (r.concat t).getLastD ⟨0, 0⟩ = t := by simp
    rw [e]
    rw [List.concat_eq_append, List.length_append] at hk
    simp at hk
    subst hk
    rw [List.concat_eq_append, List.getElem?_append_right (Nat.le_refl _)] at h
    simpa using h
end Kr

/-
  Forms of the plain laws that the kernel can reckon with (an insertion sort in the place of the merge sort).
-/
namespace Kr

def insLo (s : Span) : List Span → List Span
  | [] => [s]
  | t :: l => if s.lo ≤ t.lo then s :: t :: l else t :: insLo s l
def sortI (l : List Span) : List Span := l.foldr insLo []
def mergedI (l : List Span) : List Span := (sortI l).foldl push []
theorem insLo_perm (s : Span) : ∀ l, (insLo s l).Perm (s :: l)
  | [] => .refl _
  | t :: l => by
    unfold insLo
    split
    · exact .refl _
    · exact ((insLo_perm s l).cons t).trans (.swap s t l)
theorem sortI_perm : ∀ l, (sortI l).Perm l
  | [] => .refl _
  | s :: l => (insLo_perm s _).trans ((sortI_perm l).cons s)
theorem insLo_sorted (s : Span) : ∀ {l}, ByLo l → ByLo (insLo s l)
  | [], _ => List.pairwise_singleton _ _
  | t :: l, h => by
    unfold insLo
    have h0 := List.pairwise_cons.1 h
    split
    · rename_i hc
      refine List.pairwise_cons.2 ⟨fun x hx => ?_, h⟩
      rcases List.mem_cons.1 hx with rfl | hx
      · exact hc
      · have := h0.1 x hx
        omega
    · rename_i hc
      refine List.pairwise_cons.2 ⟨fun x hx => ?_, insLo_sorted s h0.2⟩
      rcases List.mem_cons.1 ((insLo_perm s l).mem_iff.1 hx) with rfl | hx
      · omega
      · exact h0.1 x hx
theorem sortI_sorted : ∀ l, ByLo (sortI l)
  | [] => List.Pairwise.nil
  | s :: l => insLo_sorted s (sortI_sorted l)
theorem mergedI_eq {l : List Span} (h : Full l) : merged l = mergedI l := (merged_of (sortI_perm l) (sortI_sorted l) h).symm
def plusI (a b : List Span) : List Span := mergedI (crossed a b)
theorem plusI_eq {a b : List Span} (ha : Full a) (hb : Full b) : plus a b = plusI a b := mergedI_eq (crossed_full ha hb)
def sumsI (l : List Part) : List Span := mergedI (l.map Part.sum)
theorem sumsI_eq {k : Nat} {l : List Part} (h : Good k l) : sums l = sumsI l := mergedI_eq (good_full h)
def totalsLI (ls : List Load) (all : List Span) (l : List Scale) : List Span := l.foldl (fun all s => plusI all (sumsI (parts s ls))) all
theorem totalsLI_eq (ls : List Load) : ∀ (l : List Scale) (all : List Span), Full all → totalsL ls all l = totalsLI ls all l
  | [], _, _ => rfl
  | s :: l, all, h => by
    have hs := sums_neat (parts_good s ls)
    show totalsL ls (plus all (sums (parts s ls))) l = totalsLI ls (plusI all (sumsI (parts s ls))) l
    rw [totalsLI_eq ls l _ (plus_full h hs.1), plusI_eq h hs.1, sumsI_eq (parts_good s ls)]
def totalsI (b : List Scale) (g : Gear) : List Span := totalsLI g.loads [⟨g.added, g.added⟩] (used b g.loads)
theorem totalsI_eq (b : List Scale) (g : Gear) : totals b g = totalsI b g := totalsLI_eq _ _ _ (fun s hs => by rw [List.mem_singleton.1 hs]; exact Int.le_refl _)
def restI : List (List Part) → List Span
  | [] => [⟨0, 0⟩]
  | p :: ps => plusI (sumsI p) (restI ps)
theorem restI_eq {k : Nat} : ∀ {ps : List (List Part)}, GoodAll k ps → restOf ps = restI ps
  | [], _ => rfl
  | p :: ps, h => by
    have h2 : GoodAll k ps := fun q hq => h q (List.mem_cons_of_mem _ hq)
    have h1 := h p (List.mem_cons_self ..)
    show plus (sums p) (restOf ps) = plusI (sumsI p) (restI ps)
    rw [← restI_eq h2, ← sumsI_eq h1, plusI_eq (sums_neat h1).1 (restOf_ok h2).1.1]
def greedyI : Span → List (List Part) → Option (List Part × Span)
  | left, [] => some ([], left)
  | left, p :: ps =>
    match p.find? (fun q => touches (restI ps) (left.lo - q.sum.hi) (left.hi - q.sum.lo)) with
    | some q => match greedyI (leave left q) ps with | some (l, r) => some (q :: l, r) | none => none
    | none => none
theorem greedyI_eq {k : Nat} : ∀ {ps : List (List Part)} (left : Span), GoodAll k ps → greedy left ps = greedyI left ps
  | [], _, _ => rfl
  | p :: ps, left, h => by
    have h2 : GoodAll k ps := fun q hq => h q (List.mem_cons_of_mem _ hq)
    have e : fitsB ps left = fun q => touches (restI ps) (left.lo - q.sum.hi) (left.hi - q.sum.lo) := by
      funext q; unfold fitsB; rw [restI_eq h2]
    unfold greedy greedyI
    rw [e]
    split
    · rw [greedyI_eq _ h2]
      all_goals simp only [*]
      all_goals try rfl
    · simp only [*]
      all_goals try rfl
def truthI (U : List Scale) (ls : List Load) (need : Int) : Option (List Part × List Int) :=
  match greedyI ⟨need, need⟩ (U.map fun s => parts s ls) with
  | some (ch, r) => if r.lo ≤ 0 ∧ 0 ≤ r.hi then some (ch, layF need (gathL (U.zip ch) ls)) else none
  | none => none
theorem truthI_eq (U : List Scale) (ls : List Load) (need : Int) : truthOf U ls need = truthI U ls need := by
  unfold truthOf truthI
  rw [greedyI_eq _ (goodAll U ls)]
  all_goals
    cases greedyI ⟨need, need⟩ (U.map fun s => parts s ls) with
    | none => rfl
    | some x => rfl
end Kr

/-
  Plain laws for the outright statements: spans among spans, totals by what is added, totals as numbers.
-/
namespace Kr

theorem among_of_has {few all : List Span} (hf : Full few) (hn : Neat all) (h : ∀ x, has few x → has all x) : ∀ s ∈ few, ∃ t ∈ all, t.lo ≤ s.lo ∧ s.hi ≤ t.hi := by
  intro s hs
  have hss := hf s hs
  obtain ⟨t, ht, h1, h2⟩ := h s.lo ⟨s, hs, Int.le_refl _, hss⟩
  by_cases hc : s.hi ≤ t.hi
  · exact ⟨t, ht, h1, hc⟩
  · obtain ⟨u, hu, h3, h4⟩ := h (t.hi + 1) ⟨s, hs, by omega, by omega⟩
    exfalso
    have hpw := hn.2
    obtain ⟨i, hi, rfl⟩ := List.mem_iff_getElem.1 ht
    obtain ⟨j, hj, rfl⟩ := List.mem_iff_getElem.1 hu
    rw [List.pairwise_iff_getElem] at hpw
    rcases Nat.lt_trichotomy i j with hij | rfl | hij
    · have := hpw i j hi hj hij
      omega
    · omega
    · have := hpw j i hj hi hij
      omega
theorem totals_neat (b : List Scale) (g : Gear) : Neat (totals b g) :=
  (totalsL_ok g.loads _ [⟨g.added, g.added⟩] g.added g.added ⟨fun s hs => by rw [List.mem_singleton.1 hs]; exact Int.le_refl _, List.pairwise_singleton _ _⟩ (fun s hs => by rw [List.mem_singleton.1 hs]; simp)).1
theorem totals_has (b : List Scale) (g : Gear) (x : Int) : has (totals b g) x ↔ has (restOf ((used b g.loads).map fun s => parts s g.loads)) (x - g.added) := by
  unfold totals
  rw [totalsL_has _ _ ⟨fun s hs => by rw [List.mem_singleton.1 hs]; exact Int.le_refl _, List.pairwise_singleton _ _⟩]
  constructor
  · rintro ⟨y, z, hy, hz, rfl⟩
    obtain ⟨s, hs, h1, h2⟩ := hy
    rw [List.mem_singleton.1 hs] at h1 h2
    dsimp only at h1 h2
    have : y + z - g.added = z := by omega
    rwa [this]
  · intro h
    exact ⟨g.added, x - g.added, ⟨_, List.mem_singleton.2 rfl, Int.le_refl _, Int.le_refl _⟩, h, by omega⟩
def shift (a : Int) (l : List Span) : List Span := l.map fun s => ⟨s.lo + a, s.hi + a⟩
theorem shift_has (a : Int) (l : List Span) (x : Int) : has (shift a l) x ↔ has l (x - a) := by
  constructor
  · rintro ⟨s, hs, h1, h2⟩
    obtain ⟨t, ht, rfl⟩ := List.mem_map.1 hs
    dsimp only at h1 h2
    exact ⟨t, ht, by omega, by omega⟩
  · rintro ⟨t, ht, h1, h2⟩
    exact ⟨_, List.mem_map.2 ⟨t, ht, rfl⟩, by dsimp only; omega, by dsimp only; omega⟩
theorem shift_neat {a : Int} {l : List Span} (h : Neat l) : Neat (shift a l) := by
  refine ⟨fun s hs => ?_, ?_⟩
  · obtain ⟨t, ht, rfl⟩ := List.mem_map.1 hs
    have := h.1 t ht
    dsimp only
    omega
  · unfold shift
    rw [List.pairwise_map]
    exact h.2.imp fun h => by dsimp only; omega
/-- What is added moves all totals. -/
theorem totals_shift (b : List Scale) (g : Gear) (a : Int) : totals b { g with added := a } = shift (a - g.added) (totals b g) := by
  refine neat_ext (totals_neat _ _) (shift_neat (totals_neat _ _)) fun x => ?_
  rw [shift_has, totals_has, totals_has]
  dsimp only
  rw [show x - (a - g.added) - g.added = x - a by omega]
end Kr
