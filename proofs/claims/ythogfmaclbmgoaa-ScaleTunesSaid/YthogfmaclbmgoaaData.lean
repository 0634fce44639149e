/-
  The data of layer 4 as plain Lean types.
-/
namespace Kr
structure Span where
  lo : Int
  hi : Int
  deriving DecidableEq, Inhabited
structure Trial where
  weight : Int
  shown : Int
  deriving DecidableEq, Inhabited
structure Scale where
  id : Int
  step : Int
  gain : Span
  off : Span
  trials : List Trial
  deriving DecidableEq, Inhabited
structure Load where
  scale : Int
  shown : Int
  deriving DecidableEq, Inhabited
structure Gear where
  loads : List Load
  added : Int
  base : Int
  jitter : Int
  runners : List Int
  strokes : List Int
  spread : Int
  stamp : Bool
  deriving DecidableEq, Inhabited
structure Norm where
  total : Span
  added : Int
  warm : Int
  hard : Span
  stamp : Bool
  deriving DecidableEq, Inhabited
structure Tune where
  gain : Int
  off : Span
  deriving DecidableEq, Inhabited
structure Weighed where
  tunes : List (Int × Int)
  weights : List Int
  deriving DecidableEq, Inhabited

/-- All numbers are from lo to hi. -/
def inb (lo hi n : Int) : Bool := decide (lo ≤ n) && decide (n ≤ hi)
def inAll (lo hi : Int) (l : List Int) : Bool := l.all (inb lo hi)
def ordered (s : Span) (lo hi : Int) : Bool := decide (lo ≤ s.lo) && decide (s.lo ≤ s.hi) && decide (s.hi ≤ hi)
def shownB (n step : Int) : Bool := inb (-2000000) 2000000 n && n.tmod step == 0
def trialOk (step : Int) (t : Trial) : Bool := inb 0 1000000 t.weight && shownB t.shown step
def right (s : Scale) : Bool :=
  inb 0 9999 s.id && inb 1 500 s.step && ordered s.gain (-10) 10 && ordered s.off (-100) 100 && decide (s.trials.length ≤ 6) && s.trials.all (trialOk s.step)
/-- A scale with a gain and an offset shows a number for a weight. -/
def showsB (gain off weight n step : Int) : Bool := decide (1000 * n ≤ weight * (1000 + gain) + 1000 * off) && decide (weight * (1000 + gain) + 1000 * off < 1000 * (n + step))
def trueB (s : Scale) (gain off : Int) : Bool :=
  (s.trials.all fun t => showsB gain off t.weight t.shown s.step) && (inb s.gain.lo s.gain.hi gain && inb s.off.lo s.off.hi off)

/-- Scales by strictly increasing Ids, the first one above a number, all valid. -/
def bayFrom (last : Int) : List Scale → Bool
  | [] => true
  | s :: l => decide (last < s.id) && right s && bayFrom s.id l
def bayOk (b : List Scale) : Bool := bayFrom (-1) b && decide (b.length ≤ 4)
def lastId (last : Int) : List Scale → Int
  | [] => last
  | s :: l => lastId s.id l
theorem bayFrom_snoc (a : Int) (l : List Scale) (s : Scale) : bayFrom a (l ++ [s]) = (bayFrom a l && decide (lastId a l < s.id) && right s) := by
  induction l generalizing a with
  | nil => simp [bayFrom]; rfl
  | cons x l ih => simp only [List.cons_append, bayFrom, ih, Bool.and_assoc]; rfl
theorem lastId_snoc (a : Int) (l : List Scale) (s : Scale) : lastId a (l ++ [s]) = s.id := by
  induction l generalizing a with
  | nil => rfl
  | cons x l ih => exact ih _
theorem right_id {s : Scale} (h : right s = true) : 0 ≤ s.id ∧ s.id ≤ 9999 := by
  simp [right, inb] at h; omega
theorem bayFrom_prefix (a : Int) (l m : List Scale) (h : bayFrom a (l ++ m) = true) : bayFrom a l = true := by
  induction l generalizing a with
  | nil => rfl
  | cons x l ih => simp [bayFrom] at h ⊢; exact ⟨h.1, ih _ h.2⟩
theorem bayFrom_right {a : Int} {l : List Scale} (h : bayFrom a l = true) : ∀ s ∈ l, right s = true := by
  induction l generalizing a with
  | nil => intro s hs; cases hs
  | cons x l ih =>
    simp [bayFrom] at h
    intro s hs
    rcases List.mem_cons.1 hs with rfl | hs
    · exact h.1.2
    · exact ih h.2 s hs

/-- The first index of a scale with an Id, -1 if there is none. -/
def at_ (b : List Scale) (id : Int) : Int := match b.findIdx? (fun s => s.id == id) with | some i => (i : Int) | none => -1
/-- Gear is valid but for its loads. -/
def bare (g : Gear) : Bool :=
  inb 0 1000000 g.added && inb (-1000) 1000 g.base && inb 0 1000 g.jitter && (inAll (-1000) 1000 g.runners && decide (g.runners.length ≤ 8)) && (inAll 0 2000 g.strokes && decide (g.strokes.length ≤ 8)) && inb 0 2000 g.spread
def loadOk (b : List Scale) (l : Load) : Bool := match b.find? (fun s => s.id == l.scale) with | some s => shownB l.shown s.step | none => false
def gearOk (b : List Scale) (g : Gear) : Bool := g.loads.all (loadOk b) && decide (g.loads.length ≤ 6) && bare g
/-- What the offset can be after one more trial, with a gain. -/
def offStep (gain step : Int) (o : Span) (t : Trial) : Span :=
  ⟨max o.lo (-(-(1000 * t.shown - t.weight * (1000 + gain)) / 1000)), min o.hi ((1000 * (t.shown + step) - 1 - t.weight * (1000 + gain)) / 1000)⟩
def offs (s : Scale) (gain : Int) : Span := s.trials.foldl (offStep gain s.step) s.off
def tuneAt (s : Scale) (gain : Int) : List Tune := if (offs s gain).lo ≤ (offs s gain).hi then [⟨gain, offs s gain⟩] else []
/-- The tunes of the first n gains from a gain on. -/
def tunesN (s : Scale) (gain : Int) : Nat → List Tune
  | 0 => []
  | n + 1 => tunesN s gain n ++ tuneAt s (gain + n)
def gainN (s : Scale) : Nat := (s.gain.hi - s.gain.lo + 1).toNat
def tunes (s : Scale) : List Tune := tunesN s s.gain.lo (gainN s)

theorem shows_iff (gain off weight n step : Int) : showsB gain off weight n step = true ↔ -(-(1000 * n - weight * (1000 + gain)) / 1000) ≤ off ∧ off ≤ (1000 * (n + step) - 1 - weight * (1000 + gain)) / 1000 := by
  unfold showsB
  generalize weight * (1000 + gain) = x
  simp
  omega
theorem offs_iff (gain step : Int) (l : List Trial) (o : Span) (x : Int) : ((l.foldl (offStep gain step) o).lo ≤ x ∧ x ≤ (l.foldl (offStep gain step) o).hi) ↔
    (o.lo ≤ x ∧ x ≤ o.hi) ∧ (l.all fun t => showsB gain x t.weight t.shown step) = true := by
  induction l generalizing o with
  | nil => simp
  | cons t l ih =>
    rw [List.foldl_cons, ih, List.all_cons, Bool.and_eq_true, shows_iff]
    simp only [offStep, Int.max_le, Int.le_min]
    constructor
    · rintro ⟨⟨⟨a, b⟩, c, d⟩, e⟩; exact ⟨⟨a, c⟩, ⟨b, d⟩, e⟩
    · rintro ⟨⟨a, c⟩, ⟨b, d⟩, e⟩; exact ⟨⟨⟨a, b⟩, c, d⟩, e⟩
theorem trueB_iff (s : Scale) (gain x : Int) : trueB s gain x = true ↔ (s.gain.lo ≤ gain ∧ gain ≤ s.gain.hi) ∧ (offs s gain).lo ≤ x ∧ x ≤ (offs s gain).hi := by
  unfold offs
  rw [offs_iff]
  simp only [trueB, inb, Bool.and_eq_true, decide_eq_true_eq]
  constructor
  · rintro ⟨a, b, c⟩; exact ⟨b, c, a⟩
  · rintro ⟨b, c, a⟩; exact ⟨a, b, c⟩
theorem offs_sub (gain step : Int) (l : List Trial) (o : Span) : o.lo ≤ (l.foldl (offStep gain step) o).lo ∧ (l.foldl (offStep gain step) o).hi ≤ o.hi := by
  induction l generalizing o with
  | nil => simp
  | cons t l ih =>
    have := ih (offStep gain step o t)
    rw [List.foldl_cons]
    simp only [offStep] at this ⊢
    omega
theorem offs_in (s : Scale) (gain : Int) : s.off.lo ≤ (offs s gain).lo ∧ (offs s gain).hi ≤ s.off.hi := offs_sub _ _ _ _
theorem tunesN_len (s : Scale) (gain : Int) (n : Nat) : (tunesN s gain n).length ≤ n := by
  induction n with
  | zero => simp [tunesN]
  | succ n ih =>
    simp only [tunesN, List.length_append]
    unfold tuneAt
    split <;> simp <;> omega
def check (b : List Scale) (g : Gear) : Int := if bayOk b then (if gearOk b g then 0 else 41) else 40

/-- What a scale shows for a weight, with a gain and an offset. -/
def readAt (step weight g o : Int) : Int := (weight * (1000 + g) + 1000 * o) / 1000 / step * step
def readT (step weight : Int) (t : Tune) : Span := ⟨readAt step weight t.gain t.off.lo, readAt step weight t.gain t.off.hi⟩
def wider (step weight : Int) (o : Span) (t : Tune) : Span := ⟨min o.lo (readT step weight t).lo, max o.hi (readT step weight t).hi⟩
def readsOf (step weight : Int) : List Tune → Span
  | [] => ⟨0, 0⟩
  | t :: l => l.foldl (wider step weight) (readT step weight t)
def reads (s : Scale) (weight : Int) : Span × Int :=
  if right s then (if inb 0 1000000 weight then (if tunes s = [] then (⟨0, 0⟩, 6) else (readsOf s.step weight (tunes s), 0)) else (⟨0, 0⟩, 2)) else (⟨0, 0⟩, 40)
theorem readAt_bound {step weight g o : Int} (hs : 1 ≤ step ∧ step ≤ 500) (hw : 0 ≤ weight ∧ weight ≤ 1000000) (hg : -10 ≤ g ∧ g ≤ 10) (ho : -100 ≤ o ∧ o ≤ 100) : -1000 ≤ readAt step weight g o ∧ readAt step weight g o ≤ 2000000 := by
  unfold readAt
  have h1 : 0 ≤ weight * (1000 + g) := Int.mul_nonneg (by omega) (by omega)
  have h2 : weight * (1000 + g) ≤ 1000000 * 1010 := Int.mul_le_mul (by omega) (by omega) (by omega) (by omega)
  generalize hn : (weight * (1000 + g) + 1000 * o) / 1000 = n
  have hn1 : -100 ≤ n ∧ n ≤ 1010100 := by omega
  have h3 := Int.ediv_mul_le n (show step ≠ 0 by omega)
  have h4 := Int.lt_ediv_add_one_mul_self n (show 0 < step by omega)
  rw [Int.add_mul] at h4
  omega
theorem tune_bound {s : Scale} {g : Int} {n : Nat} (hr : -10 ≤ g ∧ g + n ≤ 11) : ∀ t ∈ tunesN s g n, (g ≤ t.gain ∧ t.gain < g + n) ∧ s.off.lo ≤ t.off.lo ∧ t.off.lo ≤ t.off.hi ∧ t.off.hi ≤ s.off.hi := by
  induction n with
  | zero => intro t ht; simp [tunesN] at ht
  | succ n ih =>
    intro t ht
    rw [tunesN, List.mem_append] at ht
    rcases ht with ht | ht
    · have := ih (by omega) t ht; omega
    · unfold tuneAt at ht
      split at ht
      · rw [List.mem_singleton] at ht
        subst ht
        have := offs_in s (g + n)
        simp only
        omega
      · cases ht
theorem tunes_bound {s : Scale} (hr : right s = true) : ∀ t ∈ tunes s, (-10 ≤ t.gain ∧ t.gain ≤ 10) ∧ (-100 ≤ t.off.lo ∧ t.off.lo ≤ 100) ∧ (-100 ≤ t.off.hi ∧ t.off.hi ≤ 100) ∧ s.gain.lo ≤ t.gain ∧ t.gain ≤ s.gain.hi ∧ t.off.lo ≤ t.off.hi ∧ s.off.lo ≤ t.off.lo ∧ t.off.hi ≤ s.off.hi := by
  intro t ht
  simp [right, inb, ordered] at hr
  have h := tune_bound (s := s) (g := s.gain.lo) (n := gainN s) (by unfold gainN; omega) t ht
  unfold gainN at h
  omega
theorem wider_bound {step weight : Int} (hs : 1 ≤ step ∧ step ≤ 500) (hw : 0 ≤ weight ∧ weight ≤ 1000000) : ∀ (l : List Tune) (o : Span), (∀ t ∈ l, (-10 ≤ t.gain ∧ t.gain ≤ 10) ∧ (-100 ≤ t.off.lo ∧ t.off.lo ≤ 100) ∧ (-100 ≤ t.off.hi ∧ t.off.hi ≤ 100)) →
    (-4000000 ≤ o.lo ∧ o.lo ≤ 4000000) → (-4000000 ≤ o.hi ∧ o.hi ≤ 4000000) →
    (-4000000 ≤ (l.foldl (wider step weight) o).lo ∧ (l.foldl (wider step weight) o).lo ≤ 4000000) ∧ (-4000000 ≤ (l.foldl (wider step weight) o).hi ∧ (l.foldl (wider step weight) o).hi ≤ 4000000) := by
  intro l
  induction l with
  | nil => intro o _ h1 h2; exact ⟨h1, h2⟩
  | cons t l ih =>
    intro o hl h1 h2
    obtain ⟨hg, ho1, ho2⟩ := hl t (List.mem_cons_self ..)
    have b1 := readAt_bound hs hw hg ho1
    have b2 := readAt_bound hs hw hg ho2
    rw [List.foldl_cons]
    refine ih _ (fun t ht => hl t (List.mem_cons_of_mem _ ht)) ?_ ?_ <;> simp only [wider, readT] <;> omega
theorem readsOf_fold {step weight : Int} (hs : 1 ≤ step ∧ step ≤ 500) (hw : 0 ≤ weight ∧ weight ≤ 1000000) {l : List Tune} (hne : l ≠ []) (hl : ∀ t ∈ l, (-10 ≤ t.gain ∧ t.gain ≤ 10) ∧ (-100 ≤ t.off.lo ∧ t.off.lo ≤ 100) ∧ (-100 ≤ t.off.hi ∧ t.off.hi ≤ 100)) :
    l.foldl (wider step weight) ⟨4000000, -4000000⟩ = readsOf step weight l := by
  cases l with
  | nil => exact absurd rfl hne
  | cons t l =>
    obtain ⟨hg, ho1, ho2⟩ := hl t (List.mem_cons_self ..)
    have b1 := readAt_bound hs hw hg ho1
    have b2 := readAt_bound hs hw hg ho2
    have : wider step weight ⟨4000000, -4000000⟩ t = readT step weight t := by
      simp only [wider, readT]; congr 1 <;> omega
    rw [List.foldl_cons, this]
    rfl
end Kr
