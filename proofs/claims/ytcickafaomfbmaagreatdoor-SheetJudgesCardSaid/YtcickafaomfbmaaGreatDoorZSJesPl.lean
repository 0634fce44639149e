/-
  Several texts in one: see the heads of its parts.
-/

/-
  The data of layer 4 as plain Lean types.
-/
namespace Kr
structure Span where
  lo : Int
  hi : Int
  deriving DecidableEq, Inhabited
structure Trial where
  weight : Int
  shown : Int
  deriving DecidableEq, Inhabited
structure Scale where
  id : Int
  step : Int
  gain : Span
  off : Span
  trials : List Trial
  deriving DecidableEq, Inhabited
structure Load where
  scale : Int
  shown : Int
  deriving DecidableEq, Inhabited
structure Gear where
  loads : List Load
  added : Int
  base : Int
  jitter : Int
  runners : List Int
  strokes : List Int
  spread : Int
  stamp : Bool
  deriving DecidableEq, Inhabited
structure Norm where
  total : Span
  added : Int
  warm : Int
  hard : Span
  stamp : Bool
  deriving DecidableEq, Inhabited
structure Tune where
  gain : Int
  off : Span
  deriving DecidableEq, Inhabited
/-- All numbers are from lo to hi. -/
def inb (lo hi n : Int) : Bool := decide (lo ≤ n) && decide (n ≤ hi)
def inAll (lo hi : Int) (l : List Int) : Bool := l.all (inb lo hi)
def ordered (s : Span) (lo hi : Int) : Bool := decide (lo ≤ s.lo) && decide (s.lo ≤ s.hi) && decide (s.hi ≤ hi)
def shownB (n step : Int) : Bool := inb (-2000000) 2000000 n && n.tmod step == 0
def trialOk (step : Int) (t : Trial) : Bool := inb 0 1000000 t.weight && shownB t.shown step
def right (s : Scale) : Bool :=
  inb 0 9999 s.id && inb 1 500 s.step && ordered s.gain (-10) 10 && ordered s.off (-100) 100 && decide (s.trials.length ≤ 6) && s.trials.all (trialOk s.step)
/-- Scales by strictly increasing Ids, the first one above a number, all valid. -/
def bayFrom (last : Int) : List Scale → Bool
  | [] => true
  | s :: l => decide (last < s.id) && right s && bayFrom s.id l
def bayOk (b : List Scale) : Bool := bayFrom (-1) b && decide (b.length ≤ 4)
def lastId (last : Int) : List Scale → Int
  | [] => last
  | s :: l => lastId s.id l
theorem bayFrom_snoc (a : Int) (l : List Scale) (s : Scale) : bayFrom a (l ++ [s]) = (bayFrom a l && decide (lastId a l < s.id) && right s) := by
  induction l generalizing a with
  | nil => simp [bayFrom]; rfl
  | cons x l ih => simp only [List.cons_append, bayFrom, ih, Bool.and_assoc]; rfl
theorem lastId_snoc (a : Int) (l : List Scale) (s : Scale) : lastId a (l ++ [s]) = s.id := by
  induction l generalizing a with
  | nil => rfl
  | cons x l ih => exact ih _
theorem right_id {s : Scale} (h : right s = true) : 0 ≤ s.id ∧ s.id ≤ 9999 := by
  simp [right, inb] at h; omega
theorem bayFrom_prefix (a : Int) (l m : List Scale) (h : bayFrom a (l ++ m) = true) : bayFrom a l = true := by
  induction l generalizing a with
  | nil => rfl
  | cons x l ih => simp [bayFrom] at h ⊢; exact ⟨h.1, ih _ h.2⟩
theorem bayFrom_right {a : Int} {l : List Scale} (h : bayFrom a l = true) : ∀ s ∈ l, right s = true := by
  induction l generalizing a with
  | nil => intro s hs; cases hs
  | cons x l ih =>
    simp [bayFrom] at h
    intro s hs
    rcases List.mem_cons.1 hs with rfl | hs
    · exact h.1.2
    · exact ih h.2 s hs

/-- The first index of a scale with an Id, -1 if there is none. -/
def at_ (b : List Scale) (id : Int) : Int := match b.findIdx? (fun s => s.id == id) with | some i => (i : Int) | none => -1
/-- Gear is valid but for its loads. -/
def bare (g : Gear) : Bool :=
  inb 0 1000000 g.added && inb (-1000) 1000 g.base && inb 0 1000 g.jitter && (inAll (-1000) 1000 g.runners && decide (g.runners.length ≤ 8)) && (inAll 0 2000 g.strokes && decide (g.strokes.length ≤ 8)) && inb 0 2000 g.spread
def loadOk (b : List Scale) (l : Load) : Bool := match b.find? (fun s => s.id == l.scale) with | some s => shownB l.shown s.step | none => false
def gearOk (b : List Scale) (g : Gear) : Bool := g.loads.all (loadOk b) && decide (g.loads.length ≤ 6) && bare g
/-- What the offset can be after one more trial, with a gain. -/
def offStep (gain step : Int) (o : Span) (t : Trial) : Span :=
  ⟨max o.lo (-(-(1000 * t.shown - t.weight * (1000 + gain)) / 1000)), min o.hi ((1000 * (t.shown + step) - 1 - t.weight * (1000 + gain)) / 1000)⟩
def offs (s : Scale) (gain : Int) : Span := s.trials.foldl (offStep gain s.step) s.off
def tuneAt (s : Scale) (gain : Int) : List Tune := if (offs s gain).lo ≤ (offs s gain).hi then [⟨gain, offs s gain⟩] else []
/-- The tunes of the first n gains from a gain on. -/
def tunesN (s : Scale) (gain : Int) : Nat → List Tune
  | 0 => []
  | n + 1 => tunesN s gain n ++ tuneAt s (gain + n)
def gainN (s : Scale) : Nat := (s.gain.hi - s.gain.lo + 1).toNat
def tunes (s : Scale) : List Tune := tunesN s s.gain.lo (gainN s)

theorem offs_sub (gain step : Int) (l : List Trial) (o : Span) : o.lo ≤ (l.foldl (offStep gain step) o).lo ∧ (l.foldl (offStep gain step) o).hi ≤ o.hi := by
  induction l generalizing o with
  | nil => simp
  | cons t l ih =>
    have := ih (offStep gain step o t)
    rw [List.foldl_cons]
    simp only [offStep] at this ⊢
    omega
theorem offs_in (s : Scale) (gain : Int) : s.off.lo ≤ (offs s gain).lo ∧ (offs s gain).hi ≤ s.off.hi := offs_sub _ _ _ _
theorem tunesN_len (s : Scale) (gain : Int) (n : Nat) : (tunesN s gain n).length ≤ n := by
  induction n with
  | zero => simp [tunesN]
  | succ n ih =>
    simp only [tunesN, List.length_append]
    unfold tuneAt
    split <;> simp <;> omega
def check (b : List Scale) (g : Gear) : Int := if bayOk b then (if gearOk b g then 0 else 41) else 40

theorem tune_bound {s : Scale} {g : Int} {n : Nat} (hr : -10 ≤ g ∧ g + n ≤ 11) : ∀ t ∈ tunesN s g n, (g ≤ t.gain ∧ t.gain < g + n) ∧ s.off.lo ≤ t.off.lo ∧ t.off.lo ≤ t.off.hi ∧ t.off.hi ≤ s.off.hi := by
  induction n with
  | zero => intro t ht; simp [tunesN] at ht
  | succ n ih =>
    intro t ht
    rw [tunesN, List.mem_append] at ht
    rcases ht with ht | ht
    · have := ih (by omega) t ht; omega
    · unfold tuneAt at ht
      split at ht
      · rw [List.mem_singleton] at ht
        subst ht
        have := offs_in s (g + n)
        simp only
        omega
      · cases ht
theorem tunes_bound {s : Scale} (hr : right s = true) : ∀ t ∈ tunes s, (-10 ≤ t.gain ∧ t.gain ≤ 10) ∧ (-100 ≤ t.off.lo ∧ t.off.lo ≤ 100) ∧ (-100 ≤ t.off.hi ∧ t.off.hi ≤ 100) ∧ s.gain.lo ≤ t.gain ∧ t.gain ≤ s.gain.hi ∧ t.off.lo ≤ t.off.hi ∧ s.off.lo ≤ t.off.lo ∧ t.off.hi ≤ s.off.hi := by
  intro t ht
  simp [right, inb, ordered] at hr
  have h := tune_bound (s := s) (g := s.gain.lo) (n := gainN s) (by unfold gainN; omega) t ht
  unfold gainN at h
  omega
end Kr

/-
  Spans of numbers: the fewest ones of given spans; sums; what numbers they have. Plain laws.
-/
namespace Kr

theorem snoc_cases {α : Type} (l : List α) : l = [] ∨ ∃ r k, l = r ++ [k] := by
  rcases List.eq_nil_or_concat l with h | ⟨r, k, h⟩
  · exact .inl h
  · exact .inr ⟨r, k, by rw [h, List.concat_eq_append]⟩

/-- One span more, behind spans by their lo. -/
def push (few : List Span) (s : Span) : List Span :=
  match few.getLast? with
  | some k => if s.lo ≤ k.hi + 1 then few.dropLast ++ [⟨k.lo, max k.hi s.hi⟩] else few ++ [s]
  | none => [s]
theorem push_nil (s : Span) : push [] s = [s] := rfl
theorem push_snoc (r : List Span) (k s : Span) : push (r ++ [k]) s = if s.lo ≤ k.hi + 1 then r ++ [⟨k.lo, max k.hi s.hi⟩] else r ++ [k] ++ [s] := by
  unfold push
  simp
def loLe (a b : Span) : Bool := decide (a.lo ≤ b.lo)
def merged (l : List Span) : List Span := (l.mergeSort loLe).foldl push []
def ByLo (l : List Span) : Prop := l.Pairwise fun a b => a.lo ≤ b.lo
def Full (l : List Span) : Prop := ∀ s ∈ l, s.lo ≤ s.hi

theorem push_swap (few : List Span) (x a : Span) (h : x.lo = a.lo) (hx : x.lo ≤ x.hi) (ha : a.lo ≤ a.hi) : push (push few x) a = push (push few a) x := by
  rcases snoc_cases few with rfl | ⟨r, k, rfl⟩
  · rw [push_nil, push_nil]
    rw [show [x] = [] ++ [x] from rfl, show [a] = [] ++ [a] from rfl, push_snoc, push_snoc, if_pos (by omega), if_pos (by omega), h, Int.max_comm]
  · rw [push_snoc, push_snoc]
    by_cases hc : x.lo ≤ k.hi + 1
    · rw [if_pos hc, if_pos (by omega), push_snoc, push_snoc, if_pos (by simp only; omega), if_pos (by simp only; omega)]
      simp only [Int.max_assoc, Int.max_comm x.hi]
    · rw [if_neg hc, if_neg (by omega), push_snoc, push_snoc, if_pos (by omega), if_pos (by omega), h, Int.max_comm]
theorem fold_front (p : List Span) (a : Span) (q few : List Span) (hp : ∀ x ∈ p, x.lo = a.lo ∧ x.lo ≤ x.hi) (ha : a.lo ≤ a.hi) : (p ++ a :: q).foldl push few = (a :: (p ++ q)).foldl push few := by
  induction p generalizing few with
  | nil => rfl
  | cons x p ih =>
    rw [List.cons_append, List.foldl_cons, ih _ (fun y hy => hp y (List.mem_cons_of_mem _ hy)), List.foldl_cons, List.foldl_cons, List.cons_append, List.foldl_cons, push_swap _ _ _ (hp x (List.mem_cons_self ..)).1 (hp x (List.mem_cons_self ..)).2 ha]
theorem fold_perm (l1 l2 few : List Span) (hp : l1.Perm l2) (h1 : ByLo l1) (h2 : ByLo l2) (hf : Full l1) : l1.foldl push few = l2.foldl push few := by
  induction l1 generalizing l2 few with
  | nil => rw [List.nil_perm.1 hp]
  | cons a t ih =>
    have hm : a ∈ l2 := hp.mem_iff.1 (List.mem_cons_self ..)
    obtain ⟨p, q, rfl⟩ := List.append_of_mem hm
    have hpl : ∀ x ∈ p, x.lo = a.lo ∧ x.lo ≤ x.hi := fun x hx => by
      have hx2 : x ∈ a :: t := hp.mem_iff.2 (List.mem_append_left _ hx)
      refine ⟨?_, hf x hx2⟩
      have e1 : x.lo ≤ a.lo := (List.pairwise_append.1 h2).2.2 x hx a (List.mem_cons_self ..)
      rcases List.mem_cons.1 hx2 with rfl | hx3
      · rfl
      · have := (List.pairwise_cons.1 h1).1 x hx3; omega
    rw [fold_front p a q few hpl (hf a (List.mem_cons_self ..)), List.foldl_cons, List.foldl_cons]
    have hperm : t.Perm (p ++ q) := by
      have := hp.trans List.perm_middle
      exact (List.perm_cons a).1 this
    refine ih _ _ hperm (List.pairwise_cons.1 h1).2 ?_ (fun s hs => hf s (List.mem_cons_of_mem _ hs))
    exact h2.sublist (List.Sublist.append_left (List.sublist_cons_self a q) p)
theorem byLo_sort (l : List Span) : ByLo (l.mergeSort loLe) := by
  have h := List.pairwise_mergeSort (le := loLe) (fun a b c h1 h2 => by simp [loLe] at *; omega) (fun a b => by simp [loLe]; omega) l
  exact h.imp (fun h => by simpa [loLe] using h)
/-- Whatever order a sort leaves. -/
theorem merged_of {l l' : List Span} (hp : l'.Perm l) (hs : ByLo l') (hf : Full l) : l'.foldl push [] = merged l := by
  refine fold_perm _ _ _ (hp.trans (List.mergeSort_perm l loLe).symm) hs (byLo_sort l) (fun s h => hf s (hp.mem_iff.1 h))

/-- Spans that neither meet nor touch, in order. -/
def Neat (l : List Span) : Prop := Full l ∧ l.Pairwise fun a b => a.hi + 1 < b.lo
/-- A number is in one of them. -/
def has (l : List Span) (x : Int) : Prop := ∃ s ∈ l, s.lo ≤ x ∧ x ≤ s.hi
theorem has_append (a b : List Span) (x : Int) : has (a ++ b) x ↔ has a x ∨ has b x := by
  unfold has
  constructor
  · rintro ⟨s, hs, h⟩; rcases List.mem_append.1 hs with h1 | h1; exact .inl ⟨s, h1, h⟩; exact .inr ⟨s, h1, h⟩
  · rintro (⟨s, hs, h⟩ | ⟨s, hs, h⟩); exact ⟨s, List.mem_append_left _ hs, h⟩; exact ⟨s, List.mem_append_right _ hs, h⟩
theorem has_one (s : Span) (x : Int) : has [s] x ↔ s.lo ≤ x ∧ x ≤ s.hi := by simp [has]
theorem has_nil (x : Int) : ¬ has [] x := by simp [has]
theorem has_perm {l l' : List Span} (h : l.Perm l') (x : Int) : has l x ↔ has l' x := by
  unfold has
  constructor
  · rintro ⟨s, hs, hx⟩; exact ⟨s, h.mem_iff.1 hs, hx⟩
  · rintro ⟨s, hs, hx⟩; exact ⟨s, h.mem_iff.2 hs, hx⟩

/-- All that lies in few stays below s's lo. -/
def Under (few : List Span) (s : Span) : Prop := ∀ k ∈ few, k.lo ≤ s.lo
theorem push_has {few : List Span} {s : Span} (hf : Full few) (hu : Under few s) (_hs : s.lo ≤ s.hi) (x : Int) : has (push few s) x ↔ has few x ∨ (s.lo ≤ x ∧ x ≤ s.hi) := by
  rcases snoc_cases few with rfl | ⟨r, k, rfl⟩
  · rw [push_nil, has_one]; simp [has_nil]
  · have hk : k.lo ≤ k.hi := hf k (by simp)
    have hk2 : k.lo ≤ s.lo := hu k (by simp)
    rw [push_snoc]
    split
    · rw [has_append, has_append, has_one, has_one]
      constructor
      · rintro (h | h)
        · exact .inl (.inl h)
        · simp only at h
          by_cases hx : x ≤ k.hi
          · exact .inl (.inr ⟨by omega, hx⟩)
          · exact .inr ⟨by omega, by omega⟩
      · rintro ((h | h) | h)
        · exact .inl h
        · exact .inr ⟨by simp only; omega, by simp only; omega⟩
        · exact .inr ⟨by simp only; omega, by simp only; omega⟩
    · rw [has_append, has_one]
theorem push_neat {few : List Span} {s : Span} (hn : Neat few) (hu : Under few s) (hs : s.lo ≤ s.hi) : Neat (push few s) := by
  rcases snoc_cases few with rfl | ⟨r, k, rfl⟩
  · rw [push_nil]; exact ⟨fun y hy => by rw [List.mem_singleton.1 hy]; exact hs, List.pairwise_singleton _ _⟩
  · obtain ⟨hf, hp⟩ := hn
    have hp' := List.pairwise_append.1 hp
    have hk : k.lo ≤ k.hi := hf k (by simp)
    have hk2 : k.lo ≤ s.lo := hu k (by simp)
    rw [push_snoc]
    split
    · refine ⟨fun y hy => ?_, List.pairwise_append.2 ⟨hp'.1, List.pairwise_singleton _ _, fun a ha b hb => ?_⟩⟩
      · rcases List.mem_append.1 hy with h | h
        · exact hf y (List.mem_append_left _ h)
        · rw [List.mem_singleton.1 h]; simp only; omega
      · rw [List.mem_singleton.1 hb]; exact hp'.2.2 a ha k (by simp)
    · rename_i hc
      refine ⟨fun y hy => ?_, List.pairwise_append.2 ⟨hp, List.pairwise_singleton _ _, fun a ha b hb => ?_⟩⟩
      · rcases List.mem_append.1 hy with h | h
        · exact hf y h
        · rw [List.mem_singleton.1 h]; exact hs
      · rw [List.mem_singleton.1 hb]
        rcases List.mem_append.1 ha with h | h
        · have := hp'.2.2 a h k (by simp); have := hf a (List.mem_append_left _ h); omega
        · rw [List.mem_singleton.1 h]; omega
theorem push_under {few : List Span} {s t : Span} (hu : Under few s) (ht : s.lo ≤ t.lo) : Under (push few s) t := by
  rcases snoc_cases few with rfl | ⟨r, k, rfl⟩
  · rw [push_nil]; intro y hy; rw [List.mem_singleton.1 hy]; exact ht
  · have hk2 : k.lo ≤ s.lo := hu k (by simp)
    rw [push_snoc]
    split
    · intro y hy
      rcases List.mem_append.1 hy with h | h
      · have := hu y (List.mem_append_left _ h); omega
      · rw [List.mem_singleton.1 h]; simp only; omega
    · intro y hy
      rcases List.mem_append.1 hy with h | h
      · have := hu y h; omega
      · rw [List.mem_singleton.1 h]; exact ht
theorem fold_neat (l few : List Span) (h1 : ByLo l) (hf : Full l) (hn : Neat few) (hu : ∀ s ∈ l, Under few s) : Neat (l.foldl push few) ∧ ∀ x, has (l.foldl push few) x ↔ has few x ∨ has l x := by
  induction l generalizing few with
  | nil => exact ⟨hn, fun x => by simp [has_nil]⟩
  | cons s l ih =>
    have hs := hf s (List.mem_cons_self ..)
    have hus := hu s (List.mem_cons_self ..)
    have h2 := List.pairwise_cons.1 h1
    have := ih (push few s) h2.2 (fun t ht => hf t (List.mem_cons_of_mem _ ht)) (push_neat hn hus hs) (fun t ht => push_under hus (h2.1 t ht))
    refine ⟨this.1, fun x => ?_⟩
    rw [List.foldl_cons, this.2 x, push_has hn.1 hus hs, show (s :: l) = [s] ++ l from rfl, has_append, has_one, or_assoc]
theorem merged_neat {l : List Span} (hf : Full l) : Neat (merged l) :=
  (fold_neat _ [] (byLo_sort l) (fun s hs => hf s ((List.mergeSort_perm l loLe).mem_iff.1 hs)) ⟨fun _ h => by simp at h, List.Pairwise.nil⟩ (fun _ _ _ h => by simp at h)).1
theorem merged_has {l : List Span} (hf : Full l) (x : Int) : has (merged l) x ↔ has l x := by
  have := (fold_neat _ [] (byLo_sort l) (fun s hs => hf s ((List.mergeSort_perm l loLe).mem_iff.1 hs)) ⟨fun _ h => by simp at h, List.Pairwise.nil⟩ (fun _ _ _ h => by simp at h)).2 x
  unfold merged
  rw [this, has_perm (List.mergeSort_perm l loLe)]
  simp [has_nil]
theorem merged_full {l : List Span} (hf : Full l) : Full (merged l) := (merged_neat hf).1

/-- Ends lie from a to b. -/
def Within (a b : Int) (l : List Span) : Prop := ∀ s ∈ l, a ≤ s.lo ∧ s.hi ≤ b
theorem within_has {a b : Int} {l : List Span} (hf : Full l) : Within a b l ↔ ∀ x, has l x → a ≤ x ∧ x ≤ b := by
  constructor
  · rintro h x ⟨s, hs, h1, h2⟩; have := h s hs; omega
  · intro h s hs
    have hs2 := hf s hs
    have h1 := h s.lo ⟨s, hs, by omega, hs2⟩
    have h2 := h s.hi ⟨s, hs, hs2, by omega⟩
    omega
theorem merged_within {a b : Int} {l : List Span} (hf : Full l) (h : Within a b l) : Within a b (merged l) := by
  rw [within_has (merged_full hf)]
  intro x hx
  exact (within_has hf).1 h x ((merged_has hf x).1 hx)
theorem neat_len {a b : Int} {l : List Span} (hn : Neat l) (h : Within a b l) (hab : a ≤ b + 1) : (l.length : Int) ≤ b + 1 - a := by
  obtain ⟨hf, hp⟩ := hn
  induction l generalizing a with
  | nil => simp; omega
  | cons s l ih =>
    have h2 := List.pairwise_cons.1 hp
    have hs := hf s (List.mem_cons_self ..)
    have hs2 := h s (List.mem_cons_self ..)
    have := ih (a := s.hi + 1) (fun t ht => ⟨by have := h2.1 t ht; omega, (h t (List.mem_cons_of_mem _ ht)).2⟩) (by omega) (fun t ht => hf t (List.mem_cons_of_mem _ ht)) h2.2
    rw [List.length_cons]
    omega
theorem merged_len (l : List Span) : (merged l).length ≤ l.length := by
  have key : ∀ (l few : List Span), (l.foldl push few).length ≤ few.length + l.length := by
    intro l
    induction l with
    | nil => intro few; simp
    | cons s l ih =>
      intro few
      rw [List.foldl_cons]
      have := ih (push few s)
      have h2 : (push few s).length ≤ few.length + 1 := by
        rcases snoc_cases few with rfl | ⟨r, k, rfl⟩
        · simp [push_nil]
        · rw [push_snoc]; split <;> simp
      rw [List.length_cons]; omega
  have := key (l.mergeSort loLe) []
  rw [List.length_mergeSort] at this
  simpa [merged] using this
/-- All sums of one span and others. -/
def crossed (a b : List Span) : List Span := a.flatMap fun s => b.map fun t => ⟨s.lo + t.lo, s.hi + t.hi⟩
def plus (a b : List Span) : List Span := merged (crossed a b)
theorem crossed_full {a b : List Span} (ha : Full a) (hb : Full b) : Full (crossed a b) := by
  intro s hs
  simp only [crossed, List.mem_flatMap, List.mem_map] at hs
  obtain ⟨x, hx, y, hy, rfl⟩ := hs
  have := ha x hx
  have := hb y hy
  simp only; omega
theorem crossed_within {a b : List Span} {p q r t : Int} (ha : Within p q a) (hb : Within r t b) : Within (p + r) (q + t) (crossed a b) := by
  intro s hs
  simp only [crossed, List.mem_flatMap, List.mem_map] at hs
  obtain ⟨x, hx, y, hy, rfl⟩ := hs
  have := ha x hx
  have := hb y hy
  simp only; omega
theorem crossed_len (a b : List Span) : (crossed a b).length = a.length * b.length := by
  unfold crossed
  induction a with
  | nil => simp
  | cons x l ih => rw [List.flatMap_cons, List.length_append, ih, List.length_map, List.length_cons, Nat.succ_mul]; omega
theorem plus_neat {a b : List Span} (ha : Full a) (hb : Full b) : Neat (plus a b) := merged_neat (crossed_full ha hb)
theorem plus_within {a b : List Span} {p q r t : Int} (ha : Full a) (hb : Full b) (h1 : Within p q a) (h2 : Within r t b) : Within (p + r) (q + t) (plus a b) := merged_within (crossed_full ha hb) (crossed_within h1 h2)
end Kr

/-
  The totals of gear, and the first truth with a total. Plain laws.
-/
namespace Kr

/-- The weights for which a scale with a gain and an offset shows a number. -/
def wt (step gain off n : Int) : Span := ⟨max 0 (-(-1000 * (n - off) / (1000 + gain))), min 1000000 ((1000 * (n + step - off) - 1) / (1000 + gain))⟩
/-- A truth of a scale, and what its loads weigh together. -/
structure Part where
  gain : Int
  off : Int
  sum : Span
  deriving DecidableEq, Inhabited
def addLoad (s : Scale) (gain off : Int) (x : Option Span) (l : Load) : Option Span :=
  if l.scale = s.id then
    match x with
    | some x => if (wt s.step gain off l.shown).lo ≤ (wt s.step gain off l.shown).hi then some ⟨x.lo + (wt s.step gain off l.shown).lo, x.hi + (wt s.step gain off l.shown).hi⟩ else none
    | none => none
  else x
def partSum (s : Scale) (gain off : Int) (ls : List Load) : Option Span := ls.foldl (addLoad s gain off) (some ⟨0, 0⟩)
def partAt (s : Scale) (ls : List Load) (gain off : Int) : List Part :=
  match partSum s gain off ls with
  | some x => [⟨gain, off, x⟩]
  | none => []
def partsN (s : Scale) (ls : List Load) (gain lo : Int) : Nat → List Part
  | 0 => []
  | n + 1 => partsN s ls gain lo n ++ partAt s ls gain (lo + n)
def offN (t : Tune) : Nat := (t.off.hi - t.off.lo + 1).toNat
def partsT (s : Scale) (ls : List Load) (t : Tune) : List Part := partsN s ls t.gain t.off.lo (offN t)
def partsL (s : Scale) (ls : List Load) (l : List Tune) : List Part := l.flatMap (partsT s ls)
def parts (s : Scale) (ls : List Load) : List Part := partsL s ls (tunes s)
theorem gainN_le {s : Scale} (hr : right s = true) : gainN s ≤ 21 := by
  simp [right, inb, ordered] at hr
  unfold gainN; omega
theorem addLoad_none (s : Scale) (gain off : Int) (ls : List Load) : ls.foldl (addLoad s gain off) none = none := by
  induction ls with
  | nil => rfl
  | cons l ls ih =>
    rw [List.foldl_cons, show addLoad s gain off none l = none from by unfold addLoad; split <;> rfl, ih]

theorem wt_bound (step gain off n : Int) : 0 ≤ (wt step gain off n).lo ∧ (wt step gain off n).hi ≤ 1000000 := by
  unfold wt; simp only; omega
theorem sum_bound {s : Scale} {gain off : Int} (ls : List Load) {o x : Span} {a : Int} (ha : 0 ≤ o.lo ∧ o.lo ≤ o.hi ∧ o.hi ≤ a) (h : ls.foldl (addLoad s gain off) (some o) = some x) : 0 ≤ x.lo ∧ x.lo ≤ x.hi ∧ x.hi ≤ a + 1000000 * ls.length := by
  induction ls generalizing o a with
  | nil => cases h; simp; omega
  | cons l ls ih =>
    rw [List.foldl_cons] at h
    by_cases hl : l.scale = s.id
    · have hw := wt_bound s.step gain off l.shown
      by_cases hc : (wt s.step gain off l.shown).lo ≤ (wt s.step gain off l.shown).hi
      · rw [show addLoad s gain off (some o) l = some ⟨o.lo + (wt s.step gain off l.shown).lo, o.hi + (wt s.step gain off l.shown).hi⟩ from by unfold addLoad; rw [if_pos hl]; simp only; rw [if_pos hc]] at h
        have := ih (a := a + 1000000) (by simp only; omega) h
        rw [List.length_cons]; omega
      · rw [show addLoad s gain off (some o) l = none from by unfold addLoad; rw [if_pos hl]; simp only; rw [if_neg hc], addLoad_none] at h
        cases h
    · rw [show addLoad s gain off (some o) l = some o from by unfold addLoad; rw [if_neg hl]] at h
      have := ih ha h
      rw [List.length_cons]; omega
theorem partSum_bound {s : Scale} {gain off : Int} {ls : List Load} {x : Span} (h : partSum s gain off ls = some x) : 0 ≤ x.lo ∧ x.lo ≤ x.hi ∧ x.hi ≤ 1000000 * ls.length := by
  have := sum_bound ls (a := 0) (o := ⟨0, 0⟩) (by simp) h
  omega
def Good (k : Nat) (l : List Part) : Prop := ∀ p ∈ l, 0 ≤ p.sum.lo ∧ p.sum.lo ≤ p.sum.hi ∧ p.sum.hi ≤ 1000000 * (k : Int)
theorem partAt_good (s : Scale) (ls : List Load) (gain off : Int) : Good ls.length (partAt s ls gain off) := by
  intro p hp
  unfold partAt at hp
  split at hp
  · rename_i x hx
    rw [List.mem_singleton.1 hp]
    exact partSum_bound hx
  · cases hp
theorem partsN_good (s : Scale) (ls : List Load) (gain lo : Int) (n : Nat) : Good ls.length (partsN s ls gain lo n) := by
  induction n with
  | zero => intro p hp; cases hp
  | succ n ih =>
    intro p hp
    rcases List.mem_append.1 hp with h | h
    · exact ih p h
    · exact partAt_good _ _ _ _ p h
theorem partsN_len (s : Scale) (ls : List Load) (gain lo : Int) (n : Nat) : (partsN s ls gain lo n).length ≤ n := by
  induction n with
  | zero => simp [partsN]
  | succ n ih =>
    rw [partsN, List.length_append]
    have : (partAt s ls gain (lo + n)).length ≤ 1 := by unfold partAt; split <;> simp
    omega
theorem partsL_good (s : Scale) (ls : List Load) (l : List Tune) : Good ls.length (partsL s ls l) := by
  intro p hp
  obtain ⟨t, _, hp⟩ := List.mem_flatMap.1 hp
  exact partsN_good _ _ _ _ _ p hp
theorem partsL_len (s : Scale) (ls : List Load) (l : List Tune) (h : ∀ t ∈ l, -100 ≤ t.off.lo ∧ t.off.hi ≤ 100) : (partsL s ls l).length ≤ 201 * l.length := by
  induction l with
  | nil => simp [partsL]
  | cons t l ih =>
    have h1 := ih (fun t ht => h t (List.mem_cons_of_mem _ ht))
    have h2 := partsN_len s ls t.gain t.off.lo (offN t)
    have h3 := h t (List.mem_cons_self ..)
    unfold partsL at h1 ⊢
    rw [List.flatMap_cons, List.length_append, List.length_cons]
    have : offN t ≤ 201 := by unfold offN; omega
    unfold partsT at *
    omega
theorem parts_good (s : Scale) (ls : List Load) : Good ls.length (parts s ls) := partsL_good _ _ _
theorem parts_len {s : Scale} (ls : List Load) (hr : right s = true) : (parts s ls).length ≤ 4221 := by
  have h1 := partsL_len s ls (tunes s) (fun t ht => by have := tunes_bound hr t ht; omega)
  have h2 := tunesN_len s s.gain.lo (gainN s)
  simp [right, inb, ordered] at hr
  have h3 : gainN s ≤ 21 := by unfold gainN; omega
  unfold parts
  unfold tunes at h1 ⊢
  omega

/-- The scales that some load names. -/
def usedB (ls : List Load) (s : Scale) : Bool := ls.any fun l => l.scale == s.id
def used (b : List Scale) (ls : List Load) : List Scale := b.filter (usedB ls)
def sums (l : List Part) : List Span := merged (l.map Part.sum)
def totalsL (ls : List Load) (all : List Span) (l : List Scale) : List Span := l.foldl (fun all s => plus all (sums (parts s ls))) all
def totals (b : List Scale) (g : Gear) : List Span := totalsL g.loads [⟨g.added, g.added⟩] (used b g.loads)
theorem good_full {k : Nat} {l : List Part} (h : Good k l) : Full (l.map Part.sum) := by
  intro s hs
  obtain ⟨p, hp, rfl⟩ := List.mem_map.1 hs
  exact (h p hp).2.1
theorem good_within {k : Nat} {l : List Part} (h : Good k l) : Within 0 (1000000 * k) (l.map Part.sum) := by
  intro s hs
  obtain ⟨p, hp, rfl⟩ := List.mem_map.1 hs
  exact ⟨(h p hp).1, (h p hp).2.2⟩
theorem sums_neat {k : Nat} {l : List Part} (h : Good k l) : Neat (sums l) := merged_neat (good_full h)
theorem sums_within {k : Nat} {l : List Part} (h : Good k l) : Within 0 (1000000 * k) (sums l) := merged_within (good_full h) (good_within h)
theorem totalsL_ok (ls : List Load) (l : List Scale) (all : List Span) (a c : Int) (hn : Neat all) (hw : Within a c all) : Neat (totalsL ls all l) ∧ Within a (c + 1000000 * ls.length * l.length) (totalsL ls all l) := by
  induction l generalizing all c with
  | nil => exact ⟨hn, by simpa [totalsL] using hw⟩
  | cons s l ih =>
    have hg := parts_good s ls
    have h1 := plus_neat hn.1 (sums_neat hg).1
    have h2 := plus_within hn.1 (sums_neat hg).1 hw (sums_within hg)
    have := ih _ _ h1 (by rw [Int.add_zero] at h2; exact h2)
    refine ⟨this.1, ?_⟩
    have h3 := this.2
    rw [List.length_cons, show c + 1000000 * (ls.length : Int) * ((l.length + 1 : Nat) : Int) = c + 1000000 * ls.length + 1000000 * ls.length * l.length from by rw [Int.natCast_add, Int.mul_add]; simp; omega]
    exact h3

/-! ### What several scales can weigh together, and the first truth -/
/-- Some spans have a number from lo to hi. -/
def touches (l : List Span) (lo hi : Int) : Bool := l.any fun t => decide (t.lo ≤ hi) && decide (lo ≤ t.hi)
/-- What is left behind a part. -/
def leave (left : Span) (p : Part) : Span := ⟨left.lo - p.sum.hi, left.hi - p.sum.lo⟩
/-! ### Weights: the least ones first -/
end Kr

/-
  The first truth with a total: what the reference and the scale answer. Plain laws.
-/
namespace Kr

end Kr

/-
  The first truth step by step: the greedy choice, the spans of all loads, the weights laid. Plain laws.
-/
namespace Kr

def grown (ch : List Part) : Option (List Part × Span) → Option (List Part × Span)
  | some (l, r) => some (ch ++ l, r)
  | none => none
end Kr

/-
  What scales from each one on can weigh together, filled in from the last one on, in whatever order the indices come. Plain laws.
-/
namespace Kr

/-! ### Each scale once -/
end Kr

/-
  What lacks is laid on the last weights: step by step, in whatever order the indices come. Plain laws.
-/
namespace Kr

end Kr

/-
  Plain laws of what is judged, once and again.
-/
namespace Kr

def warmAt (g : Gear) (r : Int) : Span := ⟨r - g.base - 2 * g.jitter, r - g.base + 2 * g.jitter⟩
def warm (g : Gear) : List Span × Int := if bare g then (g.runners.map (warmAt g), 0) else ([], 41)
def hardStep (spread : Int) (o : Span) (x : Int) : Span := ⟨max o.lo (x - spread), min o.hi (x + spread)⟩
def hardOf (g : Gear) : Span := g.strokes.foldl (hardStep g.spread) ⟨0, 2000⟩
def hard (g : Gear) : Span × Int := if bare g then (if (hardOf g).hi < (hardOf g).lo then (⟨0, 0⟩, 8) else (hardOf g, 0)) else (⟨0, 0⟩, 41)
theorem bare_bounds {g : Gear} (h : bare g = true) : (0 ≤ g.added ∧ g.added ≤ 1000000) ∧ (-1000 ≤ g.base ∧ g.base ≤ 1000) ∧ (0 ≤ g.jitter ∧ g.jitter ≤ 1000) ∧ (∀ r ∈ g.runners, -1000 ≤ r ∧ r ≤ 1000) ∧ g.runners.length ≤ 8 ∧ (∀ r ∈ g.strokes, 0 ≤ r ∧ r ≤ 2000) ∧ g.strokes.length ≤ 8 ∧ (0 ≤ g.spread ∧ g.spread ≤ 2000) := by
  simp [bare, inb, inAll] at h
  obtain ⟨⟨⟨⟨⟨h1, h2⟩, h3⟩, h4, h5⟩, h6, h7⟩, h8⟩ := h
  exact ⟨h1, h2, h3, h4, h5, h6, h7, h8⟩

/-- What is known of whether numbers of spans are of one: 2 all, 1 some, 0 none. -/
def knownR (l : List Span) (o : Span) : Int :=
  if (l.all fun s => decide (o.lo ≤ s.lo) && decide (s.hi ≤ o.hi)) = true then 2 else if touches l o.lo o.hi = true then 1 else 0
/-- The same as the other way of asking: both ends are in it. -/
def insideB (o s : Span) : Bool := inAll o.lo o.hi [s.lo, s.hi]
theorem insideB_eq {o s : Span} (h : s.lo ≤ s.hi) : insideB o s = (decide (o.lo ≤ s.lo) && decide (s.hi ≤ o.hi)) := by
  unfold insideB inAll inb
  rw [Bool.eq_iff_iff]
  simp
  omega
theorem inside_all {l : List Span} (hf : Full l) (o : Span) : l.all (insideB o) = l.all fun s => decide (o.lo ≤ s.lo) && decide (s.hi ≤ o.hi) := by
  rw [Bool.eq_iff_iff, List.all_eq_true, List.all_eq_true]
  exact ⟨fun h s hs => (insideB_eq (hf s hs)) ▸ h s hs, fun h s hs => (insideB_eq (hf s hs)).symm ▸ h s hs⟩
theorem knownR_range (l : List Span) (o : Span) : 0 ≤ knownR l o ∧ knownR l o ≤ 2 := by
  unfold knownR
  split
  · omega
  · split <;> omega

def sureR (b : Bool) : Int := if b then 2 else 0
def normB (n : Norm) : Bool := ordered n.total 0 10000000 && ordered n.hard 0 2000 && inb 0 1000000 n.added && inb (-1000) 1000 n.warm
def warmStep (warm : Int) (k : Int) (s : Span) : Int := min k (knownR [s] ⟨-9000, warm⟩)
theorem warm_known {s : Span} (h : s.lo ≤ s.hi) (h9 : -9000 ≤ s.lo) (warm : Int) : knownR [s] ⟨min s.lo warm, warm⟩ = knownR [s] ⟨-9000, warm⟩ := by
  unfold knownR touches
  simp only [List.all_cons, List.all_nil, List.any_cons, List.any_nil, Bool.and_true, Bool.or_false, Bool.and_eq_true, decide_eq_true_eq]
  repeat' split
  all_goals omega
def minOf (l : List Int) : Int := l.foldl min 2

/-- Whether a list comes before one of the same length. -/
def lexB : List Nat → List Nat → Bool
  | a :: as, b :: bs => if a = b then lexB as bs else decide (a < b)
  | _, _ => false
def warmOf (g : Gear) (warm : Int) : Int := (g.runners.map (warmAt g)).foldl (warmStep warm) 2
def partsJ (b : List Scale) (g : Gear) (n : Norm) : List Int :=
  [knownR (totals b g) n.total, sureR (decide (g.added ≤ n.added)), warmOf g n.warm, knownR [(hard g).1] n.hard, sureR (g.stamp || !n.stamp)]
def judgeR (b : List Scale) (g : Gear) (n : Norm) : (List Int × Int) × Int :=
  if check b g ≠ 0 then (([], 0), check b g) else if normB n = false then (([], 0), 42) else if totals b g = [] then (([], 0), 6)
  else if (hard g).2 ≠ 0 then (([], 0), (hard g).2) else ((partsJ b g n, minOf (partsJ b g n)), 0)
theorem sureR_range (b : Bool) : 0 ≤ sureR b ∧ sureR b ≤ 2 := by cases b <;> simp [sureR]
theorem warmOf_range (g : Gear) (warm : Int) : 0 ≤ warmOf g warm ∧ warmOf g warm ≤ 2 := by
  have key : ∀ (l : List Span) (k : Int), 0 ≤ k ∧ k ≤ 2 → 0 ≤ l.foldl (warmStep warm) k ∧ l.foldl (warmStep warm) k ≤ 2 := by
    intro l
    induction l with
    | nil => intro k h; exact h
    | cons s l ih =>
      intro k h
      rw [List.foldl_cons]
      have := knownR_range [s] ⟨-9000, warm⟩
      exact ih _ (by unfold warmStep; omega)
  exact key _ 2 (by omega)
theorem check_zero {b : List Scale} {g : Gear} (h : check b g = 0) : bayOk b = true ∧ gearOk b g = true := by
  unfold check at h
  split at h
  · split at h
    · exact ⟨by assumption, by assumption⟩
    · cases h
  · cases h
theorem gearOk_bare {b : List Scale} {g : Gear} (h : gearOk b g = true) : bare g = true := by
  unfold gearOk at h
  simp at h
  exact h.2
/-! ### Comparing lists, step by step -/
def compareN : List Nat → List Nat → Int
  | [], [] => 0
  | [], _ :: _ => -1
  | _ :: _, [] => 1
  | a :: as, b :: bs => if a = b then compareN as bs else if a < b then -1 else 1
theorem compareN_step {a b : List Nat} {k : Nat} {x y : Nat} (hx : a[k]? = some x) (hy : b[k]? = some y) : compareN (a.drop k) (b.drop k) = if x = y then compareN (a.drop (k + 1)) (b.drop (k + 1)) else if x < y then -1 else 1 := by
  obtain ⟨h1, rfl⟩ := List.getElem?_eq_some_iff.1 hx
  obtain ⟨h2, rfl⟩ := List.getElem?_eq_some_iff.1 hy
  rw [List.drop_eq_getElem_cons h1, List.drop_eq_getElem_cons h2]
  rfl
theorem compareN_left {a b : List Nat} {k : Nat} (h1 : k < a.length) (h2 : b.length ≤ k) : compareN (a.drop k) (b.drop k) = 1 := by
  rw [List.drop_eq_getElem_cons h1, List.drop_eq_nil_of_le h2]
  rfl
theorem compareN_end {a b : List Nat} {k : Nat} (h1 : a.length ≤ k) : compareN (a.drop k) (b.drop k) = if k < b.length then -1 else 0 := by
  rw [List.drop_eq_nil_of_le h1]
  split
  · rename_i h
    rw [List.drop_eq_getElem_cons h]
    rfl
  · rename_i h
    rw [List.drop_eq_nil_of_le (by omega)]
    rfl
end Kr

/-
  Forms of the plain laws that the kernel can reckon with (an insertion sort in the place of the merge sort).
-/
namespace Kr

end Kr

/-
  Plain laws for the outright statements: spans among spans, totals by what is added, totals as numbers.
-/
namespace Kr

def shift (a : Int) (l : List Span) : List Span := l.map fun s => ⟨s.lo + a, s.hi + a⟩
end Kr
