/-
  Several texts in one: see the heads of its parts.
-/

import Derived.Test.YtcickafaomfbmaaGreatDoorZSBksPl
/-
  Books of guests: plain data, what is owed and held. Plain laws.
-/
namespace Kr

/-- How often a number stands in a list, as a whole number. -/
def cnt (i : Int) (l : List Int) : Int := (l.count i : Int)
theorem cnt_nil (i : Int) : cnt i [] = 0 := rfl
theorem cnt_cons (i a : Int) (l : List Int) : cnt i (a :: l) = cnt i l + if a = i then 1 else 0 := by
  unfold cnt
  rw [List.count_cons]
  by_cases h : a = i <;> simp [h]
/-- The sum over all accounts. -/
def sumTo (f : Int → Int) : Nat → Int
  | 0 => 0
  | n + 1 => sumTo f n + f (n : Int)
theorem sumTo_add (f g : Int → Int) : ∀ n, sumTo (fun i => f i + g i) n = sumTo f n + sumTo g n
  | 0 => by simp [sumTo]
  | n + 1 => by simp only [sumTo]; rw [sumTo_add f g n]; omega
theorem sumTo_zero : ∀ n, sumTo (fun _ => 0) n = 0
  | 0 => rfl
  | n + 1 => by simp only [sumTo]; rw [sumTo_zero n]; rfl
theorem sumTo_one (a : Int) : ∀ n : Nat, 0 ≤ a → sumTo (fun i => if a = i then 1 else 0) n = if a < (n : Int) then 1 else 0
  | 0, h => by simp only [sumTo]; rw [if_neg (by omega)]
  | n + 1, h => by
    simp only [sumTo]
    rw [sumTo_one a n h]
    by_cases h1 : a < (n : Int)
    · rw [if_pos h1, if_neg (by omega), if_pos (by omega)]; rfl
    · by_cases h2 : a = (n : Int)
      · rw [if_neg h1, if_pos h2, if_pos (by omega)]; rfl
      · rw [if_neg h1, if_neg h2, if_neg (by omega)]; rfl
theorem sumTo_congr {f g : Int → Int} (h : ∀ i, f i = g i) (n : Nat) : sumTo f n = sumTo g n := by rw [show f = g from funext h]
theorem sumTo_cnt {n : Nat} : ∀ {l : List Int}, (∀ x ∈ l, 0 ≤ x ∧ x < (n : Int)) → sumTo (fun i => cnt i l) n = (l.length : Int)
  | [], _ => by rw [sumTo_congr (g := fun _ => 0) (fun i => cnt_nil i), sumTo_zero]; rfl
  | a :: l, h => by
    have h1 := h a (List.mem_cons_self ..)
    rw [sumTo_congr (fun i => cnt_cons i a l), sumTo_add, sumTo_cnt (fun x hx => h x (List.mem_cons_of_mem _ hx)), sumTo_one a n h1.1, if_pos h1.2, List.length_cons]
    omega
end Kr

/-
  Books: whether they are right. Plain laws.
-/
namespace Kr
set_option linter.unusedVariables false
set_option linter.unusedSimpArgs false

def allN (p : Nat → Bool) (n : Nat) : Bool := (List.range n).all p
theorem allN_iff {p : Nat → Bool} {n : Nat} : allN p n = true ↔ ∀ j, j < n → p j = true := by
  unfold allN
  rw [List.all_eq_true]
  exact ⟨fun h j hj => h j (List.mem_range.2 hj), fun h j hj => h j (List.mem_range.1 hj)⟩
theorem allN_false {p : Nat → Bool} {n k : Nat} (hk : k < n) (h : p k = false) : allN p n = false := by
  cases hq : allN p n
  · rfl
  · rw [allN_iff.1 hq k hk] at h; cases h
theorem below_snoc {p : Nat → Bool} {k : Nat} (h : ∀ j, j < k → p j = true) (hk : p k = true) : ∀ j, j < k + 1 → p j = true := fun j hj => by
  rcases Nat.lt_or_ge j k with h1 | h1
  · exact h j h1
  · rw [show j = k by omega]; exact hk
theorem getD_of {α : Type} {l : List α} {k : Nat} {x d : α} (h : l[k]? = some x) : l.getD k d = x := by rw [List.getD_eq_getElem?_getD, h]; rfl

def upAt (l : List Int) (k : Nat) : Bool := decide (l.getD k 0 < l.getD (k + 1) 0)
theorem inb_iff {lo hi n : Int} : inb lo hi n = true ↔ lo ≤ n ∧ n ≤ hi := by unfold inb; simp
theorem inAll_mem {lo hi : Int} {l : List Int} (h : inAll lo hi l = true) : ∀ x ∈ l, lo ≤ x ∧ x ≤ hi := fun x hx => inb_iff.1 (List.all_eq_true.1 h x hx)
end Kr

/-
  Covers of ice: plain data, what is valid, how thick ice is, the rows of an ice book. Plain laws.
-/
namespace Kr
set_option linter.unusedSimpArgs false
set_option linter.unusedVariables false

structure Stretch where
  id : Int
  long : Span
  fall : Span
  radius : Span
  side : Int
  wall : Int
  deriving DecidableEq, Inhabited
structure Bed where
  thick : Span
  sun : Int
  deriving DecidableEq, Inhabited
structure Hour where
  melt : Span
  runs : Int
  crew : Int
  cold : Bool
  deriving DecidableEq, Inhabited
structure Cover where
  track : List Stretch
  beds : List Bed
  hours : List Hour
  wear : Span
  layer : Span
  rate : Int
  limit : Int
  base : Int
  deriving DecidableEq, Inhabited

/-- Whether a stretch is right, its side apart. -/
def strHead (s : Stretch) : Bool := ordered s.long 1 30000 && (ordered s.fall 0 5000 && inb 0 5000 s.wall)
def sideOk (s : Stretch) : Bool := if s.side = 0 then decide (s.radius.lo = 0) && decide (s.radius.hi = 0) else if s.side = 1 ∨ s.side = 2 then ordered s.radius 500 20000 else false
def strAt (t : List Stretch) (k : Nat) : Bool := inb 0 9999 (t.getD k default).id && ((decide (k = 0) || decide ((t.getD (k - 1) default).id < (t.getD k default).id)) && (strHead (t.getD k default) && sideOk (t.getD k default)))
def trackB (t : List Stretch) : Bool := inb 1 12 (t.length : Int) && allN (strAt t) t.length
def bedOk (b : Bed) : Bool := ordered b.thick 0 2000 && inb 0 9 b.sun
def hourOk (h : Hour) : Bool := ordered h.melt 0 50 && (inb 0 60 h.runs && inb 0 12 h.crew)
def restOk (c : Cover) : Bool := ordered c.wear 0 20 && (ordered c.layer 1 100 && (inb 0 100 c.rate && (inb 0 2000 c.limit && inb 0 c.limit c.base)))
def iceB (c : Cover) : Bool := decide (c.beds.length = c.track.length) && (inb 1 8 (c.hours.length : Int) && (restOk c && (c.beds.all bedOk && c.hours.all hourOk)))
/-- The error of a cover. -/
def coverErr (c : Cover) : Int := if trackB c.track then (if iceB c then 0 else 20) else 10
def dayOk (c : Cover) (plan : List (List Int)) (k : Nat) : Bool :=
  (decide (((plan.getD k []).length : Int) ≤ (c.hours.getD k default).crew) && (decide ((plan.getD k []).length = 0) || (c.hours.getD k default).cold)) && (inAll 0 ((c.beds.length : Int) - 1) (plan.getD k []) && allN (upAt (plan.getD k [])) ((plan.getD k []).length - 1))
def validP (c : Cover) (plan : List (List Int)) : Bool := decide (plan.length = c.hours.length) && allN (dayOk c plan) plan.length
/-- The error of a cover and a plan. -/
def planErr (c : Cover) (plan : List (List Int)) : Int := if coverErr c = 0 then (if validP c plan then 0 else 21) else coverErr c
/-- Whether a number of a list stands right: as the reference asks. -/
def rAt (lo hi : Int) (l : List Int) (k : Nat) : Bool := inb lo hi (l.getD k 0) && (decide (k = 0) || decide (l.getD (k - 1) 0 < l.getD k 0))
theorem rAt_eq (lo hi : Int) (l : List Int) : allN (rAt lo hi l) l.length = (inAll lo hi l && allN (upAt l) (l.length - 1)) := by
  rw [Bool.eq_iff_iff]
  unfold rAt upAt inAll
  simp only [allN_iff, Bool.and_eq_true, Bool.or_eq_true, decide_eq_true_eq, List.all_eq_true]
  constructor
  · intro h
    refine ⟨fun x hx => ?_, fun j hj => ?_⟩
    · obtain ⟨k, hk, rfl⟩ := List.getElem_of_mem hx
      have h1 := (h k hk).1
      rwa [List.getD_eq_getElem?_getD, List.getElem?_eq_getElem hk, Option.getD_some] at h1
    · have h1 := (h (j + 1) (by omega)).2
      rcases h1 with h1 | h1
      · omega
      · simpa using h1
  · rintro ⟨h1, h2⟩ k hk
    refine ⟨?_, ?_⟩
    · rw [List.getD_eq_getElem?_getD, List.getElem?_eq_getElem hk, Option.getD_some]
      exact h1 _ (List.getElem_mem hk)
    · rcases Nat.eq_zero_or_pos k with h | h
      · exact .inl h
      · right
        have h3 := h2 (k - 1) (by omega)
        rwa [show k - 1 + 1 = k by omega] at h3
/-- What a stretch loses in an hour. -/
def lossOf (wear : Span) (b : Bed) (h : Hour) : Span := ⟨b.sun * h.melt.lo + h.runs * wear.lo, b.sun * h.melt.hi + h.runs * wear.hi⟩
def stepT (layer l : Span) (sprayed : Bool) (t : Span) : Span := bif sprayed then ⟨max 0 (t.lo - l.hi) + layer.lo, max 0 (t.hi - l.lo) + layer.hi⟩ else ⟨max 0 (t.lo - l.hi), max 0 (t.hi - l.lo)⟩
def lossAt (c : Cover) (i h : Nat) : Span := lossOf c.wear (c.beds.getD i default) (c.hours.getD h default)
def sprayed (plan : List (List Int)) (h i : Nat) : Bool := (plan.getD h []).any fun y => y == (i : Int)
/-- How thick a stretch is at the beginning of an hour. -/
def thickAt (c : Cover) (plan : List (List Int)) (i : Nat) : Nat → Span
  | 0 => (c.beds.getD i default).thick
  | h + 1 => stepT c.layer (lossAt c i h) (sprayed plan h i) (thickAt c plan i h)
def rowAt (c : Cover) (plan : List (List Int)) (h i : Nat) : List Int := [(h : Int), (i : Int), (thickAt c plan i h).lo, (thickAt c plan i h).hi, if sprayed plan h i then 1 else 0]
/-- The rows of the ice book of the first hours. -/
def rowsTo (c : Cover) (plan : List (List Int)) (h : Nat) : List (List Int) := (List.range h).flatMap fun k => (List.range c.beds.length).map (rowAt c plan k)
def rowsPart (c : Cover) (plan : List (List Int)) (h i : Nat) : List (List Int) := rowsTo c plan h ++ (List.range i).map (rowAt c plan h)
theorem rowsTo_succ (c : Cover) (plan : List (List Int)) (h : Nat) : rowsTo c plan (h + 1) = rowsPart c plan h c.beds.length := by
  unfold rowsPart rowsTo
  rw [List.range_succ, List.flatMap_append]
  simp
theorem rowsPart_succ (c : Cover) (plan : List (List Int)) (h i : Nat) : rowsPart c plan h (i + 1) = rowsPart c plan h i ++ [rowAt c plan h i] := by
  unfold rowsPart
  rw [List.range_succ, List.map_append, List.map_singleton, List.append_assoc]
theorem rowsPart_zero (c : Cover) (plan : List (List Int)) (h : Nat) : rowsPart c plan h 0 = rowsTo c plan h := by
  unfold rowsPart
  simp

/-- What holds of a valid cover. -/
structure CoverFacts (c : Cover) : Prop where
  t1 : 1 ≤ c.track.length ∧ c.track.length ≤ 12
  beds : c.beds.length = c.track.length
  hours : 1 ≤ c.hours.length ∧ c.hours.length ≤ 8
  wear : 0 ≤ c.wear.lo ∧ c.wear.lo ≤ c.wear.hi ∧ c.wear.hi ≤ 20
  layer : 1 ≤ c.layer.lo ∧ c.layer.lo ≤ c.layer.hi ∧ c.layer.hi ≤ 100
  limit : 0 ≤ c.limit ∧ c.limit ≤ 2000
  base : 0 ≤ c.base ∧ c.base ≤ c.limit
  bed : ∀ b ∈ c.beds, (0 ≤ b.thick.lo ∧ b.thick.lo ≤ b.thick.hi ∧ b.thick.hi ≤ 2000) ∧ 0 ≤ b.sun ∧ b.sun ≤ 9
  hour : ∀ h ∈ c.hours, (0 ≤ h.melt.lo ∧ h.melt.lo ≤ h.melt.hi ∧ h.melt.hi ≤ 50) ∧ (0 ≤ h.runs ∧ h.runs ≤ 60) ∧ 0 ≤ h.crew ∧ h.crew ≤ 12
theorem inb_iff' {lo hi n : Int} : inb lo hi n = true ↔ lo ≤ n ∧ n ≤ hi := by unfold inb; simp
theorem ordered_iff {s : Span} {lo hi : Int} : ordered s lo hi = true ↔ lo ≤ s.lo ∧ s.lo ≤ s.hi ∧ s.hi ≤ hi := by unfold ordered; simp [and_assoc]
theorem coverErr_zero {c : Cover} (h : coverErr c = 0) : trackB c.track = true ∧ iceB c = true := by
  unfold coverErr at h
  split at h
  · split at h
    · exact ⟨by assumption, by assumption⟩
    · cases h
  · cases h
theorem cover_facts {c : Cover} (h : coverErr c = 0) : CoverFacts c := by
  obtain ⟨h1, h2⟩ := coverErr_zero h
  unfold trackB at h1
  unfold iceB restOk at h2
  simp only [Bool.and_eq_true, inb_iff', ordered_iff, decide_eq_true_eq, List.all_eq_true] at h1 h2
  obtain ⟨⟨a1, a2⟩, -⟩ := h1
  obtain ⟨b1, ⟨b2, b3⟩, ⟨b4, b5, b6, b7, b8⟩, b9, b10⟩ := h2
  refine ⟨by omega, b1, by omega, b4, b5, b7, b8, fun b hb => ?_, fun x hx => ?_⟩
  · have := b9 b hb
    unfold bedOk at this
    simpa only [Bool.and_eq_true, inb_iff', ordered_iff] using this
  · have := b10 x hx
    unfold hourOk at this
    simpa only [Bool.and_eq_true, inb_iff', ordered_iff] using this
theorem planErr_zero {c : Cover} {plan : List (List Int)} (h : planErr c plan = 0) : coverErr c = 0 ∧ validP c plan = true := by
  unfold planErr at h
  split at h
  · split at h
    · exact ⟨by assumption, by assumption⟩
    · cases h
  · contradiction
theorem mul_bd {a b x y : Int} (ha : 0 ≤ a) (hax : a ≤ x) (hb : 0 ≤ b) (hby : b ≤ y) : 0 ≤ a * b ∧ a * b ≤ x * y := ⟨Int.mul_nonneg ha hb, Int.mul_le_mul hax hby hb (by omega)⟩
theorem loss_bd {wear : Span} {b : Bed} {h : Hour} (hw : 0 ≤ wear.lo ∧ wear.lo ≤ wear.hi ∧ wear.hi ≤ 20) (hb : (0 ≤ b.thick.lo ∧ b.thick.lo ≤ b.thick.hi ∧ b.thick.hi ≤ 2000) ∧ 0 ≤ b.sun ∧ b.sun ≤ 9)
    (hh : (0 ≤ h.melt.lo ∧ h.melt.lo ≤ h.melt.hi ∧ h.melt.hi ≤ 50) ∧ (0 ≤ h.runs ∧ h.runs ≤ 60) ∧ 0 ≤ h.crew ∧ h.crew ≤ 12) :
    (0 ≤ b.sun * h.melt.lo ∧ b.sun * h.melt.lo ≤ 450) ∧ (0 ≤ b.sun * h.melt.hi ∧ b.sun * h.melt.hi ≤ 450) ∧ (0 ≤ h.runs * wear.lo ∧ h.runs * wear.lo ≤ 1200) ∧ (0 ≤ h.runs * wear.hi ∧ h.runs * wear.hi ≤ 1200) := by
  have a1 := mul_bd hb.2.1 hb.2.2 hh.1.1 (show h.melt.lo ≤ 50 by omega)
  have a2 := mul_bd hb.2.1 hb.2.2 (show 0 ≤ h.melt.hi by omega) hh.1.2.2
  have a3 := mul_bd hh.2.1.1 hh.2.1.2 hw.1 (show wear.lo ≤ 20 by omega)
  have a4 := mul_bd hh.2.1.1 hh.2.1.2 (show 0 ≤ wear.hi by omega) hw.2.2
  omega
theorem lossAt_bd {c : Cover} (hf : CoverFacts c) {i h : Nat} (hi : i < c.beds.length) (hh : h < c.hours.length) : 0 ≤ (lossAt c i h).lo ∧ (lossAt c i h).lo ≤ 1650 ∧ 0 ≤ (lossAt c i h).hi ∧ (lossAt c i h).hi ≤ 1650 := by
  unfold lossAt
  rw [List.getD_eq_getElem?_getD, List.getD_eq_getElem?_getD, List.getElem?_eq_getElem hi, List.getElem?_eq_getElem hh, Option.getD_some, Option.getD_some]
  have h1 := loss_bd hf.wear (hf.bed _ (List.getElem_mem hi)) (hf.hour _ (List.getElem_mem hh))
  unfold lossOf
  dsimp only
  omega
theorem stepT_bd {layer l t : Span} {s : Bool} {n : Int} (hl : 1 ≤ layer.lo ∧ layer.lo ≤ layer.hi ∧ layer.hi ≤ 100) (h1 : 0 ≤ l.lo ∧ 0 ≤ l.hi) (ht : 0 ≤ t.lo ∧ t.lo ≤ n ∧ 0 ≤ t.hi ∧ t.hi ≤ n) : 0 ≤ (stepT layer l s t).lo ∧ (stepT layer l s t).lo ≤ n + 100 ∧ 0 ≤ (stepT layer l s t).hi ∧ (stepT layer l s t).hi ≤ n + 100 := by
  unfold stepT
  cases s <;> dsimp only [cond_true, cond_false] <;> omega
theorem thickAt_bd {c : Cover} (hf : CoverFacts c) (plan : List (List Int)) {i : Nat} (hi : i < c.beds.length) : ∀ {h : Nat}, h ≤ c.hours.length → 0 ≤ (thickAt c plan i h).lo ∧ (thickAt c plan i h).lo ≤ 2000 + 100 * (h : Int) ∧ 0 ≤ (thickAt c plan i h).hi ∧ (thickAt c plan i h).hi ≤ 2000 + 100 * (h : Int)
  | 0, _ => by
    unfold thickAt
    rw [List.getD_eq_getElem?_getD, List.getElem?_eq_getElem hi, Option.getD_some]
    have h1 := hf.bed _ (List.getElem_mem hi)
    omega
  | h + 1, hh => by
    have h1 := thickAt_bd hf plan hi (h := h) (by omega)
    have h2 := lossAt_bd hf hi (show h < c.hours.length by omega)
    have h3 := stepT_bd (s := sprayed plan h i) hf.layer ⟨h2.1, h2.2.2.1⟩ h1
    unfold thickAt
    omega
end Kr
