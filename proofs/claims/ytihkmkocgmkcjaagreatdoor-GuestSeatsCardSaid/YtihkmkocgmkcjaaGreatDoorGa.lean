/-
  Books of guests: plain data, what is owed and held. Plain laws.
-/
import Derived.Test.YtihkmkocgmkcjaaGreatDoorPl
import Derived.Test.YtihkmkocgmkcjaaGreatDoorPl
namespace Kr

structure Outing where
  id : Int
  pilot : Int
  seats : Int
  price : Int
  part : Int
  norm : Norm
  guests : List Int
  weighed : Bool
  gear : Gear
  state : Int
  deriving DecidableEq, Inhabited
structure Rfd where
  days : Int
  part : Int
  deriving DecidableEq, Inhabited
structure Books where
  bay : List Scale
  cash : List Int
  outings : List Outing
  refunds : List Rfd
  fee : Int
  pleas : List Int
  deriving DecidableEq, Inhabited

/-- How often a number stands in a list, as a whole number. -/
def cnt (i : Int) (l : List Int) : Int := (l.count i : Int)
theorem cnt_nil (i : Int) : cnt i [] = 0 := rfl
theorem cnt_cons (i a : Int) (l : List Int) : cnt i (a :: l) = cnt i l + if a = i then 1 else 0 := by
  unfold cnt
  rw [List.count_cons]
  by_cases h : a = i <;> simp [h]
/-- What somebody is owed by open outings and pleas. -/
def owedBy (os : List Outing) (fee : Int) (pleas : List Int) (i : Int) : Int := ((os.filter fun o => o.state == 0).map fun o => o.price * cnt i o.guests).sum + fee * cnt i pleas
/-- What is held. -/
def heldOf (os : List Outing) (fee : Int) (pleas : List Int) : Int := fee * (pleas.length : Int) + ((os.filter fun o => o.state == 0).map fun o => o.price * (o.guests.length : Int)).sum
/-- The sum over all accounts. -/
def sumTo (f : Int → Int) : Nat → Int
  | 0 => 0
  | n + 1 => sumTo f n + f (n : Int)
theorem sumTo_add (f g : Int → Int) : ∀ n, sumTo (fun i => f i + g i) n = sumTo f n + sumTo g n
  | 0 => by simp [sumTo]
  | n + 1 => by simp only [sumTo]; rw [sumTo_add f g n]; omega
theorem sumTo_mul (c : Int) (f : Int → Int) : ∀ n, sumTo (fun i => c * f i) n = c * sumTo f n
  | 0 => by simp [sumTo]
  | n + 1 => by simp only [sumTo]; rw [sumTo_mul c f n, Int.mul_add]
theorem sumTo_zero : ∀ n, sumTo (fun _ => 0) n = 0
  | 0 => rfl
  | n + 1 => by simp only [sumTo]; rw [sumTo_zero n]; rfl
theorem sumTo_one (a : Int) : ∀ n : Nat, 0 ≤ a → sumTo (fun i => if a = i then 1 else 0) n = if a < (n : Int) then 1 else 0
  | 0, h => by simp only [sumTo]; rw [if_neg (by omega)]
  | n + 1, h => by
    simp only [sumTo]
    rw [sumTo_one a n h]
    by_cases h1 : a < (n : Int)
    · rw [if_pos h1, if_neg (by omega), if_pos (by omega)]; rfl
    · by_cases h2 : a = (n : Int)
      · rw [if_neg h1, if_pos h2, if_pos (by omega)]; rfl
      · rw [if_neg h1, if_neg h2, if_neg (by omega)]; rfl
theorem sumTo_congr {f g : Int → Int} (h : ∀ i, f i = g i) (n : Nat) : sumTo f n = sumTo g n := by rw [show f = g from funext h]
theorem sumTo_cnt {n : Nat} : ∀ {l : List Int}, (∀ x ∈ l, 0 ≤ x ∧ x < (n : Int)) → sumTo (fun i => cnt i l) n = (l.length : Int)
  | [], _ => by rw [sumTo_congr (g := fun _ => 0) (fun i => cnt_nil i), sumTo_zero]; rfl
  | a :: l, h => by
    have h1 := h a (List.mem_cons_self ..)
    rw [sumTo_congr (fun i => cnt_cons i a l), sumTo_add, sumTo_cnt (fun x hx => h x (List.mem_cons_of_mem _ hx)), sumTo_one a n h1.1, if_pos h1.2, List.length_cons]
    omega
theorem sumTo_list {n : Nat} : ∀ {os : List Outing}, (∀ o ∈ os, ∀ x ∈ o.guests, 0 ≤ x ∧ x < (n : Int)) → sumTo (fun i => (os.map fun o => o.price * cnt i o.guests).sum) n = (os.map fun o => o.price * (o.guests.length : Int)).sum
  | [], _ => by rw [sumTo_congr (f := fun i => (([] : List Outing).map fun o => o.price * cnt i o.guests).sum) (g := fun _ => 0) (fun i => rfl), sumTo_zero]; rfl
  | o :: os, h => by
    rw [sumTo_congr (f := fun i => ((o :: os).map fun o => o.price * cnt i o.guests).sum) (g := fun i => o.price * cnt i o.guests + (os.map fun o => o.price * cnt i o.guests).sum) (fun i => by rw [List.map_cons, List.sum_cons]), sumTo_add, sumTo_mul, sumTo_cnt (h o (List.mem_cons_self ..)), sumTo_list (fun o ho => h o (List.mem_cons_of_mem _ ho)), List.map_cons, List.sum_cons]
/-- What all are owed together is what is held. -/
theorem owed_held {os : List Outing} {fee : Int} {pleas : List Int} {n : Nat} (h1 : ∀ o ∈ os, ∀ x ∈ o.guests, 0 ≤ x ∧ x < (n : Int)) (h2 : ∀ x ∈ pleas, 0 ≤ x ∧ x < (n : Int)) : sumTo (owedBy os fee pleas) n = heldOf os fee pleas := by
  unfold heldOf
  rw [sumTo_congr (f := owedBy os fee pleas) (g := fun i => ((os.filter fun o => o.state == 0).map fun o => o.price * cnt i o.guests).sum + fee * cnt i pleas) (fun i => rfl), sumTo_add, sumTo_mul, sumTo_cnt h2, sumTo_list (fun o ho => h1 o (List.mem_filter.1 ho).1)]
  omega

/-- Gear that has nothing. -/
def noGear : Gear := ⟨[], 0, 0, 0, [], [], 0, false⟩
theorem used_none (b : List Scale) : used b [] = [] := by
  unfold used usedB
  rw [List.filter_eq_nil_iff]
  intro s _
  simp
theorem totals_none (b : List Scale) : totals b noGear ≠ [] := by
  unfold totals noGear
  dsimp only
  rw [used_none]
  simp [totalsL]
/-- Whether a norm is right, as 'Judge' of gear that has nothing tells it. -/
theorem judge_none {b : List Scale} (hb : bayOk b = true) (n : Norm) : (judgeR b noGear n).2 = if normB n then 0 else 42 := by
  have hg : gearOk b noGear = true := by
    have h : bare noGear = true := by decide
    unfold gearOk
    rw [h]
    rfl
  have hc : check b noGear = 0 := by unfold check; rw [if_pos hb, if_pos hg]
  have hh : (hard noGear).2 = 0 := by decide
  unfold judgeR
  rw [if_neg (by rw [hc]; simp), if_neg (totals_none b)]
  cases hn : normB n
  · simp
  · simp [hh]
end Kr
