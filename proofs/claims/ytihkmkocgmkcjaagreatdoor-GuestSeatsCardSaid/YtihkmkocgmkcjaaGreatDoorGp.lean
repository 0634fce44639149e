/-
  Books: whether they are right. Plain laws.
-/
import Derived.Test.YtihkmkocgmkcjaaGreatDoorGa
namespace Kr
set_option linter.unusedVariables false
set_option linter.unusedSimpArgs false

def allN (p : Nat → Bool) (n : Nat) : Bool := (List.range n).all p
theorem allN_iff {p : Nat → Bool} {n : Nat} : allN p n = true ↔ ∀ j, j < n → p j = true := by
  unfold allN
  rw [List.all_eq_true]
  exact ⟨fun h j hj => h j (List.mem_range.2 hj), fun h j hj => h j (List.mem_range.1 hj)⟩
theorem allN_false {p : Nat → Bool} {n k : Nat} (hk : k < n) (h : p k = false) : allN p n = false := by
  cases hq : allN p n
  · rfl
  · rw [allN_iff.1 hq k hk] at h; cases h
theorem below_snoc {p : Nat → Bool} {k : Nat} (h : ∀ j, j < k → p j = true) (hk : p k = true) : ∀ j, j < k + 1 → p j = true := fun j hj => by
  rcases Nat.lt_or_ge j k with h1 | h1
  · exact h j h1
  · rw [show j = k by omega]; exact hk
theorem getD_of {α : Type} {l : List α} {k : Nat} {x d : α} (h : l[k]? = some x) : l.getD k d = x := by rw [List.getD_eq_getElem?_getD, h]; rfl

/-- Whether a guest stands right in the guests of an outing. -/
def gAt (n pilot : Int) (l : List Int) (k : Nat) : Bool := inb 2 (n - 1) (l.getD k 0) && (decide (k = 0) || decide (l.getD (k - 1) 0 < l.getD k 0)) && !(l.getD k 0 == pilot)
def guestsOk (n pilot : Int) (l : List Int) : Bool := allN (gAt n pilot l) l.length
def upAt (l : List Int) (k : Nat) : Bool := decide (l.getD k 0 < l.getD (k + 1) 0)
theorem guestsOk_eq (n pilot : Int) (l : List Int) : guestsOk n pilot l = (inAll 2 (n - 1) l && (!(l.any fun x => x == pilot) && allN (upAt l) (l.length - 1))) := by
  rw [Bool.eq_iff_iff]
  unfold guestsOk gAt upAt inAll
  simp only [allN_iff, Bool.and_eq_true, Bool.or_eq_true, decide_eq_true_eq, Bool.not_eq_true', List.all_eq_true, List.any_eq_false]
  constructor
  · intro h
    refine ⟨fun x hx => ?_, fun x hx => ?_, fun j hj => ?_⟩
    · obtain ⟨k, hk⟩ := List.getElem?_of_mem hx
      have h1 := (h k (List.getElem?_eq_some_iff.1 hk).1).1.1
      rw [getD_of hk] at h1; exact h1
    · obtain ⟨k, hk⟩ := List.getElem?_of_mem hx
      have h1 := (h k (List.getElem?_eq_some_iff.1 hk).1).2
      rw [getD_of hk] at h1; simp [h1]
    · rcases (h (j + 1) (by omega)).1.2 with h1 | h1
      · omega
      · exact h1
  · rintro ⟨h1, h2, h3⟩ j hj
    obtain ⟨x, hx⟩ : ∃ x, l[j]? = some x := ⟨l[j], List.getElem?_eq_getElem hj⟩
    have hm := List.mem_of_getElem? hx
    refine ⟨⟨by rw [getD_of hx]; exact h1 x hm, ?_⟩, by rw [getD_of hx]; simpa using h2 x hm⟩
    rcases Nat.eq_zero_or_pos j with h0 | h0
    · exact .inl h0
    · refine .inr ?_
      have := h3 (j - 1) (by omega)
      rw [show j - 1 + 1 = j by omega] at this
      exact this

/-- Whether an outing is right, with some accounts. -/
def outRest (b : List Scale) (o : Outing) : Bool := bif o.weighed then (decide (0 < o.guests.length) && (!(o.state == 2) && gearOk b o.gear)) else (decide (o.gear = noGear) && (o.state == 0 || (o.state == 2 && decide (o.guests.length = 0))))
def outHead (n : Int) (o : Outing) : Bool := inb 0 9999 o.id && (inb 2 (n - 1) o.pilot && (inb 1 3 o.seats && (inb 0 100000 o.price && inb 0 100 o.part)))
def outOk (b : List Scale) (n : Int) (o : Outing) : Bool := outHead n o && (normB o.norm && (decide (o.state ≤ 2) && (decide ((o.guests.length : Int) ≤ o.seats) && (guestsOk n o.pilot o.guests && outRest b o))))
def outAt (b : List Scale) (n : Int) (os : List Outing) (k : Nat) : Bool := outOk b n (os.getD k default) && (decide (k = 0) || decide ((os.getD (k - 1) default).id < (os.getD k default).id))
def rfdAt (rs : List Rfd) (k : Nat) : Bool := inb 0 400 (rs.getD k default).days && ((decide (k = 0) || decide ((rs.getD k default).days < (rs.getD (k - 1) default).days)) && inb 0 100 (rs.getD k default).part)
def headB (m : Books) : Bool := inb 2 8 (m.cash.length : Int) && (decide (m.outings.length ≤ 4) && (decide (m.refunds.length ≤ 4) && (inb 0 100000 m.fee && decide (m.pleas.length ≤ 4))))
/-- Whether books are right, with a bay that is right. -/
def booksB (m : Books) : Bool := headB m && (inAll 0 1000000000 m.cash && (allN (outAt m.bay (m.cash.length : Int) m.outings) m.outings.length && (allN (rfdAt m.refunds) m.refunds.length && (inAll 2 ((m.cash.length : Int) - 1) m.pleas && (decide (m.cash.sum ≤ 1000000000) && decide (m.cash.getD 1 0 = heldOf m.outings m.fee m.pleas))))))
def checkB (m : Books) : Int := if bayOk m.bay then (if booksB m then 0 else 100) else 40

theorem inb_iff {lo hi n : Int} : inb lo hi n = true ↔ lo ≤ n ∧ n ≤ hi := by unfold inb; simp
theorem inAll_mem {lo hi : Int} {l : List Int} (h : inAll lo hi l = true) : ∀ x ∈ l, lo ≤ x ∧ x ≤ hi := fun x hx => inb_iff.1 (List.all_eq_true.1 h x hx)
/-- What a right outing has. -/
structure OutFacts (n : Int) (o : Outing) : Prop where
  id : 0 ≤ o.id ∧ o.id ≤ 9999
  pilot : 2 ≤ o.pilot ∧ o.pilot ≤ n - 1
  seats : 1 ≤ o.seats ∧ o.seats ≤ 3
  price : 0 ≤ o.price ∧ o.price ≤ 100000
  part : 0 ≤ o.part ∧ o.part ≤ 100
  few : (o.guests.length : Int) ≤ o.seats
  guests : guestsOk n o.pilot o.guests = true
  who : ∀ x ∈ o.guests, 2 ≤ x ∧ x ≤ n - 1
  alone : ∀ i, cnt i o.guests ≤ 1
theorem cnt_up {l : List Int} (h : allN (upAt l) (l.length - 1) = true) (i : Int) : cnt i l ≤ 1 := by
  have h1 : l.Pairwise (· < ·) := by
    have hs : ∀ i d, i + d + 1 < l.length → l.getD i 0 < l.getD (i + d + 1) 0 := by
      intro i d
      induction d with
      | zero =>
        intro hd
        have h2 := allN_iff.1 h i (by omega)
        unfold upAt at h2
        exact of_decide_eq_true h2
      | succ d ih =>
        intro hd
        have h2 := allN_iff.1 h (i + d + 1) (by omega)
        unfold upAt at h2
        have h4 := of_decide_eq_true h2
        have h5 := ih (by omega)
        rw [show i + (d + 1) + 1 = i + d + 1 + 1 by omega]
        omega
    rw [List.pairwise_iff_getElem]
    intro i j hi hj hij
    have h2 := hs i (j - i - 1) (by omega)
    rw [show i + (j - i - 1) + 1 = j by omega, getD_of (List.getElem?_eq_getElem hi), getD_of (List.getElem?_eq_getElem hj)] at h2
    exact h2
  have h3 : l.Nodup := h1.imp fun hab => by omega
  unfold cnt
  have := List.nodup_iff_count.1 h3 i
  omega
theorem out_facts {b : List Scale} {n : Int} {o : Outing} (h : outOk b n o = true) : OutFacts n o := by
  unfold outOk outHead at h
  simp only [Bool.and_eq_true, decide_eq_true_eq] at h
  obtain ⟨⟨h1, h2, h3, h4, h5⟩, h6, h7, h8, h9, h10⟩ := h
  have h11 := h9
  rw [guestsOk_eq] at h11
  simp only [Bool.and_eq_true] at h11
  exact ⟨inb_iff.1 h1, inb_iff.1 h2, inb_iff.1 h3, inb_iff.1 h4, inb_iff.1 h5, h8, h9, inAll_mem h11.1, cnt_up h11.2.2⟩
/-- What right books have. -/
structure BookFacts (m : Books) : Prop where
  cash2 : 2 ≤ m.cash.length
  cash8 : m.cash.length ≤ 8
  outs : m.outings.length ≤ 4
  rfds : m.refunds.length ≤ 4
  fee : 0 ≤ m.fee ∧ m.fee ≤ 100000
  pleas : m.pleas.length ≤ 4
  cash : ∀ x ∈ m.cash, 0 ≤ x ∧ x ≤ 1000000000
  out : ∀ o ∈ m.outings, OutFacts (m.cash.length : Int) o
  rfd : ∀ r ∈ m.refunds, (0 ≤ r.days ∧ r.days ≤ 400) ∧ 0 ≤ r.part ∧ r.part ≤ 100
  plea : ∀ x ∈ m.pleas, 2 ≤ x ∧ x ≤ (m.cash.length : Int) - 1
theorem book_facts {m : Books} (h : booksB m = true) : BookFacts m := by
  unfold booksB headB at h
  simp only [Bool.and_eq_true, decide_eq_true_eq] at h
  obtain ⟨⟨h1, h2, h3, h4, h5⟩, h6, h7, h8, h9, h10, h11⟩ := h
  have h1 := inb_iff.1 h1
  refine ⟨by omega, by omega, h2, h3, inb_iff.1 h4, h5, inAll_mem h6, fun o ho => ?_, fun r hr => ?_, inAll_mem h9⟩
  · obtain ⟨k, hk⟩ := List.getElem?_of_mem ho
    have h12 := allN_iff.1 h7 k (List.getElem?_eq_some_iff.1 hk).1
    unfold outAt at h12
    rw [getD_of hk, Bool.and_eq_true] at h12
    exact out_facts h12.1
  · obtain ⟨k, hk⟩ := List.getElem?_of_mem hr
    have h12 := allN_iff.1 h8 k (List.getElem?_eq_some_iff.1 hk).1
    unfold rfdAt at h12
    rw [getD_of hk, Bool.and_eq_true, Bool.and_eq_true] at h12
    exact ⟨inb_iff.1 h12.1, inb_iff.1 h12.2.2⟩
/-- What the reference tells somebody: the prices of the open outings they are in, and their pleas. -/
def owedR (os : List Outing) (fee : Int) (pleas : List Int) (i : Int) : Int := (os.map fun o => if o.state = 0 ∧ (o.guests.any fun x => x == i) = true then o.price else 0).sum + (pleas.map fun x => if x = i then fee else 0).sum
theorem cnt_any {i : Int} {l : List Int} (h : cnt i l ≤ 1) : cnt i l = if (l.any fun x => x == i) = true then 1 else 0 := by
  unfold cnt at h ⊢
  by_cases hm : (l.any fun x => x == i) = true
  · rw [if_pos hm]
    obtain ⟨x, hx, he⟩ := List.any_eq_true.1 hm
    have : x = i := by simpa using he
    subst this
    have := List.count_pos_iff.2 hx
    omega
  · rw [if_neg hm]
    have : i ∉ l := fun hi => hm (List.any_eq_true.2 ⟨i, hi, by simp⟩)
    rw [List.count_eq_zero_of_not_mem this]; rfl
theorem owedR_eq {os : List Outing} {fee : Int} {pleas : List Int} (i : Int) (h : ∀ o ∈ os, cnt i o.guests ≤ 1) : owedR os fee pleas i = owedBy os fee pleas i := by
  unfold owedR owedBy
  congr 1
  · induction os with
    | nil => rfl
    | cons o os ih =>
      have h1 := ih fun y hy => h y (List.mem_cons_of_mem _ hy)
      have h2 := cnt_any (h o (List.mem_cons_self ..))
      rw [List.map_cons, List.sum_cons, h1, List.filter_cons]
      by_cases hs : o.state = 0
      · rw [if_pos (show (o.state == 0) = true by simpa using hs), List.map_cons, List.sum_cons, h2]
        by_cases hm : (o.guests.any fun x => x == i) = true
        · rw [if_pos ⟨hs, hm⟩, if_pos hm, Int.mul_one]
        · rw [if_neg (fun hh => hm hh.2), if_neg hm, Int.mul_zero]
      · rw [if_neg (fun hh => hs hh.1), if_neg (show ¬ (o.state == 0) = true by simpa using hs), Int.zero_add]
  · induction pleas with
    | nil => simp [cnt]
    | cons x l ih =>
      rw [List.map_cons, List.sum_cons, ih, cnt_cons]
      by_cases hx : x = i
      · rw [if_pos hx, if_pos hx, Int.mul_add, Int.mul_one, Int.add_comm]
      · rw [if_neg hx, if_neg hx, Int.add_zero, Int.zero_add]
end Kr
