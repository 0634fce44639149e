/-
  On one scale, or on two that are alike. Plain laws.
-/
import Derived.Test.YtfjkiemjmnnbkaaGreatDoorSem
namespace Kr

def twinOf (s : Scale) : Scale := { s with id := s.id + 1 }
def apartBay (s : Scale) : List Scale := [s, twinOf s]
def apartGear (s : Scale) (one two added k : Int) : Gear := ⟨[⟨s.id, one⟩, ⟨k, two⟩], added, 0, 0, [], [], 0, false⟩
theorem apart_check {s : Scale} {one two added : Int} (h : check (apartBay s) (apartGear s one two added s.id) = 0) : check (apartBay s) (apartGear s one two added (s.id + 1)) = 0 := by
  obtain ⟨hb, hg⟩ := check_zero h
  have hne : (s.id == s.id + 1) = false := by simp; omega
  unfold check
  rw [if_pos hb, if_pos]
  simp only [gearOk, apartGear, apartBay, twinOf, List.all_cons, List.all_nil, loadOk, List.find?, beq_self_eq_true, hne] at hg ⊢
  exact hg
theorem apart_has {s : Scale} {one two added : Int} (h : check (apartBay s) (apartGear s one two added s.id) = 0) (x : Int) (hx : has (totals (apartBay s) (apartGear s one two added s.id)) x) : has (totals (apartBay s) (apartGear s one two added (s.id + 1))) x := by
  rw [totals_truth h] at hx
  rw [totals_truth (apart_check h)]
  obtain ⟨T, ws, ⟨h1, h2, h3⟩, h4⟩ := hx
  have hne : (s.id == s.id + 1) = false := by simp; omega
  have hne' : (s.id + 1 == s.id) = false := by simp; omega
  have hsU : s ∈ used (apartBay s) (apartGear s one two added s.id).loads := by simp [used, usedB, apartBay, apartGear]
  have ht := h1 s hsU
  refine ⟨fun n => T s.id, ws, ⟨fun t ht' => ?_, h2, fun t ht' i l w hl hw he => ?_⟩, h4⟩
  · have := (List.mem_filter.1 ht').1
    simp only [apartBay, List.mem_cons, List.not_mem_nil, or_false] at this
    rcases this with rfl | rfl
    · exact ht
    · exact ht
  · match i with
    | 0 =>
      simp [apartGear] at hl
      subst hl
      have hk := h3 s (by simp [apartBay]) 0 ⟨s.id, one⟩ w rfl hw rfl
      simp only [apartBay, List.mem_cons, List.not_mem_nil, or_false] at ht'
      rcases ht' with rfl | rfl
      · exact hk
      · exact hk
    | 1 =>
      simp [apartGear] at hl
      subst hl
      have hk := h3 s (by simp [apartBay]) 1 ⟨s.id, two⟩ w rfl hw rfl
      simp only [apartBay, List.mem_cons, List.not_mem_nil, or_false] at ht'
      rcases ht' with rfl | rfl
      · exact hk
      · exact hk
    | i + 2 => simp [apartGear] at hl
end Kr
