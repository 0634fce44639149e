/-
  An ice book's sheet is valid; its rows by their numbers; what is sprayed. Plain laws.
-/
import Derived.Test.YtcickafaomfbmaaGreatDoorZSBksGt
import Derived.Test.YtcickafaomfbmaaGreatDoorZSBksVaC
import Derived.Test.YtcickafaomfbmaaGreatDoorZSBksGaI
namespace Kr
set_option linter.unusedVariables false
set_option linter.unusedSimpArgs false

theorem rowsOk_get {kd : Int} : ∀ {l : List (List Int)} {i : Nat} {last : List Int}, (∀ j x, l[j]? = some x → x.length = colsOf kd ∧ shRow kd (i + j) x ((last :: l).getD j []) = true) → rowsOk kd i last l = true
  | [], _, _, _ => rfl
  | x :: r, i, last, h => by
    obtain ⟨h1, h2⟩ := h 0 x rfl
    have h3 := rowsOk_get (kd := kd) (l := r) (i := i + 1) (last := x) fun j y hy => by
      obtain ⟨h4, h5⟩ := h (j + 1) y (by simpa using hy)
      refine ⟨h4, ?_⟩
      rw [show i + 1 + j = i + (j + 1) by omega]
      simpa using h5
    unfold rowsOk
    rw [h3, h1]
    simp only [List.getD_cons_zero, Nat.add_zero] at h2
    simp [h2]
theorem rows_len (c : Cover) (plan : List (List Int)) : ∀ h, (rowsTo c plan h).length = c.beds.length * h
  | 0 => by simp [rowsTo]
  | h + 1 => by
    rw [rowsTo_succ]
    unfold rowsPart
    rw [List.length_append, rows_len c plan h, List.length_map, List.length_range, Nat.mul_succ]
theorem rows_get (c : Cover) (plan : List (List Int)) : ∀ {H i : Nat}, i < c.beds.length * H → (rowsTo c plan H)[i]? = some (rowAt c plan (i / c.beds.length) (i % c.beds.length))
  | 0, i, h => by simp at h
  | H + 1, i, h => by
    rw [Nat.mul_succ] at h
    rw [rowsTo_succ]
    unfold rowsPart
    rcases Nat.lt_or_ge i (c.beds.length * H) with h1 | h1
    · rw [List.getElem?_append_left (by rw [rows_len]; exact h1), rows_get c plan h1]
    · obtain ⟨k, rfl⟩ : ∃ k, i = c.beds.length * H + k := ⟨i - c.beds.length * H, by omega⟩
      have hk : k < c.beds.length := by omega
      rw [List.getElem?_append_right (by rw [rows_len]; exact h1), rows_len, Nat.add_sub_cancel_left, List.getElem?_map, List.getElem?_range hk, Nat.mul_add_div (by omega), Nat.div_eq_of_lt hk, Nat.mul_add_mod, Nat.mod_eq_of_lt hk]
      rfl
theorem thick_up {c : Cover} (hf : CoverFacts c) (plan : List (List Int)) {i : Nat} (hi : i < c.beds.length) : ∀ {h : Nat}, h ≤ c.hours.length → (thickAt c plan i h).lo ≤ (thickAt c plan i h).hi
  | 0, _ => by
    unfold thickAt
    rw [List.getD_eq_getElem?_getD, List.getElem?_eq_getElem hi, Option.getD_some]
    exact (hf.bed _ (List.getElem_mem hi)).1.2.1
  | h + 1, hh => by
    have h1 := thick_up hf plan hi (h := h) (by omega)
    have h2 : (lossAt c i h).lo ≤ (lossAt c i h).hi := by
      unfold lossAt
      rw [List.getD_eq_getElem?_getD, List.getD_eq_getElem?_getD, List.getElem?_eq_getElem hi, List.getElem?_eq_getElem (show h < c.hours.length by omega), Option.getD_some, Option.getD_some]
      have hb := hf.bed _ (List.getElem_mem hi)
      have ho := hf.hour _ (List.getElem_mem (show h < c.hours.length by omega))
      have a1 := Int.mul_le_mul_of_nonneg_left ho.1.2.1 hb.2.1
      have a2 := Int.mul_le_mul_of_nonneg_left hf.wear.2.1 ho.2.1.1
      unfold lossOf
      dsimp only
      omega
    have hl := hf.layer
    unfold thickAt stepT
    cases sprayed plan h i <;> dsimp only [cond_true, cond_false] <;> omega
theorem ice_valid {c : Cover} {plan : List (List Int)} (he : planErr c plan = 0) : sheetB 3 (rowsTo c plan c.hours.length) = true := by
  have hf := cover_facts (planErr_zero he).1
  obtain ⟨n, hn⟩ : ∃ n, c.beds.length = n := ⟨_, rfl⟩
  have hn1 : 1 ≤ n ∧ n ≤ 12 := by have := hf.t1; have := hf.beds; omega
  have hh := hf.hours
  have hok : rowsOk 3 0 [] (rowsTo c plan c.hours.length) = true := rowsOk_get fun j x hx => by
    have hj : j < c.beds.length * c.hours.length := by rw [← rows_len c plan]; exact (List.getElem?_eq_some_iff.1 hx).1
    have e1 := rows_get c plan hj
    rw [hx] at e1
    obtain rfl := Option.some.inj e1
    refine ⟨rfl, ?_⟩
    rw [Nat.zero_add]
    obtain ⟨H, hH⟩ : ∃ H, c.hours.length = H := ⟨_, rfl⟩
    have hk : j % n < n := Nat.mod_lt _ (by omega)
    have hq : j / n < H := Nat.div_lt_of_lt_mul (by rw [← hn, ← hH]; exact hj)
    have b1 := thickAt_bd hf plan (i := j % n) (by omega) (h := j / n) (by omega)
    have b2 := thick_up hf plan (i := j % n) (by omega) (h := j / n) (by omega)
    have hless : j ≠ 0 → shLess ((([] : List Int) :: rowsTo c plan c.hours.length).getD j []) (rowAt c plan (j / n) (j % n)) = true := fun h0 => by
      obtain ⟨t, rfl⟩ : ∃ t, j = t + 1 := ⟨j - 1, by omega⟩
      rw [List.getD_cons_succ, List.getD_eq_getElem?_getD, rows_get c plan (i := t) (by omega), Option.getD_some, hn]
      have hd := Nat.div_add_mod t n
      have hd2 := Nat.div_add_mod (t + 1) n
      have hm := Nat.mod_lt t (show 0 < n by omega)
      unfold shLess nth rowAt
      simp only [List.getD_cons_zero, List.getD_cons_succ, Bool.or_eq_true, Bool.and_eq_true, decide_eq_true_eq]
      rcases Nat.lt_or_ge (t % n + 1) n with h1 | h1
      · have e1 : (t + 1) / n = t / n := by
          rw [Nat.div_eq_iff (by omega)] 
          rw [Nat.mul_comm] at hd
          omega
        right
        rw [e1] at hd2 ⊢
        exact ⟨rfl, by omega⟩
      · left
        have e1 : (t + 1) / n = t / n + 1 := by
          rw [Nat.div_eq_iff (by omega)]
          rw [Nat.mul_comm] at hd
          rw [Nat.succ_mul]
          omega
        rw [e1]; omega
    rw [hn] at *
    clear hx hj
    generalize j / n = q at *
    generalize j % n = r at *
    unfold shRow iceRow
    rw [if_neg (by decide), if_neg (by decide), if_pos rfl]
    simp only [nth, rowAt, List.getD_cons_zero, List.getD_cons_succ, Bool.and_eq_true, Bool.or_eq_true, decide_eq_true_eq, inb_iff']
    refine ⟨⟨⟨⟨⟨⟨by omega, by omega⟩, by omega⟩, by omega⟩, b2⟩, by split <;> omega⟩, ?_⟩
    by_cases h0 : j = 0
    · exact .inl h0
    · exact .inr (hless h0)
  unfold sheetB manyOk lastOk
  rw [hok]
  simp [inb]
/-! ### What is sprayed -/
def sprI (plan : List (List Int)) (h : Nat) (i : Int) : Int := if (plan.getD h []).any (fun y => y == i) then 1 else 0
theorem spr_cnt {l : List Int} (h : l.Nodup) (i : Int) : (if l.any (fun y => y == i) then 1 else 0) = cnt i l := by
  unfold cnt
  by_cases hm : i ∈ l
  · have h1 : (l.any fun y => y == i) = true := List.any_eq_true.2 ⟨i, hm, by simp⟩
    rw [if_pos h1, h.count, if_pos hm]; rfl
  · have h1 : ¬ (l.any fun y => y == i) = true := fun h => by
      obtain ⟨y, hy, e⟩ := List.any_eq_true.1 h
      exact hm (by simpa using (by simpa using e : y = i) ▸ hy)
    rw [if_neg h1, List.count_eq_zero_of_not_mem hm]; rfl
theorem spr_day {c : Cover} {plan : List (List Int)} (hv : validP c plan = true) {h : Nat} (hh : h < plan.length) : sumTo (sprI plan h) c.beds.length = ((plan.getD h []).length : Int) := by
  unfold validP at hv
  simp only [Bool.and_eq_true, decide_eq_true_eq] at hv
  have h1 := allN_iff.1 hv.2 h hh
  unfold dayOk at h1
  simp only [Bool.and_eq_true] at h1
  obtain ⟨_, h2, h3⟩ := h1
  have hnd : (plan.getD h []).Nodup := up_nodup ((up_iff _).1 h3)
  unfold sprI
  rw [sumTo_congr (fun i => spr_cnt hnd i)]
  refine sumTo_cnt fun x hx => ?_
  have := inAll_mem h2 x hx
  omega
/-- What is sprayed by the first rows. -/
def sprTo (c : Cover) (plan : List (List Int)) : Nat → Int
  | 0 => 0
  | i + 1 => sprTo c plan i + sprI plan (i / c.beds.length) ((i % c.beds.length : Nat) : Int)
theorem sprTo_succ (c : Cover) (plan : List (List Int)) (i : Nat) : sprTo c plan (i + 1) = sprTo c plan i + sprI plan (i / c.beds.length) ((i % c.beds.length : Nat) : Int) := rfl
theorem sprTo_part (c : Cover) (plan : List (List Int)) (h : Nat) : ∀ k, k ≤ c.beds.length → sprTo c plan (c.beds.length * h + k) = sprTo c plan (c.beds.length * h) + sumTo (sprI plan h) k
  | 0, _ => by simp [sumTo]
  | k + 1, hk => by
    rw [show c.beds.length * h + (k + 1) = c.beds.length * h + k + 1 from rfl, sprTo_succ, show sumTo (sprI plan h) (k + 1) = sumTo (sprI plan h) k + sprI plan h (k : Int) from rfl, sprTo_part c plan h k (by omega), Nat.mul_add_div (by omega), Nat.div_eq_of_lt (by omega), Nat.mul_add_mod, Nat.mod_eq_of_lt (by omega), Nat.add_zero]
    omega
theorem sprTo_all {c : Cover} {plan : List (List Int)} (hv : validP c plan = true) : ∀ h, h ≤ plan.length → sprTo c plan (c.beds.length * h) = ((plan.take h).map fun l => (l.length : Int)).sum
  | 0, _ => by simp [sprTo]
  | h + 1, hh => by
    have hg : plan[h]? = some (plan.getD h []) := by rw [List.getD_eq_getElem?_getD, List.getElem?_eq_getElem (show h < plan.length by omega)]; rfl
    rw [Nat.mul_succ, sprTo_part c plan h _ (Nat.le_refl _), sprTo_all hv h (by omega), spr_day hv (by omega), List.take_add_one, hg]
    simp
theorem spr_bd (c : Cover) (plan : List (List Int)) : ∀ i, 0 ≤ sprTo c plan i ∧ sprTo c plan i ≤ (i : Int)
  | 0 => by simp [sprTo]
  | i + 1 => by
    have h1 := spr_bd c plan i
    unfold sprTo sprI
    split <;> omega
end Kr
