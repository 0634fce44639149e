/-
  Walks of package scale and of its reference: the weights for which a scale shows a number.
-/
import Derived.Test.YtihkmkocgmkcjaaGreatDoorScD
import Derived.Test.YtihkmkocgmkcjaaGreatDoorPl
namespace Go.Proofs.YtihkmkocgmkcjaaGreatDoor
open Go.RowKit Kr

set_option maxHeartbeats 1000000 in
theorem scale_weights_any (s : Scale) (tv : Value) (gain off n : Int) (w : World) (hs : 1 ≤ s.step ∧ s.step ≤ 500) (hg : -10 ≤ gain ∧ gain ≤ 10) (ho : -100 ≤ off ∧ off ≤ 100) (hn : -2000000 ≤ n ∧ n ≤ 2000000) :
    Calls Tryz.prog 145 #[.agg #[.int .i64 s.id, .int .i64 s.step, .int .i64 s.gain.lo, .int .i64 s.gain.hi, .int .i64 s.off.lo, .int .i64 s.off.hi, tv], .agg #[.int .i64 gain, .int .i64 off], .int .i64 n] w fun e w' => e = .returned (.agg #[.int .i64 (wt s.step gain off n).lo, .int .i64 (wt s.step gain off n).hi]) ∧ w.Exts w' := by
  unfold wt
  have b1 := ediv_bounds (a := -1000 * (n - off)) (b := 1000 + gain) (m := 9000000000) (by omega) (by omega) (by omega) (by omega)
  have b2 := ediv_bounds (a := 1000 * (n + s.step - off) - 1) (b := 1000 + gain) (m := 9000000000) (by omega) (by omega) (by omega) (by omega)
  generalize hql : -1000 * (n - off) / (1000 + gain) = ql at b1 ⊢
  generalize hqh : (1000 * (n + s.step - off) - 1) / (1000 + gain) = qh at b2 ⊢
  rcases Int.lt_or_le 0 (-ql) with m1 | m1 <;> rcases Int.lt_or_le qh 1000000 with m2 | m2
  all_goals
    go_enter Tryz.func145, Tryz.ntmps145
    go_wp2_with fail
    refine wp_region_ext_tail 22 (by kernel_rfl) (by kernel_rfl) ?_
    simp only [List.take_succ_cons, List.take_zero, List.drop_succ_cons, List.drop_zero]
    repeat (go_big_quiet_step ((go_at_call 181; first | exact Calls.in_ext_eq (scale_down_any _ _ _ ⟨by omega, by omega⟩ (by omega)) (congrArg (Value.int .i64) hql) | exact Calls.in_ext_eq (scale_down_any _ _ _ ⟨by omega, by omega⟩ (by omega)) (congrArg (Value.int .i64) hqh))))
    refine wpQuiet_nil ?_
    rintro _ ⟨X, rfl⟩
    go_wp2_with fail
    refine bodyPost_ret (v := .agg #[.int .i64 (max 0 (-ql)), .int .i64 (min 1000000 qh)]) (by simp [results, Tryz.results145, go_sem] <;> omega) rfl ?_
    exact ⟨rfl, exq⟩

/-- The reference's weights. -/
def wtR (step gain off n : Int) : Span := if 1000 * (n + step - off) - 1 < 0 then ⟨1, 0⟩ else ⟨(max (1000 * (n - off)) 0 + (1000 + gain) - 1) / (1000 + gain), min ((1000 * (n + step - off) - 1) / (1000 + gain)) 1000000⟩
theorem wtR_eq {step gain off n : Int} (hg : -10 ≤ gain ∧ gain ≤ 10) : ((wtR step gain off n).lo ≤ (wtR step gain off n).hi ↔ (wt step gain off n).lo ≤ (wt step gain off n).hi) ∧ ((wt step gain off n).lo ≤ (wt step gain off n).hi → wtR step gain off n = wt step gain off n) := by
  have hb : 0 < 1000 + gain := by omega
  have e1 : -(-1000 * (n - off) / (1000 + gain)) = (1000 * (n - off) + (1000 + gain) - 1) / (1000 + gain) := by
    have := floor_ceil (-1000 * (n - off)) (1000 + gain) hb
    rw [this, Int.neg_neg]
    congr 1; omega
  unfold wtR wt
  by_cases hh : 1000 * (n + step - off) - 1 < 0
  · rw [if_pos hh]
    have h2 : (1000 * (n + step - off) - 1) / (1000 + gain) < 0 := Int.ediv_neg_of_neg_of_pos hh hb
    simp only
    constructor
    · constructor <;> intro h <;> omega
    · intro h; omega
  · rw [if_neg hh, e1]
    have e2 : (max (1000 * (n - off)) 0 + (1000 + gain) - 1) / (1000 + gain) = max 0 ((1000 * (n - off) + (1000 + gain) - 1) / (1000 + gain)) := by
      by_cases hc : 0 ≤ 1000 * (n - off)
      · rw [Int.max_eq_left hc]
        have : 0 ≤ (1000 * (n - off) + (1000 + gain) - 1) / (1000 + gain) := Int.ediv_nonneg (by omega) (by omega)
        omega
      · rw [Int.max_eq_right (by omega)]
        have h1 : (0 + (1000 + gain) - 1) / (1000 + gain) = 0 := Int.ediv_eq_zero_of_lt (by omega) (by omega)
        have h2 : (1000 * (n - off) + (1000 + gain) - 1) / (1000 + gain) ≤ 0 := by
          have := Int.ediv_le_ediv hb (show 1000 * (n - off) + (1000 + gain) - 1 ≤ 0 + (1000 + gain) - 1 by omega)
          omega
        rw [h1]; omega
    rw [e2, Int.min_comm]
    exact ⟨Iff.rfl, fun _ => rfl⟩
theorem wtR_bound {step gain off n : Int} (hg : -10 ≤ gain ∧ gain ≤ 10) (ho : -100 ≤ off ∧ off ≤ 100) (hn : -2000000 ≤ n ∧ n ≤ 2000000) : 0 ≤ (wtR step gain off n).lo ∧ (wtR step gain off n).lo ≤ 9000000000 ∧ 0 ≤ (wtR step gain off n).hi ∧ (wtR step gain off n).hi ≤ 1000000 := by
  unfold wtR
  split
  · simp
  · have b1 := ediv_bounds (a := max (1000 * (n - off)) 0 + (1000 + gain) - 1) (b := 1000 + gain) (m := 9000000000) (by omega) (by omega) (by omega) (by omega)
    have h1 : 0 ≤ (max (1000 * (n - off)) 0 + (1000 + gain) - 1) / (1000 + gain) := Int.ediv_nonneg (by omega) (by omega)
    have h2 : 0 ≤ (1000 * (n + step - off) - 1) / (1000 + gain) := Int.ediv_nonneg (by omega) (by omega)
    simp only
    omega

set_option maxHeartbeats 1000000 in
theorem r04_Weights_any (s : Scale) (tv : Value) (gain off n : Int) (w : World) (hs : 1 ≤ s.step ∧ s.step ≤ 500) (hg : -10 ≤ gain ∧ gain ≤ 10) (ho : -100 ≤ off ∧ off ≤ 100) (hn : -2000000 ≤ n ∧ n ≤ 2000000) :
    Calls Tryz.prog 151 #[.agg #[.int .i64 s.id, .int .i64 s.step, .int .i64 s.gain.lo, .int .i64 s.gain.hi, .int .i64 s.off.lo, .int .i64 s.off.hi, tv], .int .i64 gain, .int .i64 off, .int .i64 n] w fun e w' => e = .returned (.agg #[.int .i64 (wtR s.step gain off n).lo, .int .i64 (wtR s.step gain off n).hi]) ∧ w.Exts w' := by
  unfold wtR
  rcases Int.lt_or_le (1000 * (n + s.step - off) - 1) 0 with hh | hh
  · rw [if_pos hh]
    go_enter Tryz.func151, Tryz.ntmps151
    go_wp2_with fail
    refine wp_region_ext (by kernel_rfl) (by kernel_rfl) ?_
    repeat (go_big_quiet_step (fail))
    refine wpQuiet_nil ?_
    rintro _ ⟨X, rfl⟩
    go_wp2_with fail
    refine bodyPost_ret (v := .agg #[.int .i64 1, .int .i64 0]) (by simp [results, Tryz.results151, go_sem]) rfl ?_
    exact ⟨rfl, exq⟩
  · rw [if_neg (by omega)]
    have b1 := ediv_bounds (a := max (1000 * (n - off)) 0 + (1000 + gain) - 1) (b := 1000 + gain) (m := 9000000000) (by omega) (by omega) (by omega) (by omega)
    have b2 := ediv_bounds (a := 1000 * (n + s.step - off) - 1) (b := 1000 + gain) (m := 9000000000) (by omega) (by omega) (by omega) (by omega)
    have b3 : 0 < 1000 + gain := by omega
    rcases Int.lt_or_le (1000 * (n - off)) 0 with m1 | m1
    · rw [Int.max_eq_right (by omega), Int.zero_add]
      rcases Int.lt_or_le 1000000 ((1000 * (n + s.step - off) - 1) / (1000 + gain)) with m2 | m2
      all_goals
        go_enter Tryz.func151, Tryz.ntmps151
        go_wp2_with fail
        refine wp_region_ext (by kernel_rfl) (by kernel_rfl) ?_
        repeat (go_big_quiet_step (fail))
        refine wpQuiet_nil ?_
        rintro _ ⟨X, rfl⟩
        go_wp2_with fail
        refine wp_region_ext_tail 12 (by kernel_rfl) (by kernel_rfl) ?_
        simp only [List.take_succ_cons, List.take_zero, List.drop_succ_cons, List.drop_zero]
        repeat (go_big_quiet_step (fail))
        refine wpQuiet_nil ?_
        rintro _ ⟨X, rfl⟩
        go_wp2_with fail
        refine bodyPost_ret (v := .agg #[.int .i64 ((1000 + gain - 1) / (1000 + gain)), .int .i64 (min ((1000 * (n + s.step - off) - 1) / (1000 + gain)) 1000000)]) (by simp [results, Tryz.results151, go_sem] <;> omega) rfl ?_
        exact ⟨rfl, exq⟩
    · rw [Int.max_eq_left (by omega)]
      rcases Int.lt_or_le 1000000 ((1000 * (n + s.step - off) - 1) / (1000 + gain)) with m2 | m2
      all_goals
        go_enter Tryz.func151, Tryz.ntmps151
        go_wp2_with fail
        refine wp_region_ext (by kernel_rfl) (by kernel_rfl) ?_
        repeat (go_big_quiet_step (fail))
        refine wpQuiet_nil ?_
        rintro _ ⟨X, rfl⟩
        go_wp2_with fail
        refine wp_region_ext_tail 12 (by kernel_rfl) (by kernel_rfl) ?_
        simp only [List.take_succ_cons, List.take_zero, List.drop_succ_cons, List.drop_zero]
        repeat (go_big_quiet_step (fail))
        refine wpQuiet_nil ?_
        rintro _ ⟨X, rfl⟩
        go_wp2_with fail
        refine bodyPost_ret (v := .agg #[.int .i64 ((1000 * (n - off) + (1000 + gain) - 1) / (1000 + gain)), .int .i64 (min ((1000 * (n + s.step - off) - 1) / (1000 + gain)) 1000000)]) (by simp [results, Tryz.results151, go_sem] <;> omega) rfl ?_
        exact ⟨rfl, exq⟩
end Go.Proofs.YtihkmkocgmkcjaaGreatDoor
