/-
  Walks of the reference of layer 4: numbers, scales.
-/
import Derived.Test.YthogfmaclbmgoaaFuncs
namespace Go.Proofs.Ythogfmaclbmgoaa
open Go.RowKit Kr

set_option maxHeartbeats 400000 in
theorem r04_within_any (n lo hi : Int) (w : World) : Calls Try.prog 21 #[.int .i64 n, .int .i64 lo, .int .i64 hi] w fun e w' => e = .returned (.bool (inb lo hi n)) ∧ w.Exts w' := by
  by_cases h : lo ≤ n
  all_goals
    go_enter Try.func21, Try.ntmps21
    go_wp2
    go_ret
    exact ⟨congrArg Ending.returned (congrArg Value.bool (by unfold inb; rw [Bool.eq_iff_iff]; simp; omega)), (by repeat' (first | with_reducible exact World.Exts.refl _ | with_reducible refine World.Exts.alloc ?_ _ | with_reducible refine World.Exts.drew ?_ | with_reducible refine World.Exts.drewN ?_ _ | with_reducible refine World.Exts.ext ?_ _ | with_reducible refine World.Exts.setCell ?_ ?_ _ | (simp; done) | exact World.size_ext_le _ _ | (simp; omega)))⟩

set_option maxHeartbeats 400000 in
theorem r04_spanned_any (s : Span) (lo hi : Int) (w : World) : Calls Try.prog 33 #[.agg #[.int .i64 s.lo, .int .i64 s.hi], .int .i64 lo, .int .i64 hi] w fun e w' => e = .returned (.bool (ordered s lo hi)) ∧ w.Exts w' := by
  by_cases h1 : lo ≤ s.lo <;> by_cases h2 : s.lo ≤ s.hi
  all_goals
    go_enter Try.func33, Try.ntmps33
    go_wp2
    go_ret
    exact ⟨congrArg Ending.returned (congrArg Value.bool (by unfold ordered; rw [Bool.eq_iff_iff]; simp; omega)), (by repeat' (first | with_reducible exact World.Exts.refl _ | with_reducible refine World.Exts.alloc ?_ _ | with_reducible refine World.Exts.drew ?_ | with_reducible refine World.Exts.drewN ?_ _ | with_reducible refine World.Exts.ext ?_ _ | with_reducible refine World.Exts.setCell ?_ ?_ _ | (simp; done) | exact World.size_ext_le _ _ | (simp; omega)))⟩

set_option maxHeartbeats 400000 in
theorem r04_shown_any (n step : Int) (w : World) (hs : 1 ≤ step) : Calls Try.prog 34 #[.int .i64 n, .int .i64 step] w fun e w' => e = .returned (.bool (shownB n step)) ∧ w.Exts w' := by
  cases hb : inb (-2000000) 2000000 n
  all_goals
    have HB := Lib.hid hb
    clear hb
    go_enter Try.func34, Try.ntmps34
    go_wp2_with (go_at_call 21; refine (r04_within_any _ _ _ _).mono ?_; rintro e w' ⟨rfl, X2, rfl⟩; rw [HB.out])
    go_ret
    have hb := HB.out
    exact ⟨congrArg Ending.returned (congrArg Value.bool (by unfold shownB; simp [hb])), (by repeat' (first | with_reducible exact World.Exts.refl _ | with_reducible refine World.Exts.alloc ?_ _ | with_reducible refine World.Exts.drew ?_ | with_reducible refine World.Exts.drewN ?_ _ | with_reducible refine World.Exts.ext ?_ _ | with_reducible refine World.Exts.setCell ?_ ?_ _ | (simp; done) | exact World.size_ext_le _ _ | (simp; omega)))⟩

set_option maxHeartbeats 400000 in
theorem r04_floor_any (n : Int) (w : World) (h : -9000000000000 ≤ n ∧ n ≤ 9000000000000) : Calls Try.prog 23 #[.int .i64 n] w fun e w' => e = .returned (.int .i64 (n / 1000)) ∧ w.Exts w' := by
  by_cases hn : n < 0
  all_goals
    go_enter Try.func23, Try.ntmps23
    go_wp2
    go_ret
    exact ⟨congrArg Ending.returned (congrArg (Value.int .i64) (by show _ = _; first | rfl | omega)), (by repeat' (first | with_reducible exact World.Exts.refl _ | with_reducible refine World.Exts.alloc ?_ _ | with_reducible refine World.Exts.drew ?_ | with_reducible refine World.Exts.drewN ?_ _ | with_reducible refine World.Exts.ext ?_ _ | with_reducible refine World.Exts.setCell ?_ ?_ _ | (simp; done) | exact World.size_ext_le _ _ | (simp; omega)))⟩

theorem floor_ceil (n s : Int) (hs : 0 < s) : n / s = -((-n + s - 1) / s) := by
  have h1 := Int.mul_ediv_add_emod (-n + s - 1) s
  have h2 := Int.emod_nonneg (-n + s - 1) (show s ≠ 0 by omega)
  have h3 := Int.emod_lt_of_pos (-n + s - 1) hs
  refine ((Int.ediv_emod_unique (a := n) (r := s - 1 - (-n + s - 1) % s) (q := -((-n + s - 1) / s)) hs).2 ⟨?_, by omega, by omega⟩).1
  rw [Int.mul_neg]
  omega

set_option maxHeartbeats 400000 in
theorem r04_below_any (n step : Int) (w : World) (h : -9000000000000 ≤ n ∧ n ≤ 9000000000000) (hs : 1 ≤ step ∧ step ≤ 500) : Calls Try.prog 22 #[.int .i64 n, .int .i64 step] w fun e w' => e = .returned (.int .i64 (n / step * step)) ∧ w.Exts w' := by
  by_cases hn : n < 0
  · have q1 : 0 ≤ (-n + step - 1) / step * step := Int.mul_nonneg (Int.ediv_nonneg (by omega) (by omega)) (by omega)
    have q2 : (-n + step - 1) / step * step ≤ -n + step - 1 := Int.ediv_mul_le _ (by omega)
    go_enter Try.func22, Try.ntmps22
    go_wp2
    go_ret
    exact ⟨congrArg Ending.returned (congrArg (Value.int .i64) (by show -((-n + step - 1) / step * step) = _; rw [floor_ceil n step (by omega), Int.neg_mul])), (by repeat' (first | with_reducible exact World.Exts.refl _ | with_reducible refine World.Exts.alloc ?_ _ | with_reducible refine World.Exts.drew ?_ | with_reducible refine World.Exts.drewN ?_ _ | with_reducible refine World.Exts.ext ?_ _ | with_reducible refine World.Exts.setCell ?_ ?_ _ | (simp; done) | exact World.size_ext_le _ _ | (simp; omega)))⟩
  · have q1 : 0 ≤ n / step * step := Int.mul_nonneg (Int.ediv_nonneg (by omega) (by omega)) (by omega)
    have q2 : n / step * step ≤ n := Int.ediv_mul_le _ (by omega)
    go_enter Try.func22, Try.ntmps22
    go_wp2
    go_ret
    exact ⟨rfl, (by repeat' (first | with_reducible exact World.Exts.refl _ | with_reducible refine World.Exts.alloc ?_ _ | with_reducible refine World.Exts.drew ?_ | with_reducible refine World.Exts.drewN ?_ _ | with_reducible refine World.Exts.ext ?_ _ | with_reducible refine World.Exts.setCell ?_ ?_ _ | (simp; done) | exact World.size_ext_le _ _ | (simp; omega)))⟩

set_option maxHeartbeats 400000 in
theorem r04_Shows_any (s : Scale) (tv : Value) (gain off weight n : Int) (w : World)
    (h1 : 0 ≤ weight ∧ weight ≤ 1000000) (h2 : -10 ≤ gain ∧ gain ≤ 10) (h3 : -100 ≤ off ∧ off ≤ 100) (h4 : 1 ≤ s.step ∧ s.step ≤ 500) (h5 : -2000000 ≤ n ∧ n ≤ 2000000) :
    Calls Try.prog 43 #[.agg #[.int .i64 s.id, .int .i64 s.step, .int .i64 s.gain.lo, .int .i64 s.gain.hi, .int .i64 s.off.lo, .int .i64 s.off.hi, tv], .int .i64 gain, .int .i64 off, .int .i64 weight, .int .i64 n] w
      fun e w' => e = .returned (.bool (showsB gain off weight n s.step)) ∧ w.Exts w' := by
  have hm1 : 0 ≤ weight * (1000 + gain) := Int.mul_nonneg (by omega) (by omega)
  have hm2 : weight * (1000 + gain) ≤ 1000000 * 1010 := Int.mul_le_mul (by omega) (by omega) (by omega) (by omega)
  by_cases h : 1000 * n ≤ weight * (1000 + gain) + 1000 * off
  all_goals
    go_enter Try.func43, Try.ntmps43
    go_wp2
    go_ret
    exact ⟨congrArg Ending.returned (congrArg Value.bool (by unfold showsB; rw [Bool.eq_iff_iff]; simp; omega)), (by repeat' (first | with_reducible exact World.Exts.refl _ | with_reducible refine World.Exts.alloc ?_ _ | with_reducible refine World.Exts.drew ?_ | with_reducible refine World.Exts.drewN ?_ _ | with_reducible refine World.Exts.ext ?_ _ | with_reducible refine World.Exts.setCell ?_ ?_ _ | (simp; done) | exact World.size_ext_le _ _ | (simp; omega)))⟩

theorem right_bounds {s : Scale} (h : right s = true) : (0 ≤ s.id ∧ s.id ≤ 9999) ∧ (1 ≤ s.step ∧ s.step ≤ 500) ∧ (-10 ≤ s.gain.lo ∧ s.gain.lo ≤ s.gain.hi ∧ s.gain.hi ≤ 10) ∧ (-100 ≤ s.off.lo ∧ s.off.lo ≤ s.off.hi ∧ s.off.hi ≤ 100) ∧ s.trials.length ≤ 6 ∧
    ∀ t ∈ s.trials, 0 ≤ t.weight ∧ t.weight ≤ 1000000 ∧ -2000000 ≤ t.shown ∧ t.shown ≤ 2000000 := by
  simp [right, inb, ordered] at h
  obtain ⟨⟨⟨⟨⟨h1, h2⟩, h3⟩, h4⟩, h5⟩, h6⟩ := h
  refine ⟨by omega, by omega, by omega, by omega, h5, fun t ht => ?_⟩
  have := h6 t ht
  simp [trialOk, shownB, inb] at this
  omega

set_option maxHeartbeats 400000 in
theorem r04_True_any (s : Scale) (tv : Value) (gain off : Int) (w : World) (hrow : IsRow (fun t : Kr.Trial => [.int .i64 t.weight, .int .i64 t.shown]) 2 w tv s.trials) (hr : right s = true)
    (h2 : -10 ≤ gain ∧ gain ≤ 10) (h3 : -100 ≤ off ∧ off ≤ 100) :
    Calls Try.prog 35 #[.agg #[.int .i64 s.id, .int .i64 s.step, .int .i64 s.gain.lo, .int .i64 s.gain.hi, .int .i64 s.off.lo, .int .i64 s.off.hi, tv], .int .i64 gain, .int .i64 off] w fun e w' => e = .returned (.bool (trueB s gain off)) ∧ w.Exts w' := by
  obtain ⟨_, h4, _, _, _, ht⟩ := right_bounds hr
  obtain ⟨p, b, o, cap, rfl, hm, hp, hc⟩ := hrow.ex
  have HC := Lib.hid hc
  have HT := Lib.hid ht
  have HP := Lib.hid hp
  clear hc ht hp hrow hr
  go_enter Try.func35, Try.ntmps35
  go_wp2_with fail
  go_loopw [7] (fun i wr => ∃ k : Nat, k ≤ s.trials.length ∧ i = .int .i64 k ∧ Hid (((s.trials.take k).all fun t => showsB gain off t.weight t.shown s.step) = true) ∧ (w.alloc (.cells #[.int .i64 s.id, .int .i64 s.step, .int .i64 s.gain.lo, .int .i64 s.gain.hi, .int .i64 s.off.lo, .int .i64 s.off.hi, .slice p s.trials.length cap] 33)).Exts wr) (fun i _ => s.trials.length - (intOf i).toNat)
  case atStart => exact ⟨0, Nat.zero_le _, rfl, rfl, World.Exts.refl _⟩
  case round =>
    obtain ⟨k, hk, rfl, HA, X, rfl⟩ := hrel
    by_cases hlt : k < s.trials.length
    · obtain ⟨rfl, hl⟩ := HP.out (by omega)
      obtain ⟨t, hti⟩ := some_of_lt hlt
      have hcs := HC.out k t hti
      have c0 := hcs 0 _ rfl
      have c1 := hcs 1 _ rfl
      simp only [Nat.add_zero] at c0 c1
      obtain ⟨t1, t2, t3, t4⟩ := HT.out t (List.mem_of_getElem? hti)
      have HI := Lib.hid hti
      clear hti hcs HP
      go_wp2_with fail
      refine wp_region_ext (by kernel_rfl) (by kernel_rfl) ?_
      repeat (go_big_quiet_step ((go_at_call 43; exact Calls.in_ext (r04_Shows_any _ _ _ _ _ _ _ ⟨t1, t2⟩ h2 h3 h4 ⟨t3, t4⟩))))
      refine wpQuiet_nil ?_
      rintro _ ⟨X, rfl⟩
      go_wp2_with fail
      · have hs : (!showsB gain off t.weight t.shown s.step) = true := by assumption
        go_ret
        have hf : (s.trials.all fun t => showsB gain off t.weight t.shown s.step) = false := by
          rw [List.all_eq_false]; exact ⟨t, List.mem_of_getElem? HI.out, by simpa using hs⟩
        exact ⟨by unfold trueB; rw [hf]; rfl, (by repeat' (first | with_reducible exact World.Exts.refl _ | with_reducible refine World.Exts.alloc ?_ _ | with_reducible refine World.Exts.drew ?_ | with_reducible refine World.Exts.drewN ?_ _ | with_reducible refine World.Exts.ext ?_ _ | with_reducible refine World.Exts.setCell ?_ ?_ _ | (simp; done) | exact World.size_ext_le _ _ | (simp; omega)))⟩
      · have hs : (!showsB gain off t.weight t.shown s.step) = false := by assumption
        go_roundw
        case rel => exact ⟨k + 1, by omega, by go_num, Lib.hid (by rw [take_snoc HI.out, List.all_append, HA.out]; simpa using hs), (by repeat' (first | with_reducible exact World.Exts.refl _ | with_reducible refine World.Exts.alloc ?_ _ | with_reducible refine World.Exts.drew ?_ | with_reducible refine World.Exts.drewN ?_ _ | with_reducible refine World.Exts.ext ?_ _ | with_reducible refine World.Exts.setCell ?_ ?_ _ | (simp; done) | exact World.size_ext_le _ _ | (simp; omega)))⟩
        case measure => simp [intOf]; omega
    · have hkn : k = s.trials.length := by omega
      have hA := HA.out
      rw [hkn, List.take_length] at hA
      have hfin : trueB s gain off = (inb s.gain.lo s.gain.hi gain && inb s.off.lo s.off.hi off) := by unfold trueB; rw [hA]; rfl
      have HF := Lib.hid hfin
      clear hA hkn hfin
      cases hg : inb s.gain.lo s.gain.hi gain
      all_goals
        have HG := Lib.hid hg
        clear hg
        go_wp2_with (go_at_call 21; refine (r04_within_any _ _ _ _).mono ?_; rintro e w' ⟨rfl, X2, rfl⟩; try rw [HG.out])
        go_ret
        exact ⟨by rw [HF.out, HG.out]; rfl, (by repeat' (first | with_reducible exact World.Exts.refl _ | with_reducible refine World.Exts.alloc ?_ _ | with_reducible refine World.Exts.drew ?_ | with_reducible refine World.Exts.drewN ?_ _ | with_reducible refine World.Exts.ext ?_ _ | with_reducible refine World.Exts.setCell ?_ ?_ _ | (simp; done) | exact World.size_ext_le _ _ | (simp; omega)))⟩
end Go.Proofs.Ythogfmaclbmgoaa
