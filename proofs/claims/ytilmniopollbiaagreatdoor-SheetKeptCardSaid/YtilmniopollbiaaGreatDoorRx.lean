/-
  Several texts in one: see the heads of its parts.
-/
import Derived.Test.YtilmniopollbiaaGreatDoorFuncs

/-
  Walks of the reference of layer 4: numbers, scales.
-/
namespace Go.Proofs.YtilmniopollbiaaGreatDoor
open Go.RowKit Kr

set_option maxHeartbeats 400000 in
theorem r04_within_any (n lo hi : Int) (w : World) : Calls Tryz.prog 164 #[.int .i64 n, .int .i64 lo, .int .i64 hi] w fun e w' => e = .returned (.bool (inb lo hi n)) ∧ w.Exts w' := by
  by_cases h : lo ≤ n
  all_goals
    go_enter Tryz.func164, Tryz.ntmps164
    go_wp2
    go_ret
    exact ⟨congrArg Ending.returned (congrArg Value.bool (by unfold inb; rw [Bool.eq_iff_iff]; simp; omega)), exq⟩

set_option maxHeartbeats 400000 in
theorem r04_spanned_any (s : Span) (lo hi : Int) (w : World) : Calls Tryz.prog 163 #[.agg #[.int .i64 s.lo, .int .i64 s.hi], .int .i64 lo, .int .i64 hi] w fun e w' => e = .returned (.bool (ordered s lo hi)) ∧ w.Exts w' := by
  by_cases h1 : lo ≤ s.lo <;> by_cases h2 : s.lo ≤ s.hi
  all_goals
    go_enter Tryz.func163, Tryz.ntmps163
    go_wp2
    go_ret
    exact ⟨congrArg Ending.returned (congrArg Value.bool (by unfold ordered; rw [Bool.eq_iff_iff]; simp; omega)), exq⟩

set_option maxHeartbeats 400000 in
theorem r04_shown_any (n step : Int) (w : World) (hs : 1 ≤ step) : Calls Tryz.prog 203 #[.int .i64 n, .int .i64 step] w fun e w' => e = .returned (.bool (shownB n step)) ∧ w.Exts w' := by
  cases hb : inb (-2000000) 2000000 n
  all_goals
    have HB := Lib.hid hb
    clear hb
    go_enter Tryz.func203, Tryz.ntmps203
    go_wp2_with (go_at_call 164; refine (r04_within_any _ _ _ _).mono ?_; rintro e w' ⟨rfl, X2, rfl⟩; rw [HB.out])
    go_ret
    have hb := HB.out
    exact ⟨congrArg Ending.returned (congrArg Value.bool (by unfold shownB; simp [hb])), exq⟩


theorem floor_ceil (n s : Int) (hs : 0 < s) : n / s = -((-n + s - 1) / s) := by
  have h1 := Int.mul_ediv_add_emod (-n + s - 1) s
  have h2 := Int.emod_nonneg (-n + s - 1) (show s ≠ 0 by omega)
  have h3 := Int.emod_lt_of_pos (-n + s - 1) hs
  refine ((Int.ediv_emod_unique (a := n) (r := s - 1 - (-n + s - 1) % s) (q := -((-n + s - 1) / s)) hs).2 ⟨?_, by omega, by omega⟩).1
  rw [Int.mul_neg]
  omega


set_option maxHeartbeats 400000 in
theorem r04_Shows_any (s : Scale) (tv : Value) (gain off weight n : Int) (w : World)
    (h1 : 0 ≤ weight ∧ weight ≤ 1000000) (h2 : -10 ≤ gain ∧ gain ≤ 10) (h3 : -100 ≤ off ∧ off ≤ 100) (h4 : 1 ≤ s.step ∧ s.step ≤ 500) (h5 : -2000000 ≤ n ∧ n ≤ 2000000) :
    Calls Tryz.prog 275 #[.agg #[.int .i64 s.id, .int .i64 s.step, .int .i64 s.gain.lo, .int .i64 s.gain.hi, .int .i64 s.off.lo, .int .i64 s.off.hi, tv], .int .i64 gain, .int .i64 off, .int .i64 weight, .int .i64 n] w
      fun e w' => e = .returned (.bool (showsB gain off weight n s.step)) ∧ w.Exts w' := by
  have hm1 : 0 ≤ weight * (1000 + gain) := Int.mul_nonneg (by omega) (by omega)
  have hm2 : weight * (1000 + gain) ≤ 1000000 * 1010 := Int.mul_le_mul (by omega) (by omega) (by omega) (by omega)
  by_cases h : 1000 * n ≤ weight * (1000 + gain) + 1000 * off
  all_goals
    go_enter Tryz.func275, Tryz.ntmps275
    go_wp2
    go_ret
    exact ⟨congrArg Ending.returned (congrArg Value.bool (by unfold showsB; rw [Bool.eq_iff_iff]; simp; omega)), exq⟩

theorem right_bounds {s : Scale} (h : right s = true) : (0 ≤ s.id ∧ s.id ≤ 9999) ∧ (1 ≤ s.step ∧ s.step ≤ 500) ∧ (-10 ≤ s.gain.lo ∧ s.gain.lo ≤ s.gain.hi ∧ s.gain.hi ≤ 10) ∧ (-100 ≤ s.off.lo ∧ s.off.lo ≤ s.off.hi ∧ s.off.hi ≤ 100) ∧ s.trials.length ≤ 6 ∧
    ∀ t ∈ s.trials, 0 ≤ t.weight ∧ t.weight ≤ 1000000 ∧ -2000000 ≤ t.shown ∧ t.shown ≤ 2000000 := by
  simp [right, inb, ordered] at h
  obtain ⟨⟨⟨⟨⟨h1, h2⟩, h3⟩, h4⟩, h5⟩, h6⟩ := h
  refine ⟨by omega, by omega, by omega, by omega, h5, fun t ht => ?_⟩
  have := h6 t ht
  simp [trialOk, shownB, inb] at this
  omega

set_option maxHeartbeats 400000 in
theorem r04_True_any (s : Scale) (tv : Value) (gain off : Int) (w : World) (hrow : IsRow (fun t : Kr.Trial => [.int .i64 t.weight, .int .i64 t.shown]) 2 w tv s.trials) (hr : right s = true)
    (h2 : -10 ≤ gain ∧ gain ≤ 10) (h3 : -100 ≤ off ∧ off ≤ 100) :
    Calls Tryz.prog 249 #[.agg #[.int .i64 s.id, .int .i64 s.step, .int .i64 s.gain.lo, .int .i64 s.gain.hi, .int .i64 s.off.lo, .int .i64 s.off.hi, tv], .int .i64 gain, .int .i64 off] w fun e w' => e = .returned (.bool (trueB s gain off)) ∧ w.Exts w' := by
  obtain ⟨_, h4, _, _, _, ht⟩ := right_bounds hr
  obtain ⟨p, b, o, cap, rfl, hm, hp, hc⟩ := hrow.ex
  have HC := Lib.hid hc
  have HT := Lib.hid ht
  have HP := Lib.hid hp
  clear hc ht hp hrow hr
  go_enter Tryz.func249, Tryz.ntmps249
  go_wp2_with fail
  go_loopw [7] (fun i wr => ∃ k : Nat, k ≤ s.trials.length ∧ i = .int .i64 k ∧ Hid (((s.trials.take k).all fun t => showsB gain off t.weight t.shown s.step) = true) ∧ (w.alloc (.cells #[.int .i64 s.id, .int .i64 s.step, .int .i64 s.gain.lo, .int .i64 s.gain.hi, .int .i64 s.off.lo, .int .i64 s.off.hi, .slice p s.trials.length cap] 94)).Exts wr) (fun i _ => s.trials.length - (intOf i).toNat)
  case atStart => exact ⟨0, Nat.zero_le _, rfl, rfl, World.Exts.refl _⟩
  case round =>
    obtain ⟨k, hk, rfl, HA, X, rfl⟩ := hrel
    by_cases hlt : k < s.trials.length
    · obtain ⟨rfl, hl⟩ := HP.out (by omega)
      obtain ⟨t, hti⟩ := some_of_lt hlt
      have hcs := HC.out k t hti
      have c0 := hcs 0 _ rfl
      have c1 := hcs 1 _ rfl
      simp only [Nat.add_zero] at c0 c1
      obtain ⟨t1, t2, t3, t4⟩ := HT.out t (List.mem_of_getElem? hti)
      have HI := Lib.hid hti
      clear hti hcs HP
      go_wp2_with fail
      refine wp_region_ext (by kernel_rfl) (by kernel_rfl) ?_
      repeat (go_big_quiet_step ((go_at_call 275; exact Calls.in_ext (r04_Shows_any _ _ _ _ _ _ _ ⟨t1, t2⟩ h2 h3 h4 ⟨t3, t4⟩))))
      refine wpQuiet_nil ?_
      rintro _ ⟨X, rfl⟩
      go_wp2_with fail
      · have hs : (!showsB gain off t.weight t.shown s.step) = true := by assumption
        go_ret
        have hf : (s.trials.all fun t => showsB gain off t.weight t.shown s.step) = false := by
          rw [List.all_eq_false]; exact ⟨t, List.mem_of_getElem? HI.out, by simpa using hs⟩
        exact ⟨by unfold trueB; rw [hf]; rfl, exq⟩
      · have hs : (!showsB gain off t.weight t.shown s.step) = false := by assumption
        go_roundw
        case rel => exact ⟨k + 1, by omega, by go_num, Lib.hid (by rw [take_snoc HI.out, List.all_append, HA.out]; simpa using hs), exq⟩
        case measure => simp [intOf]; omega
    · have hkn : k = s.trials.length := by omega
      have hA := HA.out
      rw [hkn, List.take_length] at hA
      have hfin : trueB s gain off = (inb s.gain.lo s.gain.hi gain && inb s.off.lo s.off.hi off) := by unfold trueB; rw [hA]; rfl
      have HF := Lib.hid hfin
      clear hA hkn hfin
      cases hg : inb s.gain.lo s.gain.hi gain
      all_goals
        have HG := Lib.hid hg
        clear hg
        go_wp2_with (go_at_call 164; refine (r04_within_any _ _ _ _).mono ?_; rintro e w' ⟨rfl, X2, rfl⟩; try rw [HG.out])
        go_ret
        exact ⟨by rw [HF.out, HG.out]; rfl, exq⟩
end Go.Proofs.YtilmniopollbiaaGreatDoor

/-
  Walks of the reference of layer 4: whether a scale, a bay, gear are valid.
-/
namespace Go.Proofs.YtilmniopollbiaaGreatDoor
open Go.RowKit Kr

set_option maxHeartbeats 1000000 in
theorem r04_Scale_any (s : Scale) (tv : Value) (w : World) (hrow : IsRow (fun t : Kr.Trial => [.int .i64 t.weight, .int .i64 t.shown]) 2 w tv s.trials) :
    Calls Tryz.prog 201 #[.agg #[.int .i64 s.id, .int .i64 s.step, .int .i64 s.gain.lo, .int .i64 s.gain.hi, .int .i64 s.off.lo, .int .i64 s.off.hi, tv]] w fun e w' => e = .returned (.bool (right s)) ∧ w.Exts w' := by
  obtain ⟨p, b, o, cap, rfl, hm, hp, hc⟩ := hrow.ex
  have HC := Lib.hid hc
  clear hc
  have HP := Lib.hid hp
  clear hp
  clear hrow
  cases h1 : inb 0 9999 s.id
  · have H1 := Lib.hid h1
    clear h1
    go_enter Tryz.func201, Tryz.ntmps201
    go_wp2_with (go_at_call 164; refine (r04_within_any _ _ _ _).mono ?_; rintro e w' ⟨rfl, X2, rfl⟩; rw [H1.out])
    go_ret
    have h := H1.out
    exact ⟨congrArg Ending.returned (congrArg Value.bool (by unfold right; simp [h])), exq⟩
  cases h2 : inb 1 500 s.step
  · have H1 := Lib.hid h1
    clear h1
    have H2 := Lib.hid h2
    clear h2
    go_enter Tryz.func201, Tryz.ntmps201
    go_wp2_with (go_at_call 164; refine (r04_within_any _ _ _ _).mono ?_; rintro e w' ⟨rfl, X2, rfl⟩; first | rw [H1.out] | rw [H2.out])
    go_ret
    have h := H2.out
    exact ⟨congrArg Ending.returned (congrArg Value.bool (by unfold right; simp [h])), exq⟩
  cases h3 : ordered s.gain (-10) 10
  · have H1 := Lib.hid h1
    clear h1
    have H2 := Lib.hid h2
    clear h2
    have H3 := Lib.hid h3
    clear h3
    go_enter Tryz.func201, Tryz.ntmps201
    go_wp2_with (first
      | (go_at_call 164; refine (r04_within_any _ _ _ _).mono ?_; rintro e w' ⟨rfl, X2, rfl⟩; first | rw [H1.out] | rw [H2.out])
      | (go_at_call 163; refine (r04_spanned_any _ _ _ _).mono ?_; rintro e w' ⟨rfl, X2, rfl⟩; rw [H3.out]))
    go_ret
    have h := H3.out
    exact ⟨congrArg Ending.returned (congrArg Value.bool (by unfold right; simp [h])), exq⟩
  cases h4 : ordered s.off (-100) 100
  · have H1 := Lib.hid h1
    clear h1
    have H2 := Lib.hid h2
    clear h2
    have H3 := Lib.hid h3
    clear h3
    have H4 := Lib.hid h4
    clear h4
    go_enter Tryz.func201, Tryz.ntmps201
    go_wp2_with (first
      | (go_at_call 164; refine (r04_within_any _ _ _ _).mono ?_; rintro e w' ⟨rfl, X2, rfl⟩; first | rw [H1.out] | rw [H2.out])
      | (go_at_call 163; refine (r04_spanned_any _ _ _ _).mono ?_; rintro e w' ⟨rfl, X2, rfl⟩; first | rw [H3.out] | rw [H4.out]))
    go_ret
    have h := H4.out
    exact ⟨congrArg Ending.returned (congrArg Value.bool (by unfold right; simp [h])), exq⟩
  have hstep : 1 ≤ s.step := by simp [inb] at h2; omega
  have hfin : right s = (decide (s.trials.length ≤ 6) && s.trials.all (trialOk s.step)) := by
    unfold right
    rw [h1, h2, h3, h4]
    simp
  have H1 := Lib.hid h1
  clear h1
  have H2 := Lib.hid h2
  clear h2
  have H3 := Lib.hid h3
  clear h3
  have H4 := Lib.hid h4
  clear h4
  have HF := Lib.hid hfin
  clear hfin
  by_cases hl : 6 < s.trials.length
  · go_enter Tryz.func201, Tryz.ntmps201
    go_wp2_with (first
      | (go_at_call 164; refine (r04_within_any _ _ _ _).mono ?_; rintro e w' ⟨rfl, X2, rfl⟩; first | rw [H1.out] | rw [H2.out])
      | (go_at_call 163; refine (r04_spanned_any _ _ _ _).mono ?_; rintro e w' ⟨rfl, X2, rfl⟩; first | rw [H3.out] | rw [H4.out]))
    go_ret
    exact ⟨by rw [HF.out]; simp; omega, exq⟩
  · go_enter Tryz.func201, Tryz.ntmps201
    go_wp2_with (first
      | (go_at_call 164; refine (r04_within_any _ _ _ _).mono ?_; rintro e w' ⟨rfl, X2, rfl⟩; first | rw [H1.out] | rw [H2.out])
      | (go_at_call 163; refine (r04_spanned_any _ _ _ _).mono ?_; rintro e w' ⟨rfl, X2, rfl⟩; first | rw [H3.out] | rw [H4.out]))
    have hfin2 : right s = s.trials.all (trialOk s.step) := by rw [HF.out]; simp; omega
    have HF2 := Lib.hid hfin2
    clear hfin2
    go_loopw [3] (fun i wr => ∃ k : Nat, k ≤ s.trials.length ∧ i = .int .i64 k ∧ Hid ((s.trials.take k).all (trialOk s.step) = true) ∧ (w.alloc (.cells #[.int .i64 s.id, .int .i64 s.step, .int .i64 s.gain.lo, .int .i64 s.gain.hi, .int .i64 s.off.lo, .int .i64 s.off.hi, .slice p s.trials.length cap] 94)).Exts wr) (fun i _ => s.trials.length - (intOf i).toNat)
    case atStart => exact ⟨0, Nat.zero_le _, rfl, rfl, exq⟩
    case round =>
      obtain ⟨k, hk, rfl, HA, X, rfl⟩ := hrel
      by_cases hlt : k < s.trials.length
      · obtain ⟨rfl, hl⟩ := HP.out (by omega)
        obtain ⟨t, hti⟩ := some_of_lt hlt
        have hcs := HC.out k t hti
        have c0 := hcs 0 _ rfl
        have c1 := hcs 1 _ rfl
        simp only [Nat.add_zero] at c0 c1
        have HI := Lib.hid hti
        clear hti
        clear hcs HP
        cases hw : inb 0 1000000 t.weight
        all_goals
          have HW := Lib.hid hw
          clear hw
          go_wp2_with fail
          refine wp_region_ext (by kernel_rfl) (by kernel_rfl) ?_
          repeat (go_big_quiet_step (first | (go_at_call 164; exact Calls.in_ext_eq (r04_within_any _ _ _ _) (congrArg Value.bool HW.out)) | (go_at_call 203; exact Calls.in_ext (r04_shown_any _ _ _ hstep))))
          refine wpQuiet_nil ?_
          rintro _ ⟨X, rfl⟩
          go_wp2_with fail
        · go_ret
          have hf : s.trials.all (trialOk s.step) = false := by
            rw [List.all_eq_false]; exact ⟨t, List.mem_of_getElem? HI.out, by unfold trialOk; rw [HW.out]; simp⟩
          exact ⟨by rw [HF2.out, hf]; rfl, exq⟩
        · have hs : (!shownB t.shown s.step) = true := by assumption
          go_ret
          have hf : s.trials.all (trialOk s.step) = false := by
            rw [List.all_eq_false]; exact ⟨t, List.mem_of_getElem? HI.out, by unfold trialOk; rw [HW.out]; simpa using hs⟩
          exact ⟨by rw [HF2.out, hf]; rfl, exq⟩
        · have hs : (!shownB t.shown s.step) = false := by assumption
          go_roundw
          case rel => exact ⟨k + 1, by omega, by go_num, Lib.hid (by rw [take_snoc HI.out, List.all_append, HA.out]; unfold trialOk; simp [HW.out]; simpa using hs), exq⟩
          case measure => simp [intOf]; omega
      · have hkn : k = s.trials.length := by omega
        have hA := HA.out
        rw [hkn, List.take_length] at hA
        have HA2 := Lib.hid hA
        clear hA
        clear hkn
        go_wp2_with fail
        go_ret
        exact ⟨by rw [HF2.out, HA2.out]; rfl, exq⟩

set_option maxHeartbeats 400000 in
theorem r04_numbers_any (xs : List Int) (v : Value) (most lo hi : Int) (w : World) (hrow : IsRow (fun x : Int => [.int .i64 x]) 1 w v xs) :
    Calls Tryz.prog 207 #[v, .int .i64 most, .int .i64 lo, .int .i64 hi] w fun e w' => e = .returned (.bool (inAll lo hi xs && decide ((xs.length : Int) ≤ most))) ∧ w.Exts w' := by
  obtain ⟨p, b, o, cap, rfl, hm, hp, hc⟩ := hrow.ex
  have HC := Lib.hid hc
  clear hc
  have HP := Lib.hid hp
  clear hp
  clear hrow
  go_enter Tryz.func207, Tryz.ntmps207
  go_wp2_with fail
  go_loopw [9] (fun i wr => ∃ k : Nat, k ≤ xs.length ∧ i = .int .i64 k ∧ Hid (inAll lo hi (xs.take k) = true) ∧ w.Exts wr) (fun i _ => xs.length - (intOf i).toNat)
  case atStart => exact ⟨0, Nat.zero_le _, rfl, rfl, exq⟩
  case round =>
    obtain ⟨k, hk, rfl, HA, X, rfl⟩ := hrel
    by_cases hlt : k < xs.length
    · obtain ⟨rfl, hl⟩ := HP.out (by omega)
      obtain ⟨x, hx⟩ := some_of_lt hlt
      have hcs := HC.out k x hx
      have c0 := hcs 0 _ rfl
      simp only [Nat.mul_one, Nat.add_zero] at c0
      have HI := Lib.hid hx
      clear hx
      clear hcs HP
      go_wp2_with (go_at_call 164; refine (r04_within_any _ _ _ _).mono ?_; rintro e w' ⟨rfl, X2, rfl⟩)
      · have hs : (!inb lo hi x) = true := by assumption
        go_ret
        have hf : inAll lo hi xs = false := by
          unfold inAll; rw [List.all_eq_false]; exact ⟨x, List.mem_of_getElem? HI.out, by simpa using hs⟩
        exact ⟨by rw [hf]; rfl, exq⟩
      · have hs : (!inb lo hi x) = false := by assumption
        go_roundw
        case rel => exact ⟨k + 1, by omega, by go_num, Lib.hid (by unfold inAll at *; rw [take_snoc HI.out, List.all_append, HA.out]; simpa using hs), exq⟩
        case measure => simp [intOf]; omega
    · have hkn : k = xs.length := by omega
      have hA := HA.out
      rw [hkn, List.take_length] at hA
      have HA2 := Lib.hid hA
      clear hA
      clear hkn
      go_wp2_with fail
      go_ret
      exact ⟨by rw [HA2.out]; rfl, exq⟩
end Go.Proofs.YtilmniopollbiaaGreatDoor

/-
  Walks of the reference of layer 4: a bay, gear, what is great.
-/
namespace Go.Proofs.YtilmniopollbiaaGreatDoor
open Go.RowKit Kr

theorem at_eq (ts : List (Kr.Scale × Value)) (id : Int) : at_ (ts.map Prod.fst) id = firstAt (fun x => x.1.id == id) ts := by
  unfold at_ firstAt
  rw [List.findIdx?_map]
  rfl

set_option maxHeartbeats 400000 in
theorem r04_At_any (ts : List (Kr.Scale × Value)) (v : Value) (id : Int) (w : World) (hrow : BayAt w v ts) :
    Calls Tryz.prog 202 #[.agg #[v], .int .i64 id] w fun e w' => e = .returned (.int .i64 (firstAt (fun x => x.1.id == id) ts)) ∧ w.Exts w' := by
  obtain ⟨p, b, o, cap, rfl, hm, hp, hc⟩ := hrow.row.ex
  have HC := Lib.hid hc
  clear hc
  have HP := Lib.hid hp
  clear hp
  clear hrow
  go_enter Tryz.func202, Tryz.ntmps202
  go_wp2_with fail
  go_loopw [5] (fun i wr => ∃ k : Nat, k ≤ ts.length ∧ i = .int .i64 k ∧ Hid (∀ y ∈ ts.take k, (y.1.id == id) = false) ∧ (w.alloc (.cells #[.slice p ts.length cap] 34)).Exts wr) (fun i _ => ts.length - (intOf i).toNat)
  case atStart => exact ⟨0, Nat.zero_le _, rfl, Lib.hid (fun y hy => by simp at hy), exq⟩
  case round =>
    obtain ⟨k, hk, rfl, HA, X, rfl⟩ := hrel
    by_cases hlt : k < ts.length
    · obtain ⟨rfl, hl⟩ := HP.out (by omega)
      obtain ⟨x, hx⟩ := some_of_lt hlt
      have hcs := HC.out k x hx
      have c0 := hcs 0 _ rfl
      simp only [Nat.add_zero] at c0
      have HI := Lib.hid hx
      clear hx
      clear hcs HP
      go_wp2_with fail
      · have hs : (x.1.id == id) = true := by assumption
        go_ret
        exact ⟨by rw [firstAt_hit HI.out hs HA.out]; rfl, exq⟩
      · have hs : (x.1.id == id) = false := by assumption
        go_roundw
        case rel => exact ⟨k + 1, by omega, by go_num, Lib.hid (by rw [take_snoc HI.out]; intro y hy; rcases List.mem_append.1 hy with h | h; exact HA.out y h; rw [List.mem_singleton.1 h]; exact hs), exq⟩
        case measure => simp [intOf]; omega
    · have hkn : k = ts.length := by omega
      have hA := HA.out
      rw [hkn, List.take_length] at hA
      have HA2 := Lib.hid hA
      clear hA
      clear hkn
      go_wp2_with fail
      go_ret
      exact ⟨by rw [firstAt_miss HA2.out]; rfl, exq⟩

set_option maxHeartbeats 1000000 in
theorem r04_Bare_any (g : Gear) (lv rv sv : Value) (w : World) (hr : IsRow (fun x : Int => [.int .i64 x]) 1 w rv g.runners) (hs : IsRow (fun x : Int => [.int .i64 x]) 1 w sv g.strokes) :
    Calls Tryz.prog 169 #[.agg #[lv, .int .i64 g.added, .int .i64 g.base, .int .i64 g.jitter, rv, sv, .int .i64 g.spread, .bool g.stamp]] w fun e w' => e = .returned (.bool (bare g)) ∧ w.Exts w' := by
  have HR := Lib.hid hr
  clear hr
  have HS := Lib.hid hs
  clear hs
  cases h1 : inb 0 1000000 g.added
  case' true => cases h2 : inb (-1000) 1000 g.base
  case' true.true => cases h3 : inb 0 1000 g.jitter
  case' true.true.true => cases h4 : inAll (-1000) 1000 g.runners && decide ((g.runners.length : Int) ≤ 8)
  case' true.true.true.true => cases h5 : inAll 0 2000 g.strokes && decide ((g.strokes.length : Int) ≤ 8)
  all_goals
    have hfin : bare g = (inb 0 1000000 g.added && inb (-1000) 1000 g.base && inb 0 1000 g.jitter && (inAll (-1000) 1000 g.runners && decide ((g.runners.length : Int) ≤ 8)) && (inAll 0 2000 g.strokes && decide ((g.strokes.length : Int) ≤ 8)) && inb 0 2000 g.spread) := by
      unfold bare; rw [show decide (g.runners.length ≤ 8) = decide ((g.runners.length : Int) ≤ 8) from by rw [Bool.eq_iff_iff]; simp; omega, show decide (g.strokes.length ≤ 8) = decide ((g.strokes.length : Int) ≤ 8) from by rw [Bool.eq_iff_iff]; simp; omega]
    rw [h1] at hfin
    try rw [h2] at hfin
    try rw [h3] at hfin
    try rw [h4] at hfin
    try rw [h5] at hfin
    simp only [Bool.true_and, Bool.false_and] at hfin
    have H1 := Lib.hid h1
    try have H2 := Lib.hid h2
    try have H3 := Lib.hid h3
    try have H4 := Lib.hid h4
    try have H5 := Lib.hid h5
    have HF := Lib.hid hfin
    clear h1 hfin
    try clear h2
    try clear h3
    try clear h4
    try clear h5
    go_enter Tryz.func169, Tryz.ntmps169
    go_wp2_with (first
      | (go_at_call 164; refine (r04_within_any _ _ _ _).mono ?_; rintro e w' ⟨rfl, X2, rfl⟩; try first | rw [H1.out] | rw [H2.out] | rw [H3.out])
      | (go_at_call 207; ((with_reducible refine (r04_numbers_any g.runners _ _ _ _ _ (HR.out.mono exq)).mono ?_); rintro e w' ⟨rfl, X2, rfl⟩; rw [H4.out]))
      | (go_at_call 207; ((with_reducible refine (r04_numbers_any g.strokes _ _ _ _ _ (HS.out.mono exq)).mono ?_); rintro e w' ⟨rfl, X2, rfl⟩; rw [H5.out])))
    go_ret
    exact ⟨by rw [HF.out]; rfl, exq⟩
end Go.Proofs.YtilmniopollbiaaGreatDoor

/-
  Walks of the reference of layer 4: a bay, gear, Check, Great.
-/
namespace Go.Proofs.YtilmniopollbiaaGreatDoor
open Go.RowKit Kr

theorem lastId_prev {ts : List (Kr.Scale × Value)} {k : Nat} {y : Kr.Scale × Value} (hk : 0 < k) (hy : ts[k - 1]? = some y) : lastId (-1) ((ts.take k).map Prod.fst) = y.1.id := by
  obtain ⟨j, rfl⟩ : ∃ j, k = j + 1 := ⟨k - 1, by omega⟩
  rw [take_snoc (by simpa using hy), List.map_append, List.map_singleton, lastId_snoc]

theorem bay_fails {ts : List (Kr.Scale × Value)} {k : Nat} {x : Kr.Scale × Value} (hx : ts[k]? = some x) (h : decide (lastId (-1) ((ts.take k).map Prod.fst) < x.1.id) = false ∨ right x.1 = false) : bayOk (ts.map Prod.fst) = false := by
  have h2 : bayFrom (-1) ((ts.take (k + 1)).map Prod.fst) = false := by
    rw [take_snoc hx, List.map_append, List.map_singleton, bayFrom_snoc]
    rcases h with h | h <;> rw [h] <;> simp
  have h3 : bayFrom (-1) (ts.map Prod.fst) = false := by
    cases hb : bayFrom (-1) (ts.map Prod.fst) with
    | false => rfl
    | true =>
      rw [← List.take_append_drop (k + 1) ts, List.map_append] at hb
      rw [bayFrom_prefix _ _ _ hb] at h2; cases h2
  unfold bayOk; rw [h3]; rfl

set_option maxHeartbeats 1000000 in
theorem r04_Bay_any (ts : List (Kr.Scale × Value)) (v : Value) (w : World) (hrow : BayAt w v ts) :
    Calls Tryz.prog 161 #[.agg #[v]] w fun e w' => e = .returned (.bool (bayOk (ts.map Prod.fst))) ∧ w.Exts w' := by
  obtain ⟨p, b, o, cap, rfl, hm, hp, hc⟩ := hrow.row.ex
  have ht := hrow.tr
  have HC := Lib.hid hc
  clear hc
  have HP := Lib.hid hp
  clear hp
  have HT := Lib.hid ht
  clear ht
  clear hrow
  go_enter Tryz.func161, Tryz.ntmps161
  go_wp2_with fail
  go_loopw [3] (fun i wr => ∃ k : Nat, k ≤ ts.length ∧ i = .int .i64 k ∧ Hid (bayFrom (-1) ((ts.take k).map Prod.fst) = true) ∧ (w.alloc (.cells #[.slice p ts.length cap] 34)).Exts wr) (fun i _ => ts.length - (intOf i).toNat)
  case atStart => exact ⟨0, Nat.zero_le _, rfl, rfl, exq⟩
  case round =>
    obtain ⟨k, hk, rfl, HA, X, rfl⟩ := hrel
    by_cases hlt : k < ts.length
    · obtain ⟨rfl, hl⟩ := HP.out (by omega)
      obtain ⟨x, hx⟩ := some_of_lt hlt
      have hcs := HC.out k x hx
      have c0 := hcs 0 _ rfl
      have c1 := hcs 1 _ rfl
      have c2 := hcs 2 _ rfl
      have c3 := hcs 3 _ rfl
      have c4 := hcs 4 _ rfl
      have c5 := hcs 5 _ rfl
      have c6 := hcs 6 _ rfl
      simp only [Nat.add_zero] at c0 c1 c2 c3 c4 c5 c6
      have htr := HT.out x (List.mem_of_getElem? hx)
      have HTR := Lib.hid htr
      clear htr
      clear hcs HP
      cases hr : right x.1
      · have HI := Lib.hid hx
        clear hx
        have HR := Lib.hid hr
        clear hr
        go_wp2_with fail
        refine wp_region_ext (by kernel_rfl) (by kernel_rfl) ?_
        repeat (go_big_quiet_step ((go_at_call 201; exact Calls.in_ext_eq (r04_Scale_any x.1 x.2 _ (HTR.out.mono exq)) (congrArg Value.bool HR.out))))
        refine wpQuiet_nil ?_
        rintro _ ⟨X, rfl⟩
        go_wp2_with fail
        go_ret
        exact ⟨by rw [bay_fails HI.out (.inr HR.out)]; rfl, exq⟩
      by_cases hk0 : 0 < k
      · obtain ⟨y, hy⟩ := some_of_lt (show k - 1 < ts.length by omega)
        have hcs := HC.out (k - 1) y hy
        have d0 := hcs 0 _ rfl
        simp only [Nat.add_zero] at d0
        have HI := Lib.hid hx
        clear hx
        have HR := Lib.hid hr
        clear hr
        have HY := Lib.hid hy
        clear hy
        clear hcs
        go_wp2_with fail
        refine wp_region_ext (by kernel_rfl) (by kernel_rfl) ?_
        repeat (go_big_quiet_step ((go_at_call 201; exact Calls.in_ext_eq (r04_Scale_any x.1 x.2 _ (HTR.out.mono exq)) (congrArg Value.bool HR.out))))
        refine wpQuiet_nil ?_
        rintro _ ⟨X, rfl⟩
        go_wp2_with fail
        · have hs : x.1.id ≤ y.1.id := by assumption
          go_ret
          exact ⟨by rw [bay_fails HI.out (.inl (by rw [lastId_prev hk0 HY.out]; simp; omega))]; rfl, exq⟩
        · have hs : y.1.id < x.1.id := by assumption
          go_roundw
          case rel => exact ⟨k + 1, by omega, by go_num, Lib.hid (by rw [take_snoc HI.out, List.map_append, List.map_singleton, bayFrom_snoc, HA.out, HR.out, lastId_prev hk0 HY.out]; simp; omega), exq⟩
          case measure => simp [intOf]; omega
      · have h0 := (right_id hr).1
        have hkk : k = 0 := by omega
        have HKK := Lib.hid hkk
        clear hkk
        have HI := Lib.hid hx
        clear hx
        have HR := Lib.hid hr
        clear hr
        go_wp2_with fail
        refine wp_region_ext (by kernel_rfl) (by kernel_rfl) ?_
        repeat (go_big_quiet_step ((go_at_call 201; exact Calls.in_ext_eq (r04_Scale_any x.1 x.2 _ (HTR.out.mono exq)) (congrArg Value.bool HR.out))))
        refine wpQuiet_nil ?_
        rintro _ ⟨X, rfl⟩
        go_wp2_with fail
        go_roundw
        case rel => exact ⟨k + 1, by omega, by go_num, Lib.hid (by rw [take_snoc HI.out, List.map_append, List.map_singleton, bayFrom_snoc, HA.out, HR.out, HKK.out]; simp [lastId]; omega), exq⟩
        case measure => simp [intOf]; omega
    · have hkn : k = ts.length := by omega
      have hA := HA.out
      rw [hkn, List.take_length] at hA
      have HA2 := Lib.hid hA
      clear hA
      clear hkn
      go_wp2_with fail
      go_ret
      exact ⟨by unfold bayOk; rw [HA2.out]; simp; omega, exq⟩
theorem loadOk_find (ts : List (Kr.Scale × Value)) (l : Load) : loadOk (ts.map Prod.fst) l = match ts.find? (fun x => x.1.id == l.scale) with | some x => shownB l.shown x.1.step | none => false := by
  unfold loadOk
  rw [List.find?_map]
  show (match ((ts.find? fun x => x.1.id == l.scale).map Prod.fst) with | some s => shownB l.shown s.step | none => false) = _
  cases ts.find? (fun x => x.1.id == l.scale) <;> rfl

set_option maxHeartbeats 1000000 in
theorem r04_Gear_any (ts : List (Kr.Scale × Value)) (v : Value) (g : Gear) (lv rv sv : Value) (w : World) (hrow : BayAt w v ts) (hok : ∀ x ∈ ts, right x.1 = true)
    (hl : IsRow (fun t : Kr.Load => [.int .i64 t.scale, .int .i64 t.shown]) 2 w lv g.loads) (hr : IsRow (fun x : Int => [.int .i64 x]) 1 w rv g.runners) (hs : IsRow (fun x : Int => [.int .i64 x]) 1 w sv g.strokes) :
    Calls Tryz.prog 162 #[.agg #[v], .agg #[lv, .int .i64 g.added, .int .i64 g.base, .int .i64 g.jitter, rv, sv, .int .i64 g.spread, .bool g.stamp]] w fun e w' => e = .returned (.bool (gearOk (ts.map Prod.fst) g)) ∧ w.Exts w' := by
  have hbay := hrow
  obtain ⟨p, b, o, cap, rfl, hm, hp, hc⟩ := hrow.row.ex
  obtain ⟨p1, b1, o1, cap1, rfl, hm1, hp1, hc1⟩ := hl.ex
  have HC := Lib.hid hc
  clear hc
  have HP := Lib.hid hp
  clear hp
  have HC1 := Lib.hid hc1
  clear hc1
  have HP1 := Lib.hid hp1
  clear hp1
  have HR := Lib.hid hr
  clear hr
  have HS := Lib.hid hs
  clear hs
  have HOK := Lib.hid hok
  clear hok
  have HBAY := Lib.hid hbay
  clear hbay
  clear hrow hl
  go_enter Tryz.func162, Tryz.ntmps162
  go_wp2_with fail
  go_loopw [5] (fun i wr => ∃ k : Nat, k ≤ g.loads.length ∧ i = .int .i64 k ∧ Hid ((g.loads.take k).all (loadOk (ts.map Prod.fst)) = true) ∧ ((w.alloc (.cells #[.slice p ts.length cap] 34)).alloc (.cells #[.slice p1 g.loads.length cap1, .int .i64 g.added, .int .i64 g.base, .int .i64 g.jitter, rv, sv, .int .i64 g.spread, .bool g.stamp] 38)).Exts wr) (fun i _ => g.loads.length - (intOf i).toNat)
  case atStart => exact ⟨0, Nat.zero_le _, rfl, rfl, exq⟩
  case round =>
    obtain ⟨k, hk, rfl, HA, X, rfl⟩ := hrel
    by_cases hlt : k < g.loads.length
    · obtain ⟨rfl, hl⟩ := HP1.out (by omega)
      obtain ⟨x, hx⟩ := some_of_lt hlt
      have hcs := HC1.out k x hx
      have c0 := hcs 0 _ rfl
      have c1 := hcs 1 _ rfl
      simp only [Nat.add_zero] at c0 c1
      have HI := Lib.hid hx
      clear hx
      clear hcs HP1
      go_wp2_with fail
      rcases firstAt_cases (fun y : Kr.Scale × Value => y.1.id == x.scale) ts with ⟨ha, hf⟩ | ⟨j, y, hy, ha, hf, hpy⟩
      · have HFA := Lib.hid ha
        clear ha
        have HF := Lib.hid hf
        clear hf
        refine wp_region_ext (by kernel_rfl) (by kernel_rfl) ?_
        repeat (go_big_quiet_step ((go_at_call 202; exact Calls.in_ext_eq (r04_At_any ts _ _ _ (HBAY.out.mono exq)) (congrArg (Value.int .i64) HFA.out))))
        refine wpQuiet_nil ?_
        rintro _ ⟨X, rfl⟩
        go_wp2_with fail
        refine wp_region_ext (by kernel_rfl) (by kernel_rfl) ?_
        repeat (go_big_quiet_step (fail))
        refine wpQuiet_nil ?_
        rintro _ ⟨X, rfl⟩
        go_wp2_with fail
        go_ret
        have hno : g.loads.all (loadOk (ts.map Prod.fst)) = false := by
          rw [List.all_eq_false]; exact ⟨x, List.mem_of_getElem? HI.out, by rw [loadOk_find, HF.out]; simp⟩
        exact ⟨by unfold gearOk; rw [hno]; rfl, exq⟩
      · have hjl := lt_of_some hy
        obtain ⟨rfl, hlb⟩ := HP.out (by omega)
        have hcs := HC.out j y hy
        have d0 := hcs 1 _ rfl
        have hstep : 1 ≤ y.1.step := (right_bounds (HOK.out y (List.mem_of_getElem? hy))).2.1.1
        have hlo : loadOk (ts.map Prod.fst) x = shownB x.shown y.1.step := by rw [loadOk_find, hf]
        have HLO := Lib.hid hlo
        clear hlo
        have HFA := Lib.hid ha
        clear ha
        have hj0 : decide ((j : Int) < 0) = false := by simp
        clear hf hpy hy hcs HP
        refine wp_region_ext (by kernel_rfl) (by kernel_rfl) ?_
        repeat (go_big_quiet_step ((go_at_call 202; exact Calls.in_ext_eq (r04_At_any ts _ _ _ (HBAY.out.mono exq)) (congrArg (Value.int .i64) HFA.out))))
        refine wpQuiet_nil ?_
        rintro _ ⟨X, rfl⟩
        go_wp2_with fail
        refine wp_region_ext (by kernel_rfl) (by kernel_rfl) ?_
        repeat (go_big_quiet_step ((go_at_call 203; exact Calls.in_ext (r04_shown_any _ _ _ hstep))))
        refine wpQuiet_nil ?_
        rintro _ ⟨X, rfl⟩
        go_wp2_with fail
        · have hs : (!shownB x.shown y.1.step) = true := by assumption
          go_ret
          have hno : g.loads.all (loadOk (ts.map Prod.fst)) = false := by
            rw [List.all_eq_false]; exact ⟨x, List.mem_of_getElem? HI.out, by rw [HLO.out]; simpa using hs⟩
          exact ⟨by unfold gearOk; rw [hno]; rfl, exq⟩
        · have hs : (!shownB x.shown y.1.step) = false := by assumption
          go_roundw
          case rel => exact ⟨k + 1, by omega, by go_num, Lib.hid (by rw [take_snoc HI.out, List.all_append, HA.out]; simp [HLO.out]; simpa using hs), exq⟩
          case measure => simp [intOf]; omega
    · have hkn : k = g.loads.length := by omega
      have hA := HA.out
      rw [hkn, List.take_length] at hA
      have hfin : gearOk (ts.map Prod.fst) g = (decide (g.loads.length ≤ 6) && bare g) := by unfold gearOk; rw [hA]; rfl
      have HF := Lib.hid hfin
      clear hfin
      clear hkn hA
      by_cases h6 : g.loads.length ≤ 6
      all_goals
        go_wp2_with (go_at_call 169; refine (r04_Bare_any g _ _ _ _ (HR.out.mono exq) (HS.out.mono exq)).mono ?_; rintro e w' ⟨rfl, X2, rfl⟩)
        go_ret
        exact ⟨by rw [HF.out]; simp [h6], exq⟩

set_option maxHeartbeats 400000 in
theorem r04_Check_any (ts : List (Kr.Scale × Value)) (v : Value) (g : Gear) (lv rv sv : Value) (w : World) (hrow : BayAt w v ts)
    (hl : IsRow (fun t : Kr.Load => [.int .i64 t.scale, .int .i64 t.shown]) 2 w lv g.loads) (hr : IsRow (fun x : Int => [.int .i64 x]) 1 w rv g.runners) (hs : IsRow (fun x : Int => [.int .i64 x]) 1 w sv g.strokes) :
    Calls Tryz.prog 102 #[.agg #[v], .agg #[lv, .int .i64 g.added, .int .i64 g.base, .int .i64 g.jitter, rv, sv, .int .i64 g.spread, .bool g.stamp]] w fun e w' => e = .returned (.int .i64 (check (ts.map Prod.fst) g)) ∧ w.Exts w' := by
  have HB := Lib.hid hrow
  clear hrow
  have HL := Lib.hid hl
  clear hl
  have HR := Lib.hid hr
  clear hr
  have HS := Lib.hid hs
  clear hs
  cases hb : bayOk (ts.map Prod.fst)
  · have H := Lib.hid hb
    clear hb
    go_enter Tryz.func102, Tryz.ntmps102
    go_wp2_with (go_at_call 161; refine (r04_Bay_any ts _ _ (HB.out.mono exq)).mono ?_; rintro e w' ⟨rfl, X2, rfl⟩; rw [H.out])
    go_ret
    exact ⟨by unfold check; rw [H.out]; rfl, exq⟩
  · have hok : ∀ x ∈ ts, right x.1 = true := fun x hx => by
      have h := hb
      unfold bayOk at h
      exact bayFrom_right (by simpa using (Bool.and_eq_true_iff.1 h).1) x.1 (List.mem_map.2 ⟨x, hx, rfl⟩)
    have HOK := Lib.hid hok
    clear hok
    have H := Lib.hid hb
    clear hb
    cases hg : gearOk (ts.map Prod.fst) g
    all_goals
      have HG := Lib.hid hg
      clear hg
      go_enter Tryz.func102, Tryz.ntmps102
      go_wp2_with (first
        | (go_at_call 161; refine (r04_Bay_any ts _ _ (HB.out.mono exq)).mono ?_; rintro e w' ⟨rfl, X2, rfl⟩; rw [H.out])
        | (go_at_call 162; refine (r04_Gear_any ts _ g _ _ _ _ (HB.out.mono exq) HOK.out (HL.out.mono exq) (HR.out.mono exq) (HS.out.mono exq)).mono ?_; rintro e w' ⟨rfl, X3, rfl⟩; rw [HG.out]))
      go_ret
      exact ⟨by unfold check; rw [H.out, HG.out]; rfl, exq⟩

def great (ts : List (Kr.Scale × Value)) (g : Gear) : Bool := decide (8 < ts.length) || decide (10 < g.loads.length) || decide (12 < g.runners.length) || decide (12 < g.strokes.length) || ts.any (fun x => decide (10 < x.1.trials.length))

set_option maxHeartbeats 1000000 in
theorem r04_Great_any (ts : List (Kr.Scale × Value)) (v : Value) (g : Gear) (lv rv sv : Value) (w : World) (hrow : BayAt w v ts)
    (hl : IsRow (fun t : Kr.Load => [.int .i64 t.scale, .int .i64 t.shown]) 2 w lv g.loads) (hr : IsRow (fun x : Int => [.int .i64 x]) 1 w rv g.runners) (hs : IsRow (fun x : Int => [.int .i64 x]) 1 w sv g.strokes) :
    Calls Tryz.prog 8 #[.agg #[v], .agg #[lv, .int .i64 g.added, .int .i64 g.base, .int .i64 g.jitter, rv, sv, .int .i64 g.spread, .bool g.stamp]] w fun e w' => e = .returned (.bool (great ts g)) ∧ w.Exts w' := by
  obtain ⟨p, b, o, cap, rfl, hm, hp, hc⟩ := hrow.row.ex
  obtain ⟨p1, c1, rfl⟩ := hl.len
  obtain ⟨p2, c2, rfl⟩ := hr.len
  obtain ⟨p3, c3, rfl⟩ := hs.len
  have ht := hrow.tr
  clear hrow hl hr hs
  have HC := Lib.hid hc
  clear hc
  have HP := Lib.hid hp
  clear hp
  have HT := Lib.hid ht
  clear ht
  by_cases h1 : 8 < ts.length
  · go_enter Tryz.func8, Tryz.ntmps8
    go_wp2_with fail
    go_ret
    exact ⟨by unfold great; simp; omega, exq⟩
  by_cases h2 : 10 < g.loads.length
  · go_enter Tryz.func8, Tryz.ntmps8
    go_wp2_with fail
    go_ret
    exact ⟨by unfold great; simp; omega, exq⟩
  by_cases h3 : 12 < g.runners.length
  · go_enter Tryz.func8, Tryz.ntmps8
    go_wp2_with fail
    go_ret
    exact ⟨by unfold great; simp; omega, exq⟩
  by_cases h4 : 12 < g.strokes.length
  · go_enter Tryz.func8, Tryz.ntmps8
    go_wp2_with fail
    go_ret
    exact ⟨by unfold great; simp; omega, exq⟩
  · go_enter Tryz.func8, Tryz.ntmps8
    go_wp2_with fail
    go_loopw [5] (fun i wr => ∃ k : Nat, k ≤ ts.length ∧ i = .int .i64 k ∧ Hid (∀ x ∈ ts.take k, ¬ 10 < x.1.trials.length) ∧ ((w.alloc (.cells #[.slice p ts.length cap] 34)).alloc (.cells #[.slice p1 g.loads.length c1, .int .i64 g.added, .int .i64 g.base, .int .i64 g.jitter, .slice p2 g.runners.length c2, .slice p3 g.strokes.length c3, .int .i64 g.spread, .bool g.stamp] 38)).Exts wr) (fun i _ => ts.length - (intOf i).toNat)
    case atStart => exact ⟨0, Nat.zero_le _, rfl, Lib.hid (fun y hy => by simp at hy), exq⟩
    case round =>
      obtain ⟨k, hk, rfl, HA, X, rfl⟩ := hrel
      by_cases hlt : k < ts.length
      · obtain ⟨rfl, hl⟩ := HP.out (by omega)
        obtain ⟨x, hx⟩ := some_of_lt hlt
        have hcs := HC.out k x hx
        have c6 := hcs 6 _ rfl
        obtain ⟨q, cq, htv⟩ := (HT.out x (List.mem_of_getElem? hx)).len
        rw [htv] at c6
        have HI := Lib.hid hx
        clear hx
        clear hcs HP htv
        by_cases h10 : 10 < x.1.trials.length
        · go_wp2_with fail
          go_ret
          have hy : ts.any (fun x => decide (10 < x.1.trials.length)) = true := List.any_eq_true.2 ⟨x, List.mem_of_getElem? HI.out, by simpa using h10⟩
          exact ⟨by unfold great; rw [hy]; simp, exq⟩
        · go_wp2_with fail
          go_roundw
          case rel => exact ⟨k + 1, by omega, by go_num, Lib.hid (by rw [take_snoc HI.out]; intro y hy; rcases List.mem_append.1 hy with h | h; exact HA.out y h; rw [List.mem_singleton.1 h]; omega), exq⟩
          case measure => simp [intOf]; omega
      · have hkn : k = ts.length := by omega
        have hA := HA.out
        rw [hkn, List.take_length] at hA
        have HA2 := Lib.hid hA
        clear hA
        clear hkn
        go_wp2_with fail
        go_ret
        have hy : ts.any (fun x => decide (10 < x.1.trials.length)) = false := by rw [List.any_eq_false]; intro x hx; have := HA2.out x hx; simpa using this
        exact ⟨by unfold great; rw [hy]; simp; omega, exq⟩
end Go.Proofs.YtilmniopollbiaaGreatDoor
