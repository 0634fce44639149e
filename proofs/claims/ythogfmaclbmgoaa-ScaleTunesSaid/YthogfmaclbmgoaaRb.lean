/-
  Walks of the reference of layer 4: whether a scale, a bay, gear are valid.
-/
import Derived.Test.YthogfmaclbmgoaaRa
namespace Go.Proofs.Ythogfmaclbmgoaa
open Go.RowKit Kr

set_option maxHeartbeats 1000000 in
theorem r04_Scale_any (s : Scale) (tv : Value) (w : World) (hrow : IsRow (fun t : Kr.Trial => [.int .i64 t.weight, .int .i64 t.shown]) 2 w tv s.trials) :
    Calls Try.prog 17 #[.agg #[.int .i64 s.id, .int .i64 s.step, .int .i64 s.gain.lo, .int .i64 s.gain.hi, .int .i64 s.off.lo, .int .i64 s.off.hi, tv]] w fun e w' => e = .returned (.bool (right s)) ∧ w.Exts w' := by
  obtain ⟨p, b, o, cap, rfl, hm, hp, hc⟩ := hrow.ex
  have HC := Lib.hid hc
  clear hc
  have HP := Lib.hid hp
  clear hp
  clear hrow
  cases h1 : inb 0 9999 s.id
  · have H1 := Lib.hid h1
    clear h1
    go_enter Try.func17, Try.ntmps17
    go_wp2_with (go_at_call 21; refine (r04_within_any _ _ _ _).mono ?_; rintro e w' ⟨rfl, X2, rfl⟩; rw [H1.out])
    go_ret
    have h := H1.out
    exact ⟨congrArg Ending.returned (congrArg Value.bool (by unfold right; simp [h])), (by repeat' (first | with_reducible exact World.Exts.refl _ | with_reducible refine World.Exts.alloc ?_ _ | with_reducible refine World.Exts.drew ?_ | with_reducible refine World.Exts.drewN ?_ _ | with_reducible refine World.Exts.ext ?_ _ | with_reducible refine World.Exts.setCell ?_ ?_ _ | (simp; done) | exact World.size_ext_le _ _ | (simp; omega)))⟩
  cases h2 : inb 1 500 s.step
  · have H1 := Lib.hid h1
    clear h1
    have H2 := Lib.hid h2
    clear h2
    go_enter Try.func17, Try.ntmps17
    go_wp2_with (go_at_call 21; refine (r04_within_any _ _ _ _).mono ?_; rintro e w' ⟨rfl, X2, rfl⟩; first | rw [H1.out] | rw [H2.out])
    go_ret
    have h := H2.out
    exact ⟨congrArg Ending.returned (congrArg Value.bool (by unfold right; simp [h])), (by repeat' (first | with_reducible exact World.Exts.refl _ | with_reducible refine World.Exts.alloc ?_ _ | with_reducible refine World.Exts.drew ?_ | with_reducible refine World.Exts.drewN ?_ _ | with_reducible refine World.Exts.ext ?_ _ | with_reducible refine World.Exts.setCell ?_ ?_ _ | (simp; done) | exact World.size_ext_le _ _ | (simp; omega)))⟩
  cases h3 : ordered s.gain (-10) 10
  · have H1 := Lib.hid h1
    clear h1
    have H2 := Lib.hid h2
    clear h2
    have H3 := Lib.hid h3
    clear h3
    go_enter Try.func17, Try.ntmps17
    go_wp2_with (first
      | (go_at_call 21; refine (r04_within_any _ _ _ _).mono ?_; rintro e w' ⟨rfl, X2, rfl⟩; first | rw [H1.out] | rw [H2.out])
      | (go_at_call 33; refine (r04_spanned_any _ _ _ _).mono ?_; rintro e w' ⟨rfl, X2, rfl⟩; rw [H3.out]))
    go_ret
    have h := H3.out
    exact ⟨congrArg Ending.returned (congrArg Value.bool (by unfold right; simp [h])), (by repeat' (first | with_reducible exact World.Exts.refl _ | with_reducible refine World.Exts.alloc ?_ _ | with_reducible refine World.Exts.drew ?_ | with_reducible refine World.Exts.drewN ?_ _ | with_reducible refine World.Exts.ext ?_ _ | with_reducible refine World.Exts.setCell ?_ ?_ _ | (simp; done) | exact World.size_ext_le _ _ | (simp; omega)))⟩
  cases h4 : ordered s.off (-100) 100
  · have H1 := Lib.hid h1
    clear h1
    have H2 := Lib.hid h2
    clear h2
    have H3 := Lib.hid h3
    clear h3
    have H4 := Lib.hid h4
    clear h4
    go_enter Try.func17, Try.ntmps17
    go_wp2_with (first
      | (go_at_call 21; refine (r04_within_any _ _ _ _).mono ?_; rintro e w' ⟨rfl, X2, rfl⟩; first | rw [H1.out] | rw [H2.out])
      | (go_at_call 33; refine (r04_spanned_any _ _ _ _).mono ?_; rintro e w' ⟨rfl, X2, rfl⟩; first | rw [H3.out] | rw [H4.out]))
    go_ret
    have h := H4.out
    exact ⟨congrArg Ending.returned (congrArg Value.bool (by unfold right; simp [h])), (by repeat' (first | with_reducible exact World.Exts.refl _ | with_reducible refine World.Exts.alloc ?_ _ | with_reducible refine World.Exts.drew ?_ | with_reducible refine World.Exts.drewN ?_ _ | with_reducible refine World.Exts.ext ?_ _ | with_reducible refine World.Exts.setCell ?_ ?_ _ | (simp; done) | exact World.size_ext_le _ _ | (simp; omega)))⟩
  have hstep : 1 ≤ s.step := by simp [inb] at h2; omega
  have hfin : right s = (decide (s.trials.length ≤ 6) && s.trials.all (trialOk s.step)) := by
    unfold right
    rw [h1, h2, h3, h4]
    simp
  have H1 := Lib.hid h1
  clear h1
  have H2 := Lib.hid h2
  clear h2
  have H3 := Lib.hid h3
  clear h3
  have H4 := Lib.hid h4
  clear h4
  have HF := Lib.hid hfin
  clear hfin
  by_cases hl : 6 < s.trials.length
  · go_enter Try.func17, Try.ntmps17
    go_wp2_with (first
      | (go_at_call 21; refine (r04_within_any _ _ _ _).mono ?_; rintro e w' ⟨rfl, X2, rfl⟩; first | rw [H1.out] | rw [H2.out])
      | (go_at_call 33; refine (r04_spanned_any _ _ _ _).mono ?_; rintro e w' ⟨rfl, X2, rfl⟩; first | rw [H3.out] | rw [H4.out]))
    go_ret
    exact ⟨by rw [HF.out]; simp; omega, (by repeat' (first | with_reducible exact World.Exts.refl _ | with_reducible refine World.Exts.alloc ?_ _ | with_reducible refine World.Exts.drew ?_ | with_reducible refine World.Exts.drewN ?_ _ | with_reducible refine World.Exts.ext ?_ _ | with_reducible refine World.Exts.setCell ?_ ?_ _ | (simp; done) | exact World.size_ext_le _ _ | (simp; omega)))⟩
  · go_enter Try.func17, Try.ntmps17
    go_wp2_with (first
      | (go_at_call 21; refine (r04_within_any _ _ _ _).mono ?_; rintro e w' ⟨rfl, X2, rfl⟩; first | rw [H1.out] | rw [H2.out])
      | (go_at_call 33; refine (r04_spanned_any _ _ _ _).mono ?_; rintro e w' ⟨rfl, X2, rfl⟩; first | rw [H3.out] | rw [H4.out]))
    have hfin2 : right s = s.trials.all (trialOk s.step) := by rw [HF.out]; simp; omega
    have HF2 := Lib.hid hfin2
    clear hfin2
    go_loopw [3] (fun i wr => ∃ k : Nat, k ≤ s.trials.length ∧ i = .int .i64 k ∧ Hid ((s.trials.take k).all (trialOk s.step) = true) ∧ (w.alloc (.cells #[.int .i64 s.id, .int .i64 s.step, .int .i64 s.gain.lo, .int .i64 s.gain.hi, .int .i64 s.off.lo, .int .i64 s.off.hi, .slice p s.trials.length cap] 33)).Exts wr) (fun i _ => s.trials.length - (intOf i).toNat)
    case atStart => exact ⟨0, Nat.zero_le _, rfl, rfl, (by repeat' (first | with_reducible exact World.Exts.refl _ | with_reducible refine World.Exts.alloc ?_ _ | with_reducible refine World.Exts.drew ?_ | with_reducible refine World.Exts.drewN ?_ _ | with_reducible refine World.Exts.ext ?_ _ | with_reducible refine World.Exts.setCell ?_ ?_ _ | (simp; done) | exact World.size_ext_le _ _ | (simp; omega)))⟩
    case round =>
      obtain ⟨k, hk, rfl, HA, X, rfl⟩ := hrel
      by_cases hlt : k < s.trials.length
      · obtain ⟨rfl, hl⟩ := HP.out (by omega)
        obtain ⟨t, hti⟩ := some_of_lt hlt
        have hcs := HC.out k t hti
        have c0 := hcs 0 _ rfl
        have c1 := hcs 1 _ rfl
        simp only [Nat.add_zero] at c0 c1
        have HI := Lib.hid hti
        clear hti
        clear hcs HP
        cases hw : inb 0 1000000 t.weight
        all_goals
          have HW := Lib.hid hw
          clear hw
          go_wp2_with fail
          refine wp_region_ext (by kernel_rfl) (by kernel_rfl) ?_
          repeat (go_big_quiet_step (first | (go_at_call 21; exact Calls.in_ext_eq (r04_within_any _ _ _ _) (congrArg Value.bool HW.out)) | (go_at_call 34; exact Calls.in_ext (r04_shown_any _ _ _ hstep))))
          refine wpQuiet_nil ?_
          rintro _ ⟨X, rfl⟩
          go_wp2_with fail
        · go_ret
          have hf : s.trials.all (trialOk s.step) = false := by
            rw [List.all_eq_false]; exact ⟨t, List.mem_of_getElem? HI.out, by unfold trialOk; rw [HW.out]; simp⟩
          exact ⟨by rw [HF2.out, hf]; rfl, (by repeat' (first | with_reducible exact World.Exts.refl _ | with_reducible refine World.Exts.alloc ?_ _ | with_reducible refine World.Exts.drew ?_ | with_reducible refine World.Exts.drewN ?_ _ | with_reducible refine World.Exts.ext ?_ _ | with_reducible refine World.Exts.setCell ?_ ?_ _ | (simp; done) | exact World.size_ext_le _ _ | (simp; omega)))⟩
        · have hs : (!shownB t.shown s.step) = true := by assumption
          go_ret
          have hf : s.trials.all (trialOk s.step) = false := by
            rw [List.all_eq_false]; exact ⟨t, List.mem_of_getElem? HI.out, by unfold trialOk; rw [HW.out]; simpa using hs⟩
          exact ⟨by rw [HF2.out, hf]; rfl, (by repeat' (first | with_reducible exact World.Exts.refl _ | with_reducible refine World.Exts.alloc ?_ _ | with_reducible refine World.Exts.drew ?_ | with_reducible refine World.Exts.drewN ?_ _ | with_reducible refine World.Exts.ext ?_ _ | with_reducible refine World.Exts.setCell ?_ ?_ _ | (simp; done) | exact World.size_ext_le _ _ | (simp; omega)))⟩
        · have hs : (!shownB t.shown s.step) = false := by assumption
          go_roundw
          case rel => exact ⟨k + 1, by omega, by go_num, Lib.hid (by rw [take_snoc HI.out, List.all_append, HA.out]; unfold trialOk; simp [HW.out]; simpa using hs), (by repeat' (first | with_reducible exact World.Exts.refl _ | with_reducible refine World.Exts.alloc ?_ _ | with_reducible refine World.Exts.drew ?_ | with_reducible refine World.Exts.drewN ?_ _ | with_reducible refine World.Exts.ext ?_ _ | with_reducible refine World.Exts.setCell ?_ ?_ _ | (simp; done) | exact World.size_ext_le _ _ | (simp; omega)))⟩
          case measure => simp [intOf]; omega
      · have hkn : k = s.trials.length := by omega
        have hA := HA.out
        rw [hkn, List.take_length] at hA
        have HA2 := Lib.hid hA
        clear hA
        clear hkn
        go_wp2_with fail
        go_ret
        exact ⟨by rw [HF2.out, HA2.out]; rfl, (by repeat' (first | with_reducible exact World.Exts.refl _ | with_reducible refine World.Exts.alloc ?_ _ | with_reducible refine World.Exts.drew ?_ | with_reducible refine World.Exts.drewN ?_ _ | with_reducible refine World.Exts.ext ?_ _ | with_reducible refine World.Exts.setCell ?_ ?_ _ | (simp; done) | exact World.size_ext_le _ _ | (simp; omega)))⟩

set_option maxHeartbeats 400000 in
theorem r04_numbers_any (xs : List Int) (v : Value) (most lo hi : Int) (w : World) (hrow : IsRow (fun x : Int => [.int .i64 x]) 1 w v xs) :
    Calls Try.prog 48 #[v, .int .i64 most, .int .i64 lo, .int .i64 hi] w fun e w' => e = .returned (.bool (inAll lo hi xs && decide ((xs.length : Int) ≤ most))) ∧ w.Exts w' := by
  obtain ⟨p, b, o, cap, rfl, hm, hp, hc⟩ := hrow.ex
  have HC := Lib.hid hc
  clear hc
  have HP := Lib.hid hp
  clear hp
  clear hrow
  go_enter Try.func48, Try.ntmps48
  go_wp2_with fail
  go_loopw [9] (fun i wr => ∃ k : Nat, k ≤ xs.length ∧ i = .int .i64 k ∧ Hid (inAll lo hi (xs.take k) = true) ∧ w.Exts wr) (fun i _ => xs.length - (intOf i).toNat)
  case atStart => exact ⟨0, Nat.zero_le _, rfl, rfl, (by repeat' (first | with_reducible exact World.Exts.refl _ | with_reducible refine World.Exts.alloc ?_ _ | with_reducible refine World.Exts.drew ?_ | with_reducible refine World.Exts.drewN ?_ _ | with_reducible refine World.Exts.ext ?_ _ | with_reducible refine World.Exts.setCell ?_ ?_ _ | (simp; done) | exact World.size_ext_le _ _ | (simp; omega)))⟩
  case round =>
    obtain ⟨k, hk, rfl, HA, X, rfl⟩ := hrel
    by_cases hlt : k < xs.length
    · obtain ⟨rfl, hl⟩ := HP.out (by omega)
      obtain ⟨x, hx⟩ := some_of_lt hlt
      have hcs := HC.out k x hx
      have c0 := hcs 0 _ rfl
      simp only [Nat.mul_one, Nat.add_zero] at c0
      have HI := Lib.hid hx
      clear hx
      clear hcs HP
      go_wp2_with (go_at_call 21; refine (r04_within_any _ _ _ _).mono ?_; rintro e w' ⟨rfl, X2, rfl⟩)
      · have hs : (!inb lo hi x) = true := by assumption
        go_ret
        have hf : inAll lo hi xs = false := by
          unfold inAll; rw [List.all_eq_false]; exact ⟨x, List.mem_of_getElem? HI.out, by simpa using hs⟩
        exact ⟨by rw [hf]; rfl, (by repeat' (first | with_reducible exact World.Exts.refl _ | with_reducible refine World.Exts.alloc ?_ _ | with_reducible refine World.Exts.drew ?_ | with_reducible refine World.Exts.drewN ?_ _ | with_reducible refine World.Exts.ext ?_ _ | with_reducible refine World.Exts.setCell ?_ ?_ _ | (simp; done) | exact World.size_ext_le _ _ | (simp; omega)))⟩
      · have hs : (!inb lo hi x) = false := by assumption
        go_roundw
        case rel => exact ⟨k + 1, by omega, by go_num, Lib.hid (by unfold inAll at *; rw [take_snoc HI.out, List.all_append, HA.out]; simpa using hs), (by repeat' (first | with_reducible exact World.Exts.refl _ | with_reducible refine World.Exts.alloc ?_ _ | with_reducible refine World.Exts.drew ?_ | with_reducible refine World.Exts.drewN ?_ _ | with_reducible refine World.Exts.ext ?_ _ | with_reducible refine World.Exts.setCell ?_ ?_ _ | (simp; done) | exact World.size_ext_le _ _ | (simp; omega)))⟩
        case measure => simp [intOf]; omega
    · have hkn : k = xs.length := by omega
      have hA := HA.out
      rw [hkn, List.take_length] at hA
      have HA2 := Lib.hid hA
      clear hA
      clear hkn
      go_wp2_with fail
      go_ret
      exact ⟨by rw [HA2.out]; rfl, (by repeat' (first | with_reducible exact World.Exts.refl _ | with_reducible refine World.Exts.alloc ?_ _ | with_reducible refine World.Exts.drew ?_ | with_reducible refine World.Exts.drewN ?_ _ | with_reducible refine World.Exts.ext ?_ _ | with_reducible refine World.Exts.setCell ?_ ?_ _ | (simp; done) | exact World.size_ext_le _ _ | (simp; omega)))⟩
end Go.Proofs.Ythogfmaclbmgoaa
