/-
  Walks of package scale: whether a scale is valid.
-/
import Derived.Test.YthogfmaclbmgoaaScA
namespace Go.Proofs.Ythogfmaclbmgoaa
open Go.RowKit Kr

set_option maxHeartbeats 400000 in
theorem scale_right_1_any (t : Trial) (step : Int) (b : Nat) (w : World) (hb : w.cell? ⟨b, 1, none⟩ = some (.int .i64 step)) (hs : 1 ≤ step) :
    Calls Try.prog 28 #[.agg #[.int .i64 t.weight, .int .i64 t.shown], .pointer (some ⟨b, 0, none⟩)] w fun e w' => e = .returned (.bool (!trialOk step t)) ∧ w.Exts w' := by
  haveI := Lays.of_cell hb
  cases h0 : inAll 0 1000000 [t.weight]
  all_goals
    have HB := Lib.hid h0
    clear h0
    go_enter Try.func28, Try.ntmps28
    go_wp2_with (first
      | (go_at_call 19; refine (scale_in_any 0 1000000 _ [t.weight] _ (row_int1 _ _ _ (by simp))).mono ?_; rintro e w' ⟨rfl, X2, rfl⟩; rw [HB.out])
      | (go_at_call 29; refine (scale_shown_any _ _ _ hs).mono ?_; rintro e w' ⟨rfl, X3, rfl⟩))
    go_ret
    have hb := HB.out
    exact ⟨congrArg Ending.returned (congrArg Value.bool (by simp [inAll] at hb; unfold trialOk; simp [hb])), (by repeat' (first | with_reducible exact World.Exts.refl _ | with_reducible refine World.Exts.alloc ?_ _ | with_reducible refine World.Exts.drew ?_ | with_reducible refine World.Exts.drewN ?_ _ | with_reducible refine World.Exts.ext ?_ _ | with_reducible refine World.Exts.setCell ?_ ?_ _ | (simp; done) | exact World.size_ext_le _ _ | (simp; omega)))⟩

set_option maxHeartbeats 1000000 in
theorem scale_right_any (s : Scale) (tv : Value) (w : World) (hrow : IsRow (fun t : Kr.Trial => [.int .i64 t.weight, .int .i64 t.shown]) 2 w tv s.trials) :
    Calls Try.prog 14 #[.agg #[.int .i64 s.id, .int .i64 s.step, .int .i64 s.gain.lo, .int .i64 s.gain.hi, .int .i64 s.off.lo, .int .i64 s.off.hi, tv]] w fun e w' => e = .returned (.bool (right s)) ∧ w.Exts w' := by
  have HR := Lib.hid hrow
  clear hrow
  obtain ⟨p, cap, htv⟩ := HR.out.len
  subst htv
  cases h1 : inAll 0 9999 [s.id]
  · have H1 := Lib.hid h1
    clear h1
    go_enter Try.func14, Try.ntmps14
    go_wp2_with (go_at_call 19; refine (scale_in_any _ _ _ _ _ (row_int1 _ _ _ (by simp))).mono ?_; rintro e w' ⟨rfl, X2, rfl⟩; rw [H1.out])
    go_ret
    have h := H1.out
    exact ⟨congrArg Ending.returned (congrArg Value.bool (by simp [inAll] at h; unfold right; simp [h])), (by repeat' (first | with_reducible exact World.Exts.refl _ | with_reducible refine World.Exts.alloc ?_ _ | with_reducible refine World.Exts.drew ?_ | with_reducible refine World.Exts.drewN ?_ _ | with_reducible refine World.Exts.ext ?_ _ | with_reducible refine World.Exts.setCell ?_ ?_ _ | (simp; done) | exact World.size_ext_le _ _ | (simp; omega)))⟩
  cases h2 : inAll 1 500 [s.step]
  · have H1 := Lib.hid h1
    have H2 := Lib.hid h2
    clear h1 h2
    go_enter Try.func14, Try.ntmps14
    go_wp2_with (go_at_call 19; refine (scale_in_any _ _ _ _ _ (row_int1 _ _ _ (by simp))).mono ?_; rintro e w' ⟨rfl, X2, rfl⟩; first | rw [H1.out] | rw [H2.out])
    go_ret
    have h := H2.out
    exact ⟨congrArg Ending.returned (congrArg Value.bool (by simp [inAll] at h; unfold right; simp [h])), (by repeat' (first | with_reducible exact World.Exts.refl _ | with_reducible refine World.Exts.alloc ?_ _ | with_reducible refine World.Exts.drew ?_ | with_reducible refine World.Exts.drewN ?_ _ | with_reducible refine World.Exts.ext ?_ _ | with_reducible refine World.Exts.setCell ?_ ?_ _ | (simp; done) | exact World.size_ext_le _ _ | (simp; omega)))⟩
  cases h3 : ordered s.gain (-10) 10
  · have H1 := Lib.hid h1
    have H2 := Lib.hid h2
    have H3 := Lib.hid h3
    clear h1 h2 h3
    go_enter Try.func14, Try.ntmps14
    go_wp2_with (first
      | (go_at_call 19; refine (scale_in_any _ _ _ _ _ (row_int1 _ _ _ (by simp))).mono ?_; rintro e w' ⟨rfl, X2, rfl⟩; first | rw [H1.out] | rw [H2.out])
      | (go_at_call 27; refine (scale_ordered_any _ _ _ _).mono ?_; rintro e w' ⟨rfl, X2, rfl⟩; rw [H3.out]))
    go_ret
    have h := H3.out
    exact ⟨congrArg Ending.returned (congrArg Value.bool (by unfold right; simp [h])), (by repeat' (first | with_reducible exact World.Exts.refl _ | with_reducible refine World.Exts.alloc ?_ _ | with_reducible refine World.Exts.drew ?_ | with_reducible refine World.Exts.drewN ?_ _ | with_reducible refine World.Exts.ext ?_ _ | with_reducible refine World.Exts.setCell ?_ ?_ _ | (simp; done) | exact World.size_ext_le _ _ | (simp; omega)))⟩
  cases h4 : ordered s.off (-100) 100
  · have H1 := Lib.hid h1
    have H2 := Lib.hid h2
    have H3 := Lib.hid h3
    have H4 := Lib.hid h4
    clear h1 h2 h3 h4
    go_enter Try.func14, Try.ntmps14
    go_wp2_with (first
      | (go_at_call 19; refine (scale_in_any _ _ _ _ _ (row_int1 _ _ _ (by simp))).mono ?_; rintro e w' ⟨rfl, X2, rfl⟩; first | rw [H1.out] | rw [H2.out])
      | (go_at_call 27; refine (scale_ordered_any _ _ _ _).mono ?_; rintro e w' ⟨rfl, X2, rfl⟩; first | rw [H3.out] | rw [H4.out]))
    go_ret
    have h := H4.out
    exact ⟨congrArg Ending.returned (congrArg Value.bool (by unfold right; simp [h])), (by repeat' (first | with_reducible exact World.Exts.refl _ | with_reducible refine World.Exts.alloc ?_ _ | with_reducible refine World.Exts.drew ?_ | with_reducible refine World.Exts.drewN ?_ _ | with_reducible refine World.Exts.ext ?_ _ | with_reducible refine World.Exts.setCell ?_ ?_ _ | (simp; done) | exact World.size_ext_le _ _ | (simp; omega)))⟩
  have hstep : 1 ≤ s.step := by simp [inAll, inb] at h2; omega
  have hfin : right s = (decide (s.trials.length ≤ 6) && !(s.trials.any fun t => !trialOk s.step t)) := by
    simp [inAll] at h1 h2
    unfold right
    rw [h1, h2, h3, h4, List.all_eq_not_any_not]
    simp
  have H1 := Lib.hid h1
  have H2 := Lib.hid h2
  have H3 := Lib.hid h3
  have H4 := Lib.hid h4
  have HF := Lib.hid hfin
  clear h1 h2 h3 h4 hfin
  by_cases hl : s.trials.length ≤ 6
  all_goals
    go_enter Try.func14, Try.ntmps14
    go_wp2_with (first
      | (go_at_call 19; refine (scale_in_any _ _ _ _ _ (row_int1 _ _ _ (by simp))).mono ?_; rintro e w' ⟨rfl, X2, rfl⟩; first | rw [H1.out] | rw [H2.out])
      | (go_at_call 27; refine (scale_ordered_any _ _ _ _).mono ?_; rintro e w' ⟨rfl, X2, rfl⟩; first | rw [H3.out] | rw [H4.out])
      | (go_at_call 30; refine (ContainsFunc_Trial_any s.trials (fun t => !trialOk s.step t) _ _ _ _ (HR.out.mono (by repeat' (first | with_reducible exact World.Exts.refl _ | with_reducible refine World.Exts.alloc ?_ _ | with_reducible refine World.Exts.drew ?_ | with_reducible refine World.Exts.drewN ?_ _ | with_reducible refine World.Exts.ext ?_ _ | with_reducible refine World.Exts.setCell ?_ ?_ _ | (simp; done) | exact World.size_ext_le _ _ | (simp; omega)))) (enters_of Try.func28 (by kernel_rfl) rfl) (answers1 fun t _ W hW => scale_right_1_any t s.step _ W (hW.cell (by simp [go_sem])) hstep)).mono ?_; rintro e w' ⟨rfl, X2, rfl⟩))
    go_ret
    exact ⟨by rw [HF.out]; simp [hl], (by repeat' (first | with_reducible exact World.Exts.refl _ | with_reducible refine World.Exts.alloc ?_ _ | with_reducible refine World.Exts.drew ?_ | with_reducible refine World.Exts.drewN ?_ _ | with_reducible refine World.Exts.ext ?_ _ | with_reducible refine World.Exts.setCell ?_ ?_ _ | (simp; done) | exact World.size_ext_le _ _ | (simp; omega)))⟩
end Go.Proofs.Ythogfmaclbmgoaa
