/-
  Several texts in one: see the heads of its parts.
-/

import Derived.Test.YtcickafaomfbmaaGreatDoorZSJesFuncs
import Derived.Test.YtcickafaomfbmaaGreatDoorZSJesBs
/-
  Walks of package scale: whether numbers are in a span, whether a scale is valid.
-/
namespace Go.Proofs.YtcickafaomfbmaaGreatDoor
open Go.RowKit Kr

set_option maxHeartbeats 400000 in
theorem scale_in_1_any (n lo hi : Int) (b1 b2 : Nat) (w : World) (h1 : w.cell? ⟨b1, 0, none⟩ = some (.int .i64 lo)) (h2 : w.cell? ⟨b2, 0, none⟩ = some (.int .i64 hi)) :
    Calls Tryz.prog 124 #[.int .i64 n, .pointer (some ⟨b1, 0, none⟩), .pointer (some ⟨b2, 0, none⟩)] w fun e w' => e = .returned (.bool (!inb lo hi n)) ∧ w.Exts w' := by
  by_cases h : n < lo
  all_goals
    go_enter Tryz.func124, Tryz.ntmps124
    go_wp2
    go_ret
    exact ⟨congrArg Ending.returned (congrArg Value.bool (by unfold inb; rw [Bool.eq_iff_iff]; simp; omega)), exq⟩

theorem inAll_any (lo hi : Int) (xs : List Int) : inAll lo hi xs = !(xs.any fun n => !inb lo hi n) := by
  unfold inAll; rw [List.all_eq_not_any_not]

set_option maxHeartbeats 400000 in
theorem scale_in_any (lo hi : Int) (v : Value) (xs : List Int) (w : World) (hrow : IsRow (fun x : Int => [.int .i64 x]) 1 w v xs) :
    Calls Tryz.prog 89 #[.int .i64 lo, .int .i64 hi, v] w fun e w' => e = .returned (.bool (inAll lo hi xs)) ∧ w.Exts w' := by
  have HR := Lib.hid hrow
  clear hrow
  go_enter Tryz.func89, Tryz.ntmps89
  go_wp2_with (go_at_call 82; refine (ContainsFunc_int_any xs (fun n => !inb lo hi n) _ _ v _ ((HR.out.alloc _).alloc _) (enters_of Tryz.func124 (by kernel_rfl) rfl) (answers2 fun x _ W hW => scale_in_1_any x lo hi _ _ W (hW.cell (by simp)) (hW.cell (by simp)))).mono ?_; rintro e w' ⟨rfl, X2, rfl⟩)
  go_ret
  exact ⟨by rw [inAll_any]; rfl, exq⟩

theorem row_int1 (w : World) (x : Int) (n : Nat) (hn : n = w.heap.size) : IsRow (fun x : Int => [.int .i64 x]) 1 (w.alloc (.cells #[.int .i64 x] 3)) (.slice (some ⟨n, 0, none⟩) 1 1) [x] := by
  subst hn
  exact ⟨_, w.heap.size, 0, 1, rfl, by simp, fun _ => ⟨rfl, lays_new _ _⟩, fun i y hy j u hu => by
    match i, hy with
    | 0, hy => simp at hy; subst hy; match j, hu with | 0, hu => simp at hu; subst hu; simp⟩
theorem row_int2 (w : World) (x y : Int) (n : Nat) (hn : n = w.heap.size) : IsRow (fun x : Int => [.int .i64 x]) 1 (w.alloc (.cells #[.int .i64 x, .int .i64 y] 3)) (.slice (some ⟨n, 0, none⟩) 2 2) [x, y] := by
  subst hn
  exact ⟨_, w.heap.size, 0, 2, rfl, by simp, fun _ => ⟨rfl, lays_new _ _⟩, fun i z hz j u hu => by
    match i, hz with
    | 0, hz => simp at hz; subst hz; match j, hu with | 0, hu => simp at hu; subst hu; simp
    | 1, hz => simp at hz; subst hz; match j, hu with | 0, hu => simp at hu; subst hu; simp⟩

set_option maxHeartbeats 400000 in
theorem scale_ordered_any (s : Span) (lo hi : Int) (w : World) :
    Calls Tryz.prog 88 #[.agg #[.int .i64 s.lo, .int .i64 s.hi], .int .i64 lo, .int .i64 hi] w fun e w' => e = .returned (.bool (ordered s lo hi)) ∧ w.Exts w' := by
  cases hb : inAll lo hi [s.lo, s.hi]
  all_goals
    have HB := Lib.hid hb
    clear hb
    go_enter Tryz.func88, Tryz.ntmps88
    go_wp2_with (go_at_call 89; refine (scale_in_any lo hi _ [s.lo, s.hi] _ (row_int2 _ _ _ _ (by simp))).mono ?_; rintro e w' ⟨rfl, X2, rfl⟩; rw [HB.out])
    go_ret
    have hb := HB.out
    exact ⟨congrArg Ending.returned (congrArg Value.bool (by simp [inAll, inb] at hb; unfold ordered; rw [Bool.eq_iff_iff]; simp; omega)), exq⟩

set_option maxHeartbeats 400000 in
theorem scale_shown_any (n step : Int) (w : World) (hs : 1 ≤ step) :
    Calls Tryz.prog 122 #[.int .i64 n, .int .i64 step] w fun e w' => e = .returned (.bool (shownB n step)) ∧ w.Exts w' := by
  cases hb : inAll (-2000000) 2000000 [n]
  all_goals
    have HB := Lib.hid hb
    clear hb
    go_enter Tryz.func122, Tryz.ntmps122
    go_wp2_with (go_at_call 89; refine (scale_in_any (-2000000) 2000000 _ [n] _ (row_int1 _ _ _ (by simp))).mono ?_; rintro e w' ⟨rfl, X2, rfl⟩; rw [HB.out])
    go_ret
    have hb := HB.out
    exact ⟨congrArg Ending.returned (congrArg Value.bool (by simp [inAll] at hb; unfold shownB; simp [hb])), exq⟩
end Go.Proofs.YtcickafaomfbmaaGreatDoor

/-
  Walks of package scale: whether a scale is valid.
-/
namespace Go.Proofs.YtcickafaomfbmaaGreatDoor
open Go.RowKit Kr

set_option maxHeartbeats 400000 in
theorem scale_right_1_any (t : Trial) (step : Int) (b : Nat) (w : World) (hb : w.cell? ⟨b, 1, none⟩ = some (.int .i64 step)) (hs : 1 ≤ step) :
    Calls Tryz.prog 155 #[.agg #[.int .i64 t.weight, .int .i64 t.shown], .pointer (some ⟨b, 0, none⟩)] w fun e w' => e = .returned (.bool (!trialOk step t)) ∧ w.Exts w' := by
  haveI := Lays.of_cell hb
  cases h0 : inAll 0 1000000 [t.weight]
  all_goals
    have HB := Lib.hid h0
    clear h0
    go_enter Tryz.func155, Tryz.ntmps155
    go_wp2_with (first
      | (go_at_call 89; refine (scale_in_any 0 1000000 _ [t.weight] _ (row_int1 _ _ _ (by simp))).mono ?_; rintro e w' ⟨rfl, X2, rfl⟩; rw [HB.out])
      | (go_at_call 122; refine (scale_shown_any _ _ _ hs).mono ?_; rintro e w' ⟨rfl, X3, rfl⟩))
    go_ret
    have hb := HB.out
    exact ⟨congrArg Ending.returned (congrArg Value.bool (by simp [inAll] at hb; unfold trialOk; simp [hb])), exq⟩

set_option maxHeartbeats 1000000 in
theorem scale_right_any (s : Scale) (tv : Value) (w : World) (hrow : IsRow (fun t : Kr.Trial => [.int .i64 t.weight, .int .i64 t.shown]) 2 w tv s.trials) :
    Calls Tryz.prog 120 #[.agg #[.int .i64 s.id, .int .i64 s.step, .int .i64 s.gain.lo, .int .i64 s.gain.hi, .int .i64 s.off.lo, .int .i64 s.off.hi, tv]] w fun e w' => e = .returned (.bool (right s)) ∧ w.Exts w' := by
  have HR := Lib.hid hrow
  clear hrow
  obtain ⟨p, cap, htv⟩ := HR.out.len
  subst htv
  cases h1 : inAll 0 9999 [s.id]
  · have H1 := Lib.hid h1
    clear h1
    go_enter Tryz.func120, Tryz.ntmps120
    go_wp2_with (go_at_call 89; refine (scale_in_any _ _ _ _ _ (row_int1 _ _ _ (by simp))).mono ?_; rintro e w' ⟨rfl, X2, rfl⟩; rw [H1.out])
    go_ret
    have h := H1.out
    exact ⟨congrArg Ending.returned (congrArg Value.bool (by simp [inAll] at h; unfold right; simp [h])), exq⟩
  cases h2 : inAll 1 500 [s.step]
  · have H1 := Lib.hid h1
    have H2 := Lib.hid h2
    clear h1 h2
    go_enter Tryz.func120, Tryz.ntmps120
    go_wp2_with (go_at_call 89; refine (scale_in_any _ _ _ _ _ (row_int1 _ _ _ (by simp))).mono ?_; rintro e w' ⟨rfl, X2, rfl⟩; first | rw [H1.out] | rw [H2.out])
    go_ret
    have h := H2.out
    exact ⟨congrArg Ending.returned (congrArg Value.bool (by simp [inAll] at h; unfold right; simp [h])), exq⟩
  cases h3 : ordered s.gain (-10) 10
  · have H1 := Lib.hid h1
    have H2 := Lib.hid h2
    have H3 := Lib.hid h3
    clear h1 h2 h3
    go_enter Tryz.func120, Tryz.ntmps120
    go_wp2_with (first
      | (go_at_call 89; refine (scale_in_any _ _ _ _ _ (row_int1 _ _ _ (by simp))).mono ?_; rintro e w' ⟨rfl, X2, rfl⟩; first | rw [H1.out] | rw [H2.out])
      | (go_at_call 88; refine (scale_ordered_any _ _ _ _).mono ?_; rintro e w' ⟨rfl, X2, rfl⟩; rw [H3.out]))
    go_ret
    have h := H3.out
    exact ⟨congrArg Ending.returned (congrArg Value.bool (by unfold right; simp [h])), exq⟩
  cases h4 : ordered s.off (-100) 100
  · have H1 := Lib.hid h1
    have H2 := Lib.hid h2
    have H3 := Lib.hid h3
    have H4 := Lib.hid h4
    clear h1 h2 h3 h4
    go_enter Tryz.func120, Tryz.ntmps120
    go_wp2_with (first
      | (go_at_call 89; refine (scale_in_any _ _ _ _ _ (row_int1 _ _ _ (by simp))).mono ?_; rintro e w' ⟨rfl, X2, rfl⟩; first | rw [H1.out] | rw [H2.out])
      | (go_at_call 88; refine (scale_ordered_any _ _ _ _).mono ?_; rintro e w' ⟨rfl, X2, rfl⟩; first | rw [H3.out] | rw [H4.out]))
    go_ret
    have h := H4.out
    exact ⟨congrArg Ending.returned (congrArg Value.bool (by unfold right; simp [h])), exq⟩
  have hstep : 1 ≤ s.step := by simp [inAll, inb] at h2; omega
  have hfin : right s = (decide (s.trials.length ≤ 6) && !(s.trials.any fun t => !trialOk s.step t)) := by
    simp [inAll] at h1 h2
    unfold right
    rw [h1, h2, h3, h4, List.all_eq_not_any_not]
    simp
  have H1 := Lib.hid h1
  have H2 := Lib.hid h2
  have H3 := Lib.hid h3
  have H4 := Lib.hid h4
  have HF := Lib.hid hfin
  clear h1 h2 h3 h4 hfin
  by_cases hl : s.trials.length ≤ 6
  all_goals
    go_enter Tryz.func120, Tryz.ntmps120
    go_wp2_with (first
      | (go_at_call 89; refine (scale_in_any _ _ _ _ _ (row_int1 _ _ _ (by simp))).mono ?_; rintro e w' ⟨rfl, X2, rfl⟩; first | rw [H1.out] | rw [H2.out])
      | (go_at_call 88; refine (scale_ordered_any _ _ _ _).mono ?_; rintro e w' ⟨rfl, X2, rfl⟩; first | rw [H3.out] | rw [H4.out])
      | (go_at_call 156; refine (ContainsFunc_Trial_any s.trials (fun t => !trialOk s.step t) _ _ _ _ (HR.out.mono exq) (enters_of Tryz.func155 (by kernel_rfl) rfl) (answers1 fun t _ W hW => scale_right_1_any t s.step _ W (hW.cell (by simp [go_sem])) hstep)).mono ?_; rintro e w' ⟨rfl, X2, rfl⟩))
    go_ret
    exact ⟨by rw [HF.out]; simp [hl], exq⟩
end Go.Proofs.YtcickafaomfbmaaGreatDoor

/-
  Walks of package scale: down, bare.
-/
namespace Go.Proofs.YtcickafaomfbmaaGreatDoor
open Go.RowKit Kr

theorem tdiv_cases (a b : Int) (hb : 0 < b) : (a.tdiv b = a / b ∧ 0 ≤ a.tmod b) ∨ (a.tdiv b = a / b + 1 ∧ a.tmod b < 0) := by
  rw [Int.tdiv_eq_ediv, Int.tmod_eq_emod]
  have h1 := Int.emod_nonneg a (show b ≠ 0 by omega)
  have h2 := Int.emod_lt_of_pos a hb
  by_cases h : 0 ≤ a ∨ b ∣ a
  · left; rw [if_pos h, if_pos h]; omega
  · right; rw [if_neg h, if_neg h, Int.sign_eq_one_of_pos hb]; omega

theorem ediv_bounds {a b m : Int} (hb : 0 < b) (hm : 0 ≤ m) (h1 : -m ≤ a) (h2 : a ≤ m) : -m ≤ a / b ∧ a / b ≤ m := by
  have hmb : m ≤ m * b := by
    have := Int.mul_le_mul_of_nonneg_left (show 1 ≤ b by omega) hm
    omega
  constructor
  · apply Int.le_ediv_of_mul_le hb; rw [Int.neg_mul]; omega
  · apply Int.ediv_le_of_le_mul hb; omega

set_option maxHeartbeats 400000 in
theorem scale_down_any (n step : Int) (w : World) (h : -9000000000000 ≤ n ∧ n ≤ 9000000000000) (hs : 1 ≤ step) : Calls Tryz.prog 162 #[.int .i64 n, .int .i64 step] w fun e w' => e = .returned (.int .i64 (n / step)) ∧ w.Exts w' := by
  have hb := ediv_bounds (a := n) (b := step) (m := 9000000000000) (by omega) (by omega) h.1 h.2
  rcases tdiv_cases n step (by omega) with ⟨h1, h2⟩ | ⟨h1, h2⟩
  all_goals
    go_enter Tryz.func162, Tryz.ntmps162
    go_wp2_with fail
    go_ret
    exact ⟨rfl, exq⟩

theorem elem_int : ElemOf Tryz.prog 45 3 (.int .i64 0) 1 8 := ⟨Tryz.underlying45, by kernel_rfl, rfl, by decide, by decide⟩

set_option maxHeartbeats 2000000 in
theorem scale_bare_any (g : Gear) (lv rv sv : Value) (w : World) (hr : IsRow (fun x : Int => [.int .i64 x]) 1 w rv g.runners) (hs : IsRow (fun x : Int => [.int .i64 x]) 1 w sv g.strokes) (hlen : g.runners.length ≤ 1000 ∧ g.strokes.length ≤ 1000) :
    Calls Tryz.prog 95 #[.agg #[lv, .int .i64 g.added, .int .i64 g.base, .int .i64 g.jitter, rv, sv, .int .i64 g.spread, .bool g.stamp]] w fun e w' => e = .returned (.bool (bare g)) ∧ w.Exts w' := by
  have hfin : bare g = (inAll 0 1000000 [g.added] && (inAll 0 1000 [g.jitter] && (inAll (-1000) 1000 ([g.base] ++ g.runners) && (inAll 0 2000 ([g.spread] ++ g.strokes) && (decide ((g.runners.length : Int) ≤ 8) && decide ((g.strokes.length : Int) ≤ 8)))))) := by
    have e1 : decide ((g.runners.length : Int) ≤ 8) = decide (g.runners.length ≤ 8) := by rw [Bool.eq_iff_iff]; simp; omega
    have e2 : decide ((g.strokes.length : Int) ≤ 8) = decide (g.strokes.length ≤ 8) := by rw [Bool.eq_iff_iff]; simp; omega
    rw [e1, e2]
    simp [bare, inAll, Bool.and_assoc, Bool.and_comm, Bool.and_left_comm]
  rw [hfin]
  clear hfin
  have HR := Lib.hid hr
  clear hr
  have HS := Lib.hid hs
  clear hs
  obtain ⟨hl1, hl2⟩ := hlen
  obtain ⟨q1, cp1, rfl⟩ := HR.out.len
  obtain ⟨q2, cp2, rfl⟩ := HS.out.len
  cases h1 : inAll 0 1000000 [g.added]
  · have H1 := Lib.hid h1
    clear h1
    go_enter Tryz.func95, Tryz.ntmps95
    go_wp2_with (first
      | (go_at_call 89; refine (scale_in_any _ _ _ _ _ HR6.out).mono ?_; rintro e w' ⟨rfl, X2, rfl⟩; (fail))
      | (go_at_call 89; refine (scale_in_any _ _ _ _ _ HR5.out).mono ?_; rintro e w' ⟨rfl, X2, rfl⟩; (fail))
      | (go_at_call 89; refine (scale_in_any _ _ _ _ _ (row_int1 _ _ _ (by simp))).mono ?_; rintro e w' ⟨rfl, X2, rfl⟩; (rw [H1.out]))
      | (at_builtin; refine wpList_append_lit (.tmp 16) (.tmp 18) (zs := [g.base]) (ys := g.runners) (enc := fun x : Int => [.int .i64 x]) elem_int rfl rfl _ (by simp) rfl rfl rfl (HR.out.mono exq) (fun _ => rfl) (fun _ u hu => by simp at hu; first | (subst hu; rfl) | (rcases hu with rfl | rfl <;> rfl) | (rcases hu with rfl | rfl | rfl <;> rfl)) (by simp; omega) ?_; intro v' X5 hr5; have HR5 := Lib.hid hr5; clear hr5)
      | (at_builtin; refine wpList_append_lit (.tmp 25) (.tmp 27) (zs := [g.spread]) (ys := g.strokes) (enc := fun x : Int => [.int .i64 x]) elem_int rfl rfl _ (by simp) rfl rfl rfl (HS.out.mono exq) (fun _ => rfl) (fun _ u hu => by simp at hu; first | (subst hu; rfl) | (rcases hu with rfl | rfl <;> rfl) | (rcases hu with rfl | rfl | rfl <;> rfl)) (by simp; omega) ?_; intro v6 X6 hr6; have HR6 := Lib.hid hr6; clear hr6))
    go_ret
    exact ⟨rfl, exq⟩
  cases h2 : inAll 0 1000 [g.jitter]
  · have H1 := Lib.hid h1
    clear h1
    have H2 := Lib.hid h2
    clear h2
    go_enter Tryz.func95, Tryz.ntmps95
    go_wp2_with (first
      | (go_at_call 89; refine (scale_in_any _ _ _ _ _ HR6.out).mono ?_; rintro e w' ⟨rfl, X2, rfl⟩; (fail))
      | (go_at_call 89; refine (scale_in_any _ _ _ _ _ HR5.out).mono ?_; rintro e w' ⟨rfl, X2, rfl⟩; (fail))
      | (go_at_call 89; refine (scale_in_any _ _ _ _ _ (row_int1 _ _ _ (by simp))).mono ?_; rintro e w' ⟨rfl, X2, rfl⟩; (first | rw [H1.out] | rw [H2.out]))
      | (at_builtin; refine wpList_append_lit (.tmp 16) (.tmp 18) (zs := [g.base]) (ys := g.runners) (enc := fun x : Int => [.int .i64 x]) elem_int rfl rfl _ (by simp) rfl rfl rfl (HR.out.mono exq) (fun _ => rfl) (fun _ u hu => by simp at hu; first | (subst hu; rfl) | (rcases hu with rfl | rfl <;> rfl) | (rcases hu with rfl | rfl | rfl <;> rfl)) (by simp; omega) ?_; intro v' X5 hr5; have HR5 := Lib.hid hr5; clear hr5)
      | (at_builtin; refine wpList_append_lit (.tmp 25) (.tmp 27) (zs := [g.spread]) (ys := g.strokes) (enc := fun x : Int => [.int .i64 x]) elem_int rfl rfl _ (by simp) rfl rfl rfl (HS.out.mono exq) (fun _ => rfl) (fun _ u hu => by simp at hu; first | (subst hu; rfl) | (rcases hu with rfl | rfl <;> rfl) | (rcases hu with rfl | rfl | rfl <;> rfl)) (by simp; omega) ?_; intro v6 X6 hr6; have HR6 := Lib.hid hr6; clear hr6))
    go_ret
    exact ⟨rfl, exq⟩
  cases h3 : inAll (-1000) 1000 ([g.base] ++ g.runners)
  · have H1 := Lib.hid h1
    clear h1
    have H2 := Lib.hid h2
    clear h2
    have H3 := Lib.hid h3
    clear h3
    go_enter Tryz.func95, Tryz.ntmps95
    go_wp2_with (first
      | (go_at_call 89; refine (scale_in_any _ _ _ _ _ HR6.out).mono ?_; rintro e w' ⟨rfl, X2, rfl⟩; (fail))
      | (go_at_call 89; refine (scale_in_any _ _ _ _ _ HR5.out).mono ?_; rintro e w' ⟨rfl, X2, rfl⟩; (rw [H3.out]))
      | (go_at_call 89; refine (scale_in_any _ _ _ _ _ (row_int1 _ _ _ (by simp))).mono ?_; rintro e w' ⟨rfl, X2, rfl⟩; (first | rw [H1.out] | rw [H2.out]))
      | (at_builtin; refine wpList_append_lit (.tmp 16) (.tmp 18) (zs := [g.base]) (ys := g.runners) (enc := fun x : Int => [.int .i64 x]) elem_int rfl rfl _ (by simp) rfl rfl rfl (HR.out.mono exq) (fun _ => rfl) (fun _ u hu => by simp at hu; first | (subst hu; rfl) | (rcases hu with rfl | rfl <;> rfl) | (rcases hu with rfl | rfl | rfl <;> rfl)) (by simp; omega) ?_; intro v' X5 hr5; have HR5 := Lib.hid hr5; clear hr5)
      | (at_builtin; refine wpList_append_lit (.tmp 25) (.tmp 27) (zs := [g.spread]) (ys := g.strokes) (enc := fun x : Int => [.int .i64 x]) elem_int rfl rfl _ (by simp) rfl rfl rfl (HS.out.mono exq) (fun _ => rfl) (fun _ u hu => by simp at hu; first | (subst hu; rfl) | (rcases hu with rfl | rfl <;> rfl) | (rcases hu with rfl | rfl | rfl <;> rfl)) (by simp; omega) ?_; intro v6 X6 hr6; have HR6 := Lib.hid hr6; clear hr6))
    go_ret
    exact ⟨rfl, exq⟩
  cases h4 : inAll 0 2000 ([g.spread] ++ g.strokes)
  · have H1 := Lib.hid h1
    clear h1
    have H2 := Lib.hid h2
    clear h2
    have H3 := Lib.hid h3
    clear h3
    have H4 := Lib.hid h4
    clear h4
    go_enter Tryz.func95, Tryz.ntmps95
    go_wp2_with (first
      | (go_at_call 89; refine (scale_in_any _ _ _ _ _ HR6.out).mono ?_; rintro e w' ⟨rfl, X2, rfl⟩; (rw [H4.out]))
      | (go_at_call 89; refine (scale_in_any _ _ _ _ _ HR5.out).mono ?_; rintro e w' ⟨rfl, X2, rfl⟩; (rw [H3.out]))
      | (go_at_call 89; refine (scale_in_any _ _ _ _ _ (row_int1 _ _ _ (by simp))).mono ?_; rintro e w' ⟨rfl, X2, rfl⟩; (first | rw [H1.out] | rw [H2.out]))
      | (at_builtin; refine wpList_append_lit (.tmp 16) (.tmp 18) (zs := [g.base]) (ys := g.runners) (enc := fun x : Int => [.int .i64 x]) elem_int rfl rfl _ (by simp) rfl rfl rfl (HR.out.mono exq) (fun _ => rfl) (fun _ u hu => by simp at hu; first | (subst hu; rfl) | (rcases hu with rfl | rfl <;> rfl) | (rcases hu with rfl | rfl | rfl <;> rfl)) (by simp; omega) ?_; intro v' X5 hr5; have HR5 := Lib.hid hr5; clear hr5)
      | (at_builtin; refine wpList_append_lit (.tmp 25) (.tmp 27) (zs := [g.spread]) (ys := g.strokes) (enc := fun x : Int => [.int .i64 x]) elem_int rfl rfl _ (by simp) rfl rfl rfl (HS.out.mono exq) (fun _ => rfl) (fun _ u hu => by simp at hu; first | (subst hu; rfl) | (rcases hu with rfl | rfl <;> rfl) | (rcases hu with rfl | rfl | rfl <;> rfl)) (by simp; omega) ?_; intro v6 X6 hr6; have HR6 := Lib.hid hr6; clear hr6))
    go_ret
    exact ⟨rfl, exq⟩
  have H1 := Lib.hid h1
  clear h1
  have H2 := Lib.hid h2
  clear h2
  have H3 := Lib.hid h3
  clear h3
  have H4 := Lib.hid h4
  clear h4
  cases h5 : decide ((g.runners.length : Int) ≤ 8)
  · go_enter Tryz.func95, Tryz.ntmps95
    go_wp2_with (first
      | (go_at_call 89; refine (scale_in_any _ _ _ _ _ HR6.out).mono ?_; rintro e w' ⟨rfl, X2, rfl⟩; (rw [H4.out]))
      | (go_at_call 89; refine (scale_in_any _ _ _ _ _ HR5.out).mono ?_; rintro e w' ⟨rfl, X2, rfl⟩; (rw [H3.out]))
      | (go_at_call 89; refine (scale_in_any _ _ _ _ _ (row_int1 _ _ _ (by simp))).mono ?_; rintro e w' ⟨rfl, X2, rfl⟩; (first | rw [H1.out] | rw [H2.out]))
      | (at_builtin; refine wpList_append_lit (.tmp 16) (.tmp 18) (zs := [g.base]) (ys := g.runners) (enc := fun x : Int => [.int .i64 x]) elem_int rfl rfl _ (by simp) rfl rfl rfl (HR.out.mono exq) (fun _ => rfl) (fun _ u hu => by simp at hu; first | (subst hu; rfl) | (rcases hu with rfl | rfl <;> rfl) | (rcases hu with rfl | rfl | rfl <;> rfl)) (by simp; omega) ?_; intro v' X5 hr5; have HR5 := Lib.hid hr5; clear hr5)
      | (at_builtin; refine wpList_append_lit (.tmp 25) (.tmp 27) (zs := [g.spread]) (ys := g.strokes) (enc := fun x : Int => [.int .i64 x]) elem_int rfl rfl _ (by simp) rfl rfl rfl (HS.out.mono exq) (fun _ => rfl) (fun _ u hu => by simp at hu; first | (subst hu; rfl) | (rcases hu with rfl | rfl <;> rfl) | (rcases hu with rfl | rfl | rfl <;> rfl)) (by simp; omega) ?_; intro v6 X6 hr6; have HR6 := Lib.hid hr6; clear hr6))
    go_ret
    exact ⟨rfl, exq⟩
  · go_enter Tryz.func95, Tryz.ntmps95
    go_wp2_with (first
      | (go_at_call 89; refine (scale_in_any _ _ _ _ _ HR6.out).mono ?_; rintro e w' ⟨rfl, X2, rfl⟩; (rw [H4.out]))
      | (go_at_call 89; refine (scale_in_any _ _ _ _ _ HR5.out).mono ?_; rintro e w' ⟨rfl, X2, rfl⟩; (rw [H3.out]))
      | (go_at_call 89; refine (scale_in_any _ _ _ _ _ (row_int1 _ _ _ (by simp))).mono ?_; rintro e w' ⟨rfl, X2, rfl⟩; (first | rw [H1.out] | rw [H2.out]))
      | (at_builtin; refine wpList_append_lit (.tmp 16) (.tmp 18) (zs := [g.base]) (ys := g.runners) (enc := fun x : Int => [.int .i64 x]) elem_int rfl rfl _ (by simp) rfl rfl rfl (HR.out.mono exq) (fun _ => rfl) (fun _ u hu => by simp at hu; first | (subst hu; rfl) | (rcases hu with rfl | rfl <;> rfl) | (rcases hu with rfl | rfl | rfl <;> rfl)) (by simp; omega) ?_; intro v' X5 hr5; have HR5 := Lib.hid hr5; clear hr5)
      | (at_builtin; refine wpList_append_lit (.tmp 25) (.tmp 27) (zs := [g.spread]) (ys := g.strokes) (enc := fun x : Int => [.int .i64 x]) elem_int rfl rfl _ (by simp) rfl rfl rfl (HS.out.mono exq) (fun _ => rfl) (fun _ u hu => by simp at hu; first | (subst hu; rfl) | (rcases hu with rfl | rfl <;> rfl) | (rcases hu with rfl | rfl | rfl <;> rfl)) (by simp; omega) ?_; intro v6 X6 hr6; have HR6 := Lib.hid hr6; clear hr6))
    go_ret
    exact ⟨rfl, exq⟩
end Go.Proofs.YtcickafaomfbmaaGreatDoor
