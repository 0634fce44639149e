/-
  Walks of package scale: down, bare.
-/
import Derived.Test.YthogfmaclbmgoaaOwn
import Derived.Test.YthogfmaclbmgoaaScB
namespace Go.Proofs.Ythogfmaclbmgoaa
open Go.RowKit Kr

theorem tdiv_cases (a b : Int) (hb : 0 < b) : (a.tdiv b = a / b ∧ 0 ≤ a.tmod b) ∨ (a.tdiv b = a / b + 1 ∧ a.tmod b < 0) := by
  rw [Int.tdiv_eq_ediv, Int.tmod_eq_emod]
  have h1 := Int.emod_nonneg a (show b ≠ 0 by omega)
  have h2 := Int.emod_lt_of_pos a hb
  by_cases h : 0 ≤ a ∨ b ∣ a
  · left; rw [if_pos h, if_pos h]; omega
  · right; rw [if_neg h, if_neg h, Int.sign_eq_one_of_pos hb]; omega

theorem ediv_bounds {a b m : Int} (hb : 0 < b) (hm : 0 ≤ m) (h1 : -m ≤ a) (h2 : a ≤ m) : -m ≤ a / b ∧ a / b ≤ m := by
  have hmb : m ≤ m * b := by
    have := Int.mul_le_mul_of_nonneg_left (show 1 ≤ b by omega) hm
    omega
  constructor
  · apply Int.le_ediv_of_mul_le hb; rw [Int.neg_mul]; omega
  · apply Int.ediv_le_of_le_mul hb; omega

set_option maxHeartbeats 400000 in
theorem scale_down_any (n step : Int) (w : World) (h : -9000000000000 ≤ n ∧ n ≤ 9000000000000) (hs : 1 ≤ step) : Calls Try.prog 20 #[.int .i64 n, .int .i64 step] w fun e w' => e = .returned (.int .i64 (n / step)) ∧ w.Exts w' := by
  have hb := ediv_bounds (a := n) (b := step) (m := 9000000000000) (by omega) (by omega) h.1 h.2
  rcases tdiv_cases n step (by omega) with ⟨h1, h2⟩ | ⟨h1, h2⟩
  all_goals
    go_enter Try.func20, Try.ntmps20
    go_wp2_with fail
    go_ret
    exact ⟨rfl, (by repeat' (first | with_reducible exact World.Exts.refl _ | with_reducible refine World.Exts.alloc ?_ _ | with_reducible refine World.Exts.drew ?_ | with_reducible refine World.Exts.drewN ?_ _ | with_reducible refine World.Exts.ext ?_ _ | with_reducible refine World.Exts.setCell ?_ ?_ _ | (simp; done) | exact World.size_ext_le _ _ | (simp; omega)))⟩

theorem elem_int : ElemOf Try.prog 26 3 (.int .i64 0) 1 8 := ⟨Try.underlying26, by kernel_rfl, rfl, by decide, by decide⟩

set_option maxHeartbeats 2000000 in
theorem scale_bare_any (g : Gear) (lv rv sv : Value) (w : World) (hr : IsRow (fun x : Int => [.int .i64 x]) 1 w rv g.runners) (hs : IsRow (fun x : Int => [.int .i64 x]) 1 w sv g.strokes) (hlen : g.runners.length ≤ 1000 ∧ g.strokes.length ≤ 1000) :
    Calls Try.prog 47 #[.agg #[lv, .int .i64 g.added, .int .i64 g.base, .int .i64 g.jitter, rv, sv, .int .i64 g.spread, .bool g.stamp]] w fun e w' => e = .returned (.bool (bare g)) ∧ w.Exts w' := by
  have hfin : bare g = (inAll 0 1000000 [g.added] && (inAll 0 1000 [g.jitter] && (inAll (-1000) 1000 ([g.base] ++ g.runners) && (inAll 0 2000 ([g.spread] ++ g.strokes) && (decide ((g.runners.length : Int) ≤ 8) && decide ((g.strokes.length : Int) ≤ 8)))))) := by
    have e1 : decide ((g.runners.length : Int) ≤ 8) = decide (g.runners.length ≤ 8) := by rw [Bool.eq_iff_iff]; simp; omega
    have e2 : decide ((g.strokes.length : Int) ≤ 8) = decide (g.strokes.length ≤ 8) := by rw [Bool.eq_iff_iff]; simp; omega
    rw [e1, e2]
    simp [bare, inAll, Bool.and_assoc, Bool.and_comm, Bool.and_left_comm]
  rw [hfin]
  clear hfin
  have HR := Lib.hid hr
  clear hr
  have HS := Lib.hid hs
  clear hs
  obtain ⟨hl1, hl2⟩ := hlen
  obtain ⟨q1, cp1, rfl⟩ := HR.out.len
  obtain ⟨q2, cp2, rfl⟩ := HS.out.len
  cases h1 : inAll 0 1000000 [g.added]
  · have H1 := Lib.hid h1
    clear h1
    go_enter Try.func47, Try.ntmps47
    go_wp2_with (first
      | (go_at_call 19; refine (scale_in_any _ _ _ _ _ HR6.out).mono ?_; rintro e w' ⟨rfl, X2, rfl⟩; (fail))
      | (go_at_call 19; refine (scale_in_any _ _ _ _ _ HR5.out).mono ?_; rintro e w' ⟨rfl, X2, rfl⟩; (fail))
      | (go_at_call 19; refine (scale_in_any _ _ _ _ _ (row_int1 _ _ _ (by simp))).mono ?_; rintro e w' ⟨rfl, X2, rfl⟩; (rw [H1.out]))
      | (at_builtin; refine wpList_append_lit (.tmp 16) (.tmp 18) (zs := [g.base]) (ys := g.runners) (enc := fun x : Int => [.int .i64 x]) elem_int rfl rfl _ (by simp) rfl rfl rfl (HR.out.mono (by repeat' (first | with_reducible exact World.Exts.refl _ | with_reducible refine World.Exts.alloc ?_ _ | with_reducible refine World.Exts.drew ?_ | with_reducible refine World.Exts.drewN ?_ _ | with_reducible refine World.Exts.ext ?_ _ | with_reducible refine World.Exts.setCell ?_ ?_ _ | (simp; done) | exact World.size_ext_le _ _ | (simp; omega)))) (fun _ => rfl) (fun _ u hu => by simp at hu; first | (subst hu; rfl) | (rcases hu with rfl | rfl <;> rfl) | (rcases hu with rfl | rfl | rfl <;> rfl)) (by simp; omega) ?_; intro v' X5 hr5; have HR5 := Lib.hid hr5; clear hr5)
      | (at_builtin; refine wpList_append_lit (.tmp 25) (.tmp 27) (zs := [g.spread]) (ys := g.strokes) (enc := fun x : Int => [.int .i64 x]) elem_int rfl rfl _ (by simp) rfl rfl rfl (HS.out.mono (by repeat' (first | with_reducible exact World.Exts.refl _ | with_reducible refine World.Exts.alloc ?_ _ | with_reducible refine World.Exts.drew ?_ | with_reducible refine World.Exts.drewN ?_ _ | with_reducible refine World.Exts.ext ?_ _ | with_reducible refine World.Exts.setCell ?_ ?_ _ | (simp; done) | exact World.size_ext_le _ _ | (simp; omega)))) (fun _ => rfl) (fun _ u hu => by simp at hu; first | (subst hu; rfl) | (rcases hu with rfl | rfl <;> rfl) | (rcases hu with rfl | rfl | rfl <;> rfl)) (by simp; omega) ?_; intro v6 X6 hr6; have HR6 := Lib.hid hr6; clear hr6))
    go_ret
    exact ⟨rfl, (by repeat' (first | with_reducible exact World.Exts.refl _ | with_reducible refine World.Exts.alloc ?_ _ | with_reducible refine World.Exts.drew ?_ | with_reducible refine World.Exts.drewN ?_ _ | with_reducible refine World.Exts.ext ?_ _ | with_reducible refine World.Exts.setCell ?_ ?_ _ | (simp; done) | exact World.size_ext_le _ _ | (simp; omega)))⟩
  cases h2 : inAll 0 1000 [g.jitter]
  · have H1 := Lib.hid h1
    clear h1
    have H2 := Lib.hid h2
    clear h2
    go_enter Try.func47, Try.ntmps47
    go_wp2_with (first
      | (go_at_call 19; refine (scale_in_any _ _ _ _ _ HR6.out).mono ?_; rintro e w' ⟨rfl, X2, rfl⟩; (fail))
      | (go_at_call 19; refine (scale_in_any _ _ _ _ _ HR5.out).mono ?_; rintro e w' ⟨rfl, X2, rfl⟩; (fail))
      | (go_at_call 19; refine (scale_in_any _ _ _ _ _ (row_int1 _ _ _ (by simp))).mono ?_; rintro e w' ⟨rfl, X2, rfl⟩; (first | rw [H1.out] | rw [H2.out]))
      | (at_builtin; refine wpList_append_lit (.tmp 16) (.tmp 18) (zs := [g.base]) (ys := g.runners) (enc := fun x : Int => [.int .i64 x]) elem_int rfl rfl _ (by simp) rfl rfl rfl (HR.out.mono (by repeat' (first | with_reducible exact World.Exts.refl _ | with_reducible refine World.Exts.alloc ?_ _ | with_reducible refine World.Exts.drew ?_ | with_reducible refine World.Exts.drewN ?_ _ | with_reducible refine World.Exts.ext ?_ _ | with_reducible refine World.Exts.setCell ?_ ?_ _ | (simp; done) | exact World.size_ext_le _ _ | (simp; omega)))) (fun _ => rfl) (fun _ u hu => by simp at hu; first | (subst hu; rfl) | (rcases hu with rfl | rfl <;> rfl) | (rcases hu with rfl | rfl | rfl <;> rfl)) (by simp; omega) ?_; intro v' X5 hr5; have HR5 := Lib.hid hr5; clear hr5)
      | (at_builtin; refine wpList_append_lit (.tmp 25) (.tmp 27) (zs := [g.spread]) (ys := g.strokes) (enc := fun x : Int => [.int .i64 x]) elem_int rfl rfl _ (by simp) rfl rfl rfl (HS.out.mono (by repeat' (first | with_reducible exact World.Exts.refl _ | with_reducible refine World.Exts.alloc ?_ _ | with_reducible refine World.Exts.drew ?_ | with_reducible refine World.Exts.drewN ?_ _ | with_reducible refine World.Exts.ext ?_ _ | with_reducible refine World.Exts.setCell ?_ ?_ _ | (simp; done) | exact World.size_ext_le _ _ | (simp; omega)))) (fun _ => rfl) (fun _ u hu => by simp at hu; first | (subst hu; rfl) | (rcases hu with rfl | rfl <;> rfl) | (rcases hu with rfl | rfl | rfl <;> rfl)) (by simp; omega) ?_; intro v6 X6 hr6; have HR6 := Lib.hid hr6; clear hr6))
    go_ret
    exact ⟨rfl, (by repeat' (first | with_reducible exact World.Exts.refl _ | with_reducible refine World.Exts.alloc ?_ _ | with_reducible refine World.Exts.drew ?_ | with_reducible refine World.Exts.drewN ?_ _ | with_reducible refine World.Exts.ext ?_ _ | with_reducible refine World.Exts.setCell ?_ ?_ _ | (simp; done) | exact World.size_ext_le _ _ | (simp; omega)))⟩
  cases h3 : inAll (-1000) 1000 ([g.base] ++ g.runners)
  · have H1 := Lib.hid h1
    clear h1
    have H2 := Lib.hid h2
    clear h2
    have H3 := Lib.hid h3
    clear h3
    go_enter Try.func47, Try.ntmps47
    go_wp2_with (first
      | (go_at_call 19; refine (scale_in_any _ _ _ _ _ HR6.out).mono ?_; rintro e w' ⟨rfl, X2, rfl⟩; (fail))
      | (go_at_call 19; refine (scale_in_any _ _ _ _ _ HR5.out).mono ?_; rintro e w' ⟨rfl, X2, rfl⟩; (rw [H3.out]))
      | (go_at_call 19; refine (scale_in_any _ _ _ _ _ (row_int1 _ _ _ (by simp))).mono ?_; rintro e w' ⟨rfl, X2, rfl⟩; (first | rw [H1.out] | rw [H2.out]))
      | (at_builtin; refine wpList_append_lit (.tmp 16) (.tmp 18) (zs := [g.base]) (ys := g.runners) (enc := fun x : Int => [.int .i64 x]) elem_int rfl rfl _ (by simp) rfl rfl rfl (HR.out.mono (by repeat' (first | with_reducible exact World.Exts.refl _ | with_reducible refine World.Exts.alloc ?_ _ | with_reducible refine World.Exts.drew ?_ | with_reducible refine World.Exts.drewN ?_ _ | with_reducible refine World.Exts.ext ?_ _ | with_reducible refine World.Exts.setCell ?_ ?_ _ | (simp; done) | exact World.size_ext_le _ _ | (simp; omega)))) (fun _ => rfl) (fun _ u hu => by simp at hu; first | (subst hu; rfl) | (rcases hu with rfl | rfl <;> rfl) | (rcases hu with rfl | rfl | rfl <;> rfl)) (by simp; omega) ?_; intro v' X5 hr5; have HR5 := Lib.hid hr5; clear hr5)
      | (at_builtin; refine wpList_append_lit (.tmp 25) (.tmp 27) (zs := [g.spread]) (ys := g.strokes) (enc := fun x : Int => [.int .i64 x]) elem_int rfl rfl _ (by simp) rfl rfl rfl (HS.out.mono (by repeat' (first | with_reducible exact World.Exts.refl _ | with_reducible refine World.Exts.alloc ?_ _ | with_reducible refine World.Exts.drew ?_ | with_reducible refine World.Exts.drewN ?_ _ | with_reducible refine World.Exts.ext ?_ _ | with_reducible refine World.Exts.setCell ?_ ?_ _ | (simp; done) | exact World.size_ext_le _ _ | (simp; omega)))) (fun _ => rfl) (fun _ u hu => by simp at hu; first | (subst hu; rfl) | (rcases hu with rfl | rfl <;> rfl) | (rcases hu with rfl | rfl | rfl <;> rfl)) (by simp; omega) ?_; intro v6 X6 hr6; have HR6 := Lib.hid hr6; clear hr6))
    go_ret
    exact ⟨rfl, (by repeat' (first | with_reducible exact World.Exts.refl _ | with_reducible refine World.Exts.alloc ?_ _ | with_reducible refine World.Exts.drew ?_ | with_reducible refine World.Exts.drewN ?_ _ | with_reducible refine World.Exts.ext ?_ _ | with_reducible refine World.Exts.setCell ?_ ?_ _ | (simp; done) | exact World.size_ext_le _ _ | (simp; omega)))⟩
  cases h4 : inAll 0 2000 ([g.spread] ++ g.strokes)
  · have H1 := Lib.hid h1
    clear h1
    have H2 := Lib.hid h2
    clear h2
    have H3 := Lib.hid h3
    clear h3
    have H4 := Lib.hid h4
    clear h4
    go_enter Try.func47, Try.ntmps47
    go_wp2_with (first
      | (go_at_call 19; refine (scale_in_any _ _ _ _ _ HR6.out).mono ?_; rintro e w' ⟨rfl, X2, rfl⟩; (rw [H4.out]))
      | (go_at_call 19; refine (scale_in_any _ _ _ _ _ HR5.out).mono ?_; rintro e w' ⟨rfl, X2, rfl⟩; (rw [H3.out]))
      | (go_at_call 19; refine (scale_in_any _ _ _ _ _ (row_int1 _ _ _ (by simp))).mono ?_; rintro e w' ⟨rfl, X2, rfl⟩; (first | rw [H1.out] | rw [H2.out]))
      | (at_builtin; refine wpList_append_lit (.tmp 16) (.tmp 18) (zs := [g.base]) (ys := g.runners) (enc := fun x : Int => [.int .i64 x]) elem_int rfl rfl _ (by simp) rfl rfl rfl (HR.out.mono (by repeat' (first | with_reducible exact World.Exts.refl _ | with_reducible refine World.Exts.alloc ?_ _ | with_reducible refine World.Exts.drew ?_ | with_reducible refine World.Exts.drewN ?_ _ | with_reducible refine World.Exts.ext ?_ _ | with_reducible refine World.Exts.setCell ?_ ?_ _ | (simp; done) | exact World.size_ext_le _ _ | (simp; omega)))) (fun _ => rfl) (fun _ u hu => by simp at hu; first | (subst hu; rfl) | (rcases hu with rfl | rfl <;> rfl) | (rcases hu with rfl | rfl | rfl <;> rfl)) (by simp; omega) ?_; intro v' X5 hr5; have HR5 := Lib.hid hr5; clear hr5)
      | (at_builtin; refine wpList_append_lit (.tmp 25) (.tmp 27) (zs := [g.spread]) (ys := g.strokes) (enc := fun x : Int => [.int .i64 x]) elem_int rfl rfl _ (by simp) rfl rfl rfl (HS.out.mono (by repeat' (first | with_reducible exact World.Exts.refl _ | with_reducible refine World.Exts.alloc ?_ _ | with_reducible refine World.Exts.drew ?_ | with_reducible refine World.Exts.drewN ?_ _ | with_reducible refine World.Exts.ext ?_ _ | with_reducible refine World.Exts.setCell ?_ ?_ _ | (simp; done) | exact World.size_ext_le _ _ | (simp; omega)))) (fun _ => rfl) (fun _ u hu => by simp at hu; first | (subst hu; rfl) | (rcases hu with rfl | rfl <;> rfl) | (rcases hu with rfl | rfl | rfl <;> rfl)) (by simp; omega) ?_; intro v6 X6 hr6; have HR6 := Lib.hid hr6; clear hr6))
    go_ret
    exact ⟨rfl, (by repeat' (first | with_reducible exact World.Exts.refl _ | with_reducible refine World.Exts.alloc ?_ _ | with_reducible refine World.Exts.drew ?_ | with_reducible refine World.Exts.drewN ?_ _ | with_reducible refine World.Exts.ext ?_ _ | with_reducible refine World.Exts.setCell ?_ ?_ _ | (simp; done) | exact World.size_ext_le _ _ | (simp; omega)))⟩
  have H1 := Lib.hid h1
  clear h1
  have H2 := Lib.hid h2
  clear h2
  have H3 := Lib.hid h3
  clear h3
  have H4 := Lib.hid h4
  clear h4
  cases h5 : decide ((g.runners.length : Int) ≤ 8)
  · go_enter Try.func47, Try.ntmps47
    go_wp2_with (first
      | (go_at_call 19; refine (scale_in_any _ _ _ _ _ HR6.out).mono ?_; rintro e w' ⟨rfl, X2, rfl⟩; (rw [H4.out]))
      | (go_at_call 19; refine (scale_in_any _ _ _ _ _ HR5.out).mono ?_; rintro e w' ⟨rfl, X2, rfl⟩; (rw [H3.out]))
      | (go_at_call 19; refine (scale_in_any _ _ _ _ _ (row_int1 _ _ _ (by simp))).mono ?_; rintro e w' ⟨rfl, X2, rfl⟩; (first | rw [H1.out] | rw [H2.out]))
      | (at_builtin; refine wpList_append_lit (.tmp 16) (.tmp 18) (zs := [g.base]) (ys := g.runners) (enc := fun x : Int => [.int .i64 x]) elem_int rfl rfl _ (by simp) rfl rfl rfl (HR.out.mono (by repeat' (first | with_reducible exact World.Exts.refl _ | with_reducible refine World.Exts.alloc ?_ _ | with_reducible refine World.Exts.drew ?_ | with_reducible refine World.Exts.drewN ?_ _ | with_reducible refine World.Exts.ext ?_ _ | with_reducible refine World.Exts.setCell ?_ ?_ _ | (simp; done) | exact World.size_ext_le _ _ | (simp; omega)))) (fun _ => rfl) (fun _ u hu => by simp at hu; first | (subst hu; rfl) | (rcases hu with rfl | rfl <;> rfl) | (rcases hu with rfl | rfl | rfl <;> rfl)) (by simp; omega) ?_; intro v' X5 hr5; have HR5 := Lib.hid hr5; clear hr5)
      | (at_builtin; refine wpList_append_lit (.tmp 25) (.tmp 27) (zs := [g.spread]) (ys := g.strokes) (enc := fun x : Int => [.int .i64 x]) elem_int rfl rfl _ (by simp) rfl rfl rfl (HS.out.mono (by repeat' (first | with_reducible exact World.Exts.refl _ | with_reducible refine World.Exts.alloc ?_ _ | with_reducible refine World.Exts.drew ?_ | with_reducible refine World.Exts.drewN ?_ _ | with_reducible refine World.Exts.ext ?_ _ | with_reducible refine World.Exts.setCell ?_ ?_ _ | (simp; done) | exact World.size_ext_le _ _ | (simp; omega)))) (fun _ => rfl) (fun _ u hu => by simp at hu; first | (subst hu; rfl) | (rcases hu with rfl | rfl <;> rfl) | (rcases hu with rfl | rfl | rfl <;> rfl)) (by simp; omega) ?_; intro v6 X6 hr6; have HR6 := Lib.hid hr6; clear hr6))
    go_ret
    exact ⟨rfl, (by repeat' (first | with_reducible exact World.Exts.refl _ | with_reducible refine World.Exts.alloc ?_ _ | with_reducible refine World.Exts.drew ?_ | with_reducible refine World.Exts.drewN ?_ _ | with_reducible refine World.Exts.ext ?_ _ | with_reducible refine World.Exts.setCell ?_ ?_ _ | (simp; done) | exact World.size_ext_le _ _ | (simp; omega)))⟩
  · go_enter Try.func47, Try.ntmps47
    go_wp2_with (first
      | (go_at_call 19; refine (scale_in_any _ _ _ _ _ HR6.out).mono ?_; rintro e w' ⟨rfl, X2, rfl⟩; (rw [H4.out]))
      | (go_at_call 19; refine (scale_in_any _ _ _ _ _ HR5.out).mono ?_; rintro e w' ⟨rfl, X2, rfl⟩; (rw [H3.out]))
      | (go_at_call 19; refine (scale_in_any _ _ _ _ _ (row_int1 _ _ _ (by simp))).mono ?_; rintro e w' ⟨rfl, X2, rfl⟩; (first | rw [H1.out] | rw [H2.out]))
      | (at_builtin; refine wpList_append_lit (.tmp 16) (.tmp 18) (zs := [g.base]) (ys := g.runners) (enc := fun x : Int => [.int .i64 x]) elem_int rfl rfl _ (by simp) rfl rfl rfl (HR.out.mono (by repeat' (first | with_reducible exact World.Exts.refl _ | with_reducible refine World.Exts.alloc ?_ _ | with_reducible refine World.Exts.drew ?_ | with_reducible refine World.Exts.drewN ?_ _ | with_reducible refine World.Exts.ext ?_ _ | with_reducible refine World.Exts.setCell ?_ ?_ _ | (simp; done) | exact World.size_ext_le _ _ | (simp; omega)))) (fun _ => rfl) (fun _ u hu => by simp at hu; first | (subst hu; rfl) | (rcases hu with rfl | rfl <;> rfl) | (rcases hu with rfl | rfl | rfl <;> rfl)) (by simp; omega) ?_; intro v' X5 hr5; have HR5 := Lib.hid hr5; clear hr5)
      | (at_builtin; refine wpList_append_lit (.tmp 25) (.tmp 27) (zs := [g.spread]) (ys := g.strokes) (enc := fun x : Int => [.int .i64 x]) elem_int rfl rfl _ (by simp) rfl rfl rfl (HS.out.mono (by repeat' (first | with_reducible exact World.Exts.refl _ | with_reducible refine World.Exts.alloc ?_ _ | with_reducible refine World.Exts.drew ?_ | with_reducible refine World.Exts.drewN ?_ _ | with_reducible refine World.Exts.ext ?_ _ | with_reducible refine World.Exts.setCell ?_ ?_ _ | (simp; done) | exact World.size_ext_le _ _ | (simp; omega)))) (fun _ => rfl) (fun _ u hu => by simp at hu; first | (subst hu; rfl) | (rcases hu with rfl | rfl <;> rfl) | (rcases hu with rfl | rfl | rfl <;> rfl)) (by simp; omega) ?_; intro v6 X6 hr6; have HR6 := Lib.hid hr6; clear hr6))
    go_ret
    exact ⟨rfl, (by repeat' (first | with_reducible exact World.Exts.refl _ | with_reducible refine World.Exts.alloc ?_ _ | with_reducible refine World.Exts.drew ?_ | with_reducible refine World.Exts.drewN ?_ _ | with_reducible refine World.Exts.ext ?_ _ | with_reducible refine World.Exts.setCell ?_ ?_ _ | (simp; done) | exact World.size_ext_le _ _ | (simp; omega)))⟩
end Go.Proofs.Ythogfmaclbmgoaa
