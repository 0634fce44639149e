/-
  Several texts in one: see the heads of its parts.
-/

import Derived.Test.YtcickafaomfbmaaGreatDoorZSBksIcF
import Derived.Test.YtcickafaomfbmaaGreatDoorZSBksTq
import Derived.BigRegion
/-
  Walks of package ice: Check, open, planned, asked.
-/
namespace Go.Proofs.YtcickafaomfbmaaGreatDoor
open Go.RowKit Kr
set_option linter.unusedSimpArgs false
set_option linter.unusedVariables false

theorem any_not {α : Type} (f : α → Bool) (l : List α) : (l.any fun x => !f x) = !l.all f := by rw [List.all_eq_not_any_not]; simp

theorem ice_Check_1_any (b : Kr.Bed) (w : World) : Calls Tryz.prog 150 #[.agg #[.int .i64 b.thick.lo, .int .i64 b.thick.hi, .int .i64 b.sun]] w fun e w' => e = .returned (.bool (!bedOk b)) ∧ w.Exts w' := by
  obtain ⟨⟨tlo, thi⟩, sun⟩ := b
  obtain ⟨g1, e1⟩ : ∃ z, ordered ⟨tlo, thi⟩ 0 2000 = z := ⟨_, rfl⟩
  obtain ⟨g2, e2⟩ : ∃ z, inAll 0 9 [sun] = z := ⟨_, rfl⟩
  have hok : bedOk ⟨⟨tlo, thi⟩, sun⟩ = (g1 && g2) := by unfold bedOk; dsimp only; rw [e1, ← inAll_single, e2]
  rw [hok]
  clear hok
  have HE1 := Lib.hid e1
  clear e1
  have HE2 := Lib.hid e2
  clear e2
  cases g1 <;> cases g2
  all_goals
    go_enter Tryz.func150, Tryz.ntmps150
    go_wp2_with (first
      | (go_at_call 151; ((with_reducible refine (ice_ordered_any ⟨tlo, thi⟩ 0 2000 _).mono ?_); rintro e w' ⟨rfl, X5, rfl⟩; rw [HE1.out]))
      | (go_at_call 38; ((with_reducible refine (ice_in_any 0 9 _ [sun] _ (row_int1 _ _ _ (by simp))).mono ?_); rintro e w' ⟨rfl, X7, rfl⟩; rw [HE2.out])))
    go_ret
    exact ⟨rfl, exq⟩
theorem ice_Check_2_any (b : Kr.Hour) (w : World) : Calls Tryz.prog 152 #[.agg #[.int .i64 b.melt.lo, .int .i64 b.melt.hi, .int .i64 b.runs, .int .i64 b.crew, .bool b.cold]] w fun e w' => e = .returned (.bool (!hourOk b)) ∧ w.Exts w' := by
  obtain ⟨⟨mlo, mhi⟩, runs, crew, cold⟩ := b
  obtain ⟨g1, e1⟩ : ∃ z, ordered ⟨mlo, mhi⟩ 0 50 = z := ⟨_, rfl⟩
  obtain ⟨g2, e2⟩ : ∃ z, inAll 0 60 [runs] = z := ⟨_, rfl⟩
  obtain ⟨g3, e3⟩ : ∃ z, inAll 0 12 [crew] = z := ⟨_, rfl⟩
  have hok : hourOk ⟨⟨mlo, mhi⟩, runs, crew, cold⟩ = (g1 && (g2 && g3)) := by unfold hourOk; dsimp only; rw [e1, ← inAll_single, e2, ← inAll_single, e3]
  rw [hok]
  clear hok
  have HE1 := Lib.hid e1
  clear e1
  have HE2 := Lib.hid e2
  clear e2
  have HE3 := Lib.hid e3
  clear e3
  cases g1 <;> cases g2 <;> cases g3
  all_goals
    go_enter Tryz.func152, Tryz.ntmps152
    go_wp2_with (first
      | (go_at_call 151; ((with_reducible refine (ice_ordered_any ⟨mlo, mhi⟩ 0 50 _).mono ?_); rintro e w' ⟨rfl, X5, rfl⟩; rw [HE1.out]))
      | (go_at_call 38; ((with_reducible refine (ice_in_any 0 60 _ [runs] _ (row_int1 _ _ _ (by simp))).mono ?_); rintro e w' ⟨rfl, X7, rfl⟩; rw [HE2.out]))
      | (go_at_call 38; ((with_reducible refine (ice_in_any 0 12 _ [crew] _ (row_int1 _ _ _ (by simp))).mono ?_); rintro e w' ⟨rfl, X8, rfl⟩; rw [HE3.out])))
    go_ret
    exact ⟨rfl, exq⟩

set_option maxRecDepth 4000 in
set_option maxHeartbeats 8000000 in
theorem ice_Check_any (c : Kr.Cover) (v : CoverV) (w : World) (h : CoverAt w c v) (hsd : ∀ s ∈ c.track, 0 ≤ s.side ∧ s.side ≤ 255) :
    Calls Tryz.prog 118 #[.agg #[v.t, v.b, v.h, .int .i64 c.wear.lo, .int .i64 c.wear.hi, .int .i64 c.layer.lo, .int .i64 c.layer.hi, .int .i64 c.rate, .int .i64 c.limit, .int .i64 c.base]] w fun e w' => e = .returned (.int .i64 (coverErr c)) ∧ w.Exts w' := by
  have ht := fun (W : World) (hE : w.Exts W) => track_Check_any c.track v.t W (h.tr.mono hE) hsd
  obtain ⟨trk, beds, hours, ⟨wlo, whi⟩, ⟨ylo, yhi⟩, rate, limit, base⟩ := c
  obtain ⟨vt, vb, vh⟩ := v
  obtain ⟨qt, ct, hqt⟩ := h.tr.len
  obtain ⟨qb, cb, hqb⟩ := h.bd.len
  obtain ⟨qh, ch, hqh⟩ := h.hr.len
  dsimp only at hqt hqb hqh
  subst hqt hqb hqh
  have hbd := h.bd
  have hhr := h.hr
  clear h hsd
  dsimp only at hbd hhr ht ⊢
  obtain ⟨b0, e0⟩ : ∃ z, trackB trk = z := ⟨_, rfl⟩
  obtain ⟨b1, e1⟩ : ∃ z, decide (beds.length = trk.length) = z := ⟨_, rfl⟩
  obtain ⟨b2, e2⟩ : ∃ z, inAll 1 8 [(hours.length : Int)] = z := ⟨_, rfl⟩
  obtain ⟨b3, e3⟩ : ∃ z, ordered ⟨wlo, whi⟩ 0 20 = z := ⟨_, rfl⟩
  obtain ⟨b4, e4⟩ : ∃ z, ordered ⟨ylo, yhi⟩ 1 100 = z := ⟨_, rfl⟩
  obtain ⟨b5, e5⟩ : ∃ z, inAll 0 100 [rate] = z := ⟨_, rfl⟩
  obtain ⟨b6, e6⟩ : ∃ z, inAll 0 2000 [limit] = z := ⟨_, rfl⟩
  obtain ⟨b7, e7⟩ : ∃ z, inAll 0 limit [base] = z := ⟨_, rfl⟩
  have hab := any_not bedOk beds
  have hah := any_not hourOk hours
  have hf : coverErr ⟨trk, beds, hours, ⟨wlo, whi⟩, ⟨ylo, yhi⟩, rate, limit, base⟩ = if b0 then (if (b1 && (b2 && ((b3 && (b4 && (b5 && (b6 && b7)))) && (beds.all bedOk && hours.all hourOk)))) then 0 else 20) else 10 := by
    unfold coverErr iceB restOk
    dsimp only
    rw [e0, e1, e3, e4, ← inAll_single, e2, ← inAll_single, e5, ← inAll_single, e6, ← inAll_single, e7]
  rw [e0] at ht
  generalize beds.all bedOk = ab at hab hf
  generalize hours.all hourOk = ah at hah hf
  have f1 : decide ((beds.length : Int) = (trk.length : Int)) = b1 := by rw [← e1, decide_eq_decide]; omega
  have f2 : ((beds.length : Int) == (trk.length : Int)) = b1 := by rw [← f1]; rfl
  have f3 : ((beds.length : Int) != (trk.length : Int)) = !b1 := by rw [← f2]; rfl
  clear e0 e1
  have HT := Lib.hid ht
  clear ht
  have HF := Lib.hid hf
  clear hf
  have HBD := Lib.hid hbd
  clear hbd
  have HHR := Lib.hid hhr
  clear hhr
  have HAB := Lib.hid hab
  clear hab
  have HAH := Lib.hid hah
  clear hah
  have HE2 := Lib.hid e2
  clear e2
  have HE3 := Lib.hid e3
  clear e3
  have HE4 := Lib.hid e4
  clear e4
  have HE5 := Lib.hid e5
  clear e5
  have HE6 := Lib.hid e6
  clear e6
  have HE7 := Lib.hid e7
  clear e7
  cases b0
  case false =>
    go_enter Tryz.func118, Tryz.ntmps118
    go_wp2_with (first
      | (go_at_call 149; refine (HT.out _ exq).mono ?_; rintro e w' ⟨rfl, X1, rfl⟩)
      | (go_at_call 38; ((with_reducible refine (ice_in_any 1 8 _ [(hours.length : Int)] _ (row_int1 _ _ _ (by simp))).mono ?_); rintro e w' ⟨rfl, X2, rfl⟩; rw [HE2.out]))
      | (go_at_call 153; refine (ContainsFunc_Bed_any beds (fun b => !bedOk b) _ _ _ _ (HBD.out.mono exq) (enters_of Tryz.func150 (by kernel_rfl) rfl) (answers0 fun b _ W hW => ice_Check_1_any b W)).mono ?_; rintro e w' ⟨rfl, X3, rfl⟩; rw [HAB.out])
      | (go_at_call 154; refine (ContainsFunc_Hour_any hours (fun b => !hourOk b) _ _ _ _ (HHR.out.mono exq) (enters_of Tryz.func152 (by kernel_rfl) rfl) (answers0 fun b _ W hW => ice_Check_2_any b W)).mono ?_; rintro e w' ⟨rfl, X4, rfl⟩; rw [HAH.out])
      | (go_at_call 151; ((with_reducible refine (ice_ordered_any ⟨wlo, whi⟩ 0 20 _).mono ?_); rintro e w' ⟨rfl, X5, rfl⟩; rw [HE3.out]))
      | (go_at_call 151; ((with_reducible refine (ice_ordered_any ⟨ylo, yhi⟩ 1 100 _).mono ?_); rintro e w' ⟨rfl, X6, rfl⟩; rw [HE4.out]))
      | (go_at_call 38; ((with_reducible refine (ice_in_any 0 100 _ [rate] _ (row_int1 _ _ _ (by simp))).mono ?_); rintro e w' ⟨rfl, X7, rfl⟩; rw [HE5.out]))
      | (go_at_call 38; ((with_reducible refine (ice_in_any 0 2000 _ [limit] _ (row_int1 _ _ _ (by simp))).mono ?_); rintro e w' ⟨rfl, X8, rfl⟩; rw [HE6.out]))
      | (go_at_call 38; ((with_reducible refine (ice_in_any 0 limit _ [base] _ (row_int1 _ _ _ (by simp))).mono ?_); rintro e w' ⟨rfl, X9, rfl⟩; rw [HE7.out])))
    go_ret
    exact ⟨by rw [HF.out]; simp, exq⟩
  cases b1
  case false =>
    go_enter Tryz.func118, Tryz.ntmps118
    go_wp2_with (first
      | (go_at_call 149; refine (HT.out _ exq).mono ?_; rintro e w' ⟨rfl, X1, rfl⟩)
      | (go_at_call 38; ((with_reducible refine (ice_in_any 1 8 _ [(hours.length : Int)] _ (row_int1 _ _ _ (by simp))).mono ?_); rintro e w' ⟨rfl, X2, rfl⟩; rw [HE2.out]))
      | (go_at_call 153; refine (ContainsFunc_Bed_any beds (fun b => !bedOk b) _ _ _ _ (HBD.out.mono exq) (enters_of Tryz.func150 (by kernel_rfl) rfl) (answers0 fun b _ W hW => ice_Check_1_any b W)).mono ?_; rintro e w' ⟨rfl, X3, rfl⟩; rw [HAB.out])
      | (go_at_call 154; refine (ContainsFunc_Hour_any hours (fun b => !hourOk b) _ _ _ _ (HHR.out.mono exq) (enters_of Tryz.func152 (by kernel_rfl) rfl) (answers0 fun b _ W hW => ice_Check_2_any b W)).mono ?_; rintro e w' ⟨rfl, X4, rfl⟩; rw [HAH.out])
      | (go_at_call 151; ((with_reducible refine (ice_ordered_any ⟨wlo, whi⟩ 0 20 _).mono ?_); rintro e w' ⟨rfl, X5, rfl⟩; rw [HE3.out]))
      | (go_at_call 151; ((with_reducible refine (ice_ordered_any ⟨ylo, yhi⟩ 1 100 _).mono ?_); rintro e w' ⟨rfl, X6, rfl⟩; rw [HE4.out]))
      | (go_at_call 38; ((with_reducible refine (ice_in_any 0 100 _ [rate] _ (row_int1 _ _ _ (by simp))).mono ?_); rintro e w' ⟨rfl, X7, rfl⟩; rw [HE5.out]))
      | (go_at_call 38; ((with_reducible refine (ice_in_any 0 2000 _ [limit] _ (row_int1 _ _ _ (by simp))).mono ?_); rintro e w' ⟨rfl, X8, rfl⟩; rw [HE6.out]))
      | (go_at_call 38; ((with_reducible refine (ice_in_any 0 limit _ [base] _ (row_int1 _ _ _ (by simp))).mono ?_); rintro e w' ⟨rfl, X9, rfl⟩; rw [HE7.out])))
    go_ret
    exact ⟨by rw [HF.out]; simp, exq⟩
  cases b2
  case false =>
    go_enter Tryz.func118, Tryz.ntmps118
    go_wp2_with (first
      | (go_at_call 149; refine (HT.out _ exq).mono ?_; rintro e w' ⟨rfl, X1, rfl⟩)
      | (go_at_call 38; ((with_reducible refine (ice_in_any 1 8 _ [(hours.length : Int)] _ (row_int1 _ _ _ (by simp))).mono ?_); rintro e w' ⟨rfl, X2, rfl⟩; rw [HE2.out]))
      | (go_at_call 153; refine (ContainsFunc_Bed_any beds (fun b => !bedOk b) _ _ _ _ (HBD.out.mono exq) (enters_of Tryz.func150 (by kernel_rfl) rfl) (answers0 fun b _ W hW => ice_Check_1_any b W)).mono ?_; rintro e w' ⟨rfl, X3, rfl⟩; rw [HAB.out])
      | (go_at_call 154; refine (ContainsFunc_Hour_any hours (fun b => !hourOk b) _ _ _ _ (HHR.out.mono exq) (enters_of Tryz.func152 (by kernel_rfl) rfl) (answers0 fun b _ W hW => ice_Check_2_any b W)).mono ?_; rintro e w' ⟨rfl, X4, rfl⟩; rw [HAH.out])
      | (go_at_call 151; ((with_reducible refine (ice_ordered_any ⟨wlo, whi⟩ 0 20 _).mono ?_); rintro e w' ⟨rfl, X5, rfl⟩; rw [HE3.out]))
      | (go_at_call 151; ((with_reducible refine (ice_ordered_any ⟨ylo, yhi⟩ 1 100 _).mono ?_); rintro e w' ⟨rfl, X6, rfl⟩; rw [HE4.out]))
      | (go_at_call 38; ((with_reducible refine (ice_in_any 0 100 _ [rate] _ (row_int1 _ _ _ (by simp))).mono ?_); rintro e w' ⟨rfl, X7, rfl⟩; rw [HE5.out]))
      | (go_at_call 38; ((with_reducible refine (ice_in_any 0 2000 _ [limit] _ (row_int1 _ _ _ (by simp))).mono ?_); rintro e w' ⟨rfl, X8, rfl⟩; rw [HE6.out]))
      | (go_at_call 38; ((with_reducible refine (ice_in_any 0 limit _ [base] _ (row_int1 _ _ _ (by simp))).mono ?_); rintro e w' ⟨rfl, X9, rfl⟩; rw [HE7.out])))
    go_ret
    exact ⟨by rw [HF.out]; simp, exq⟩
  cases ab
  case false =>
    go_enter Tryz.func118, Tryz.ntmps118
    go_wp2_with (first
      | (go_at_call 149; refine (HT.out _ exq).mono ?_; rintro e w' ⟨rfl, X1, rfl⟩)
      | (go_at_call 38; ((with_reducible refine (ice_in_any 1 8 _ [(hours.length : Int)] _ (row_int1 _ _ _ (by simp))).mono ?_); rintro e w' ⟨rfl, X2, rfl⟩; rw [HE2.out]))
      | (go_at_call 153; refine (ContainsFunc_Bed_any beds (fun b => !bedOk b) _ _ _ _ (HBD.out.mono exq) (enters_of Tryz.func150 (by kernel_rfl) rfl) (answers0 fun b _ W hW => ice_Check_1_any b W)).mono ?_; rintro e w' ⟨rfl, X3, rfl⟩; rw [HAB.out])
      | (go_at_call 154; refine (ContainsFunc_Hour_any hours (fun b => !hourOk b) _ _ _ _ (HHR.out.mono exq) (enters_of Tryz.func152 (by kernel_rfl) rfl) (answers0 fun b _ W hW => ice_Check_2_any b W)).mono ?_; rintro e w' ⟨rfl, X4, rfl⟩; rw [HAH.out])
      | (go_at_call 151; ((with_reducible refine (ice_ordered_any ⟨wlo, whi⟩ 0 20 _).mono ?_); rintro e w' ⟨rfl, X5, rfl⟩; rw [HE3.out]))
      | (go_at_call 151; ((with_reducible refine (ice_ordered_any ⟨ylo, yhi⟩ 1 100 _).mono ?_); rintro e w' ⟨rfl, X6, rfl⟩; rw [HE4.out]))
      | (go_at_call 38; ((with_reducible refine (ice_in_any 0 100 _ [rate] _ (row_int1 _ _ _ (by simp))).mono ?_); rintro e w' ⟨rfl, X7, rfl⟩; rw [HE5.out]))
      | (go_at_call 38; ((with_reducible refine (ice_in_any 0 2000 _ [limit] _ (row_int1 _ _ _ (by simp))).mono ?_); rintro e w' ⟨rfl, X8, rfl⟩; rw [HE6.out]))
      | (go_at_call 38; ((with_reducible refine (ice_in_any 0 limit _ [base] _ (row_int1 _ _ _ (by simp))).mono ?_); rintro e w' ⟨rfl, X9, rfl⟩; rw [HE7.out])))
    go_ret
    exact ⟨by rw [HF.out]; simp, exq⟩
  cases ah
  case false =>
    go_enter Tryz.func118, Tryz.ntmps118
    go_wp2_with (first
      | (go_at_call 149; refine (HT.out _ exq).mono ?_; rintro e w' ⟨rfl, X1, rfl⟩)
      | (go_at_call 38; ((with_reducible refine (ice_in_any 1 8 _ [(hours.length : Int)] _ (row_int1 _ _ _ (by simp))).mono ?_); rintro e w' ⟨rfl, X2, rfl⟩; rw [HE2.out]))
      | (go_at_call 153; refine (ContainsFunc_Bed_any beds (fun b => !bedOk b) _ _ _ _ (HBD.out.mono exq) (enters_of Tryz.func150 (by kernel_rfl) rfl) (answers0 fun b _ W hW => ice_Check_1_any b W)).mono ?_; rintro e w' ⟨rfl, X3, rfl⟩; rw [HAB.out])
      | (go_at_call 154; refine (ContainsFunc_Hour_any hours (fun b => !hourOk b) _ _ _ _ (HHR.out.mono exq) (enters_of Tryz.func152 (by kernel_rfl) rfl) (answers0 fun b _ W hW => ice_Check_2_any b W)).mono ?_; rintro e w' ⟨rfl, X4, rfl⟩; rw [HAH.out])
      | (go_at_call 151; ((with_reducible refine (ice_ordered_any ⟨wlo, whi⟩ 0 20 _).mono ?_); rintro e w' ⟨rfl, X5, rfl⟩; rw [HE3.out]))
      | (go_at_call 151; ((with_reducible refine (ice_ordered_any ⟨ylo, yhi⟩ 1 100 _).mono ?_); rintro e w' ⟨rfl, X6, rfl⟩; rw [HE4.out]))
      | (go_at_call 38; ((with_reducible refine (ice_in_any 0 100 _ [rate] _ (row_int1 _ _ _ (by simp))).mono ?_); rintro e w' ⟨rfl, X7, rfl⟩; rw [HE5.out]))
      | (go_at_call 38; ((with_reducible refine (ice_in_any 0 2000 _ [limit] _ (row_int1 _ _ _ (by simp))).mono ?_); rintro e w' ⟨rfl, X8, rfl⟩; rw [HE6.out]))
      | (go_at_call 38; ((with_reducible refine (ice_in_any 0 limit _ [base] _ (row_int1 _ _ _ (by simp))).mono ?_); rintro e w' ⟨rfl, X9, rfl⟩; rw [HE7.out])))
    go_ret
    exact ⟨by rw [HF.out]; simp, exq⟩
  cases b3
  case false =>
    go_enter Tryz.func118, Tryz.ntmps118
    go_wp2_with (first
      | (go_at_call 149; refine (HT.out _ exq).mono ?_; rintro e w' ⟨rfl, X1, rfl⟩)
      | (go_at_call 38; ((with_reducible refine (ice_in_any 1 8 _ [(hours.length : Int)] _ (row_int1 _ _ _ (by simp))).mono ?_); rintro e w' ⟨rfl, X2, rfl⟩; rw [HE2.out]))
      | (go_at_call 153; refine (ContainsFunc_Bed_any beds (fun b => !bedOk b) _ _ _ _ (HBD.out.mono exq) (enters_of Tryz.func150 (by kernel_rfl) rfl) (answers0 fun b _ W hW => ice_Check_1_any b W)).mono ?_; rintro e w' ⟨rfl, X3, rfl⟩; rw [HAB.out])
      | (go_at_call 154; refine (ContainsFunc_Hour_any hours (fun b => !hourOk b) _ _ _ _ (HHR.out.mono exq) (enters_of Tryz.func152 (by kernel_rfl) rfl) (answers0 fun b _ W hW => ice_Check_2_any b W)).mono ?_; rintro e w' ⟨rfl, X4, rfl⟩; rw [HAH.out])
      | (go_at_call 151; ((with_reducible refine (ice_ordered_any ⟨wlo, whi⟩ 0 20 _).mono ?_); rintro e w' ⟨rfl, X5, rfl⟩; rw [HE3.out]))
      | (go_at_call 151; ((with_reducible refine (ice_ordered_any ⟨ylo, yhi⟩ 1 100 _).mono ?_); rintro e w' ⟨rfl, X6, rfl⟩; rw [HE4.out]))
      | (go_at_call 38; ((with_reducible refine (ice_in_any 0 100 _ [rate] _ (row_int1 _ _ _ (by simp))).mono ?_); rintro e w' ⟨rfl, X7, rfl⟩; rw [HE5.out]))
      | (go_at_call 38; ((with_reducible refine (ice_in_any 0 2000 _ [limit] _ (row_int1 _ _ _ (by simp))).mono ?_); rintro e w' ⟨rfl, X8, rfl⟩; rw [HE6.out]))
      | (go_at_call 38; ((with_reducible refine (ice_in_any 0 limit _ [base] _ (row_int1 _ _ _ (by simp))).mono ?_); rintro e w' ⟨rfl, X9, rfl⟩; rw [HE7.out])))
    go_ret
    exact ⟨by rw [HF.out]; simp, exq⟩
  cases b4
  case false =>
    go_enter Tryz.func118, Tryz.ntmps118
    go_wp2_with (first
      | (go_at_call 149; refine (HT.out _ exq).mono ?_; rintro e w' ⟨rfl, X1, rfl⟩)
      | (go_at_call 38; ((with_reducible refine (ice_in_any 1 8 _ [(hours.length : Int)] _ (row_int1 _ _ _ (by simp))).mono ?_); rintro e w' ⟨rfl, X2, rfl⟩; rw [HE2.out]))
      | (go_at_call 153; refine (ContainsFunc_Bed_any beds (fun b => !bedOk b) _ _ _ _ (HBD.out.mono exq) (enters_of Tryz.func150 (by kernel_rfl) rfl) (answers0 fun b _ W hW => ice_Check_1_any b W)).mono ?_; rintro e w' ⟨rfl, X3, rfl⟩; rw [HAB.out])
      | (go_at_call 154; refine (ContainsFunc_Hour_any hours (fun b => !hourOk b) _ _ _ _ (HHR.out.mono exq) (enters_of Tryz.func152 (by kernel_rfl) rfl) (answers0 fun b _ W hW => ice_Check_2_any b W)).mono ?_; rintro e w' ⟨rfl, X4, rfl⟩; rw [HAH.out])
      | (go_at_call 151; ((with_reducible refine (ice_ordered_any ⟨wlo, whi⟩ 0 20 _).mono ?_); rintro e w' ⟨rfl, X5, rfl⟩; rw [HE3.out]))
      | (go_at_call 151; ((with_reducible refine (ice_ordered_any ⟨ylo, yhi⟩ 1 100 _).mono ?_); rintro e w' ⟨rfl, X6, rfl⟩; rw [HE4.out]))
      | (go_at_call 38; ((with_reducible refine (ice_in_any 0 100 _ [rate] _ (row_int1 _ _ _ (by simp))).mono ?_); rintro e w' ⟨rfl, X7, rfl⟩; rw [HE5.out]))
      | (go_at_call 38; ((with_reducible refine (ice_in_any 0 2000 _ [limit] _ (row_int1 _ _ _ (by simp))).mono ?_); rintro e w' ⟨rfl, X8, rfl⟩; rw [HE6.out]))
      | (go_at_call 38; ((with_reducible refine (ice_in_any 0 limit _ [base] _ (row_int1 _ _ _ (by simp))).mono ?_); rintro e w' ⟨rfl, X9, rfl⟩; rw [HE7.out])))
    go_ret
    exact ⟨by rw [HF.out]; simp, exq⟩
  cases b5
  case false =>
    go_enter Tryz.func118, Tryz.ntmps118
    go_wp2_with (first
      | (go_at_call 149; refine (HT.out _ exq).mono ?_; rintro e w' ⟨rfl, X1, rfl⟩)
      | (go_at_call 38; ((with_reducible refine (ice_in_any 1 8 _ [(hours.length : Int)] _ (row_int1 _ _ _ (by simp))).mono ?_); rintro e w' ⟨rfl, X2, rfl⟩; rw [HE2.out]))
      | (go_at_call 153; refine (ContainsFunc_Bed_any beds (fun b => !bedOk b) _ _ _ _ (HBD.out.mono exq) (enters_of Tryz.func150 (by kernel_rfl) rfl) (answers0 fun b _ W hW => ice_Check_1_any b W)).mono ?_; rintro e w' ⟨rfl, X3, rfl⟩; rw [HAB.out])
      | (go_at_call 154; refine (ContainsFunc_Hour_any hours (fun b => !hourOk b) _ _ _ _ (HHR.out.mono exq) (enters_of Tryz.func152 (by kernel_rfl) rfl) (answers0 fun b _ W hW => ice_Check_2_any b W)).mono ?_; rintro e w' ⟨rfl, X4, rfl⟩; rw [HAH.out])
      | (go_at_call 151; ((with_reducible refine (ice_ordered_any ⟨wlo, whi⟩ 0 20 _).mono ?_); rintro e w' ⟨rfl, X5, rfl⟩; rw [HE3.out]))
      | (go_at_call 151; ((with_reducible refine (ice_ordered_any ⟨ylo, yhi⟩ 1 100 _).mono ?_); rintro e w' ⟨rfl, X6, rfl⟩; rw [HE4.out]))
      | (go_at_call 38; ((with_reducible refine (ice_in_any 0 100 _ [rate] _ (row_int1 _ _ _ (by simp))).mono ?_); rintro e w' ⟨rfl, X7, rfl⟩; rw [HE5.out]))
      | (go_at_call 38; ((with_reducible refine (ice_in_any 0 2000 _ [limit] _ (row_int1 _ _ _ (by simp))).mono ?_); rintro e w' ⟨rfl, X8, rfl⟩; rw [HE6.out]))
      | (go_at_call 38; ((with_reducible refine (ice_in_any 0 limit _ [base] _ (row_int1 _ _ _ (by simp))).mono ?_); rintro e w' ⟨rfl, X9, rfl⟩; rw [HE7.out])))
    go_ret
    exact ⟨by rw [HF.out]; simp, exq⟩
  cases b6
  case false =>
    go_enter Tryz.func118, Tryz.ntmps118
    go_wp2_with (first
      | (go_at_call 149; refine (HT.out _ exq).mono ?_; rintro e w' ⟨rfl, X1, rfl⟩)
      | (go_at_call 38; ((with_reducible refine (ice_in_any 1 8 _ [(hours.length : Int)] _ (row_int1 _ _ _ (by simp))).mono ?_); rintro e w' ⟨rfl, X2, rfl⟩; rw [HE2.out]))
      | (go_at_call 153; refine (ContainsFunc_Bed_any beds (fun b => !bedOk b) _ _ _ _ (HBD.out.mono exq) (enters_of Tryz.func150 (by kernel_rfl) rfl) (answers0 fun b _ W hW => ice_Check_1_any b W)).mono ?_; rintro e w' ⟨rfl, X3, rfl⟩; rw [HAB.out])
      | (go_at_call 154; refine (ContainsFunc_Hour_any hours (fun b => !hourOk b) _ _ _ _ (HHR.out.mono exq) (enters_of Tryz.func152 (by kernel_rfl) rfl) (answers0 fun b _ W hW => ice_Check_2_any b W)).mono ?_; rintro e w' ⟨rfl, X4, rfl⟩; rw [HAH.out])
      | (go_at_call 151; ((with_reducible refine (ice_ordered_any ⟨wlo, whi⟩ 0 20 _).mono ?_); rintro e w' ⟨rfl, X5, rfl⟩; rw [HE3.out]))
      | (go_at_call 151; ((with_reducible refine (ice_ordered_any ⟨ylo, yhi⟩ 1 100 _).mono ?_); rintro e w' ⟨rfl, X6, rfl⟩; rw [HE4.out]))
      | (go_at_call 38; ((with_reducible refine (ice_in_any 0 100 _ [rate] _ (row_int1 _ _ _ (by simp))).mono ?_); rintro e w' ⟨rfl, X7, rfl⟩; rw [HE5.out]))
      | (go_at_call 38; ((with_reducible refine (ice_in_any 0 2000 _ [limit] _ (row_int1 _ _ _ (by simp))).mono ?_); rintro e w' ⟨rfl, X8, rfl⟩; rw [HE6.out]))
      | (go_at_call 38; ((with_reducible refine (ice_in_any 0 limit _ [base] _ (row_int1 _ _ _ (by simp))).mono ?_); rintro e w' ⟨rfl, X9, rfl⟩; rw [HE7.out])))
    go_ret
    exact ⟨by rw [HF.out]; simp, exq⟩
  cases b7
  case false =>
    go_enter Tryz.func118, Tryz.ntmps118
    go_wp2_with (first
      | (go_at_call 149; refine (HT.out _ exq).mono ?_; rintro e w' ⟨rfl, X1, rfl⟩)
      | (go_at_call 38; ((with_reducible refine (ice_in_any 1 8 _ [(hours.length : Int)] _ (row_int1 _ _ _ (by simp))).mono ?_); rintro e w' ⟨rfl, X2, rfl⟩; rw [HE2.out]))
      | (go_at_call 153; refine (ContainsFunc_Bed_any beds (fun b => !bedOk b) _ _ _ _ (HBD.out.mono exq) (enters_of Tryz.func150 (by kernel_rfl) rfl) (answers0 fun b _ W hW => ice_Check_1_any b W)).mono ?_; rintro e w' ⟨rfl, X3, rfl⟩; rw [HAB.out])
      | (go_at_call 154; refine (ContainsFunc_Hour_any hours (fun b => !hourOk b) _ _ _ _ (HHR.out.mono exq) (enters_of Tryz.func152 (by kernel_rfl) rfl) (answers0 fun b _ W hW => ice_Check_2_any b W)).mono ?_; rintro e w' ⟨rfl, X4, rfl⟩; rw [HAH.out])
      | (go_at_call 151; ((with_reducible refine (ice_ordered_any ⟨wlo, whi⟩ 0 20 _).mono ?_); rintro e w' ⟨rfl, X5, rfl⟩; rw [HE3.out]))
      | (go_at_call 151; ((with_reducible refine (ice_ordered_any ⟨ylo, yhi⟩ 1 100 _).mono ?_); rintro e w' ⟨rfl, X6, rfl⟩; rw [HE4.out]))
      | (go_at_call 38; ((with_reducible refine (ice_in_any 0 100 _ [rate] _ (row_int1 _ _ _ (by simp))).mono ?_); rintro e w' ⟨rfl, X7, rfl⟩; rw [HE5.out]))
      | (go_at_call 38; ((with_reducible refine (ice_in_any 0 2000 _ [limit] _ (row_int1 _ _ _ (by simp))).mono ?_); rintro e w' ⟨rfl, X8, rfl⟩; rw [HE6.out]))
      | (go_at_call 38; ((with_reducible refine (ice_in_any 0 limit _ [base] _ (row_int1 _ _ _ (by simp))).mono ?_); rintro e w' ⟨rfl, X9, rfl⟩; rw [HE7.out])))
    go_ret
    exact ⟨by rw [HF.out]; simp, exq⟩
  go_enter Tryz.func118, Tryz.ntmps118
  go_wp2_with (first
    | (go_at_call 149; refine (HT.out _ exq).mono ?_; rintro e w' ⟨rfl, X1, rfl⟩)
    | (go_at_call 38; ((with_reducible refine (ice_in_any 1 8 _ [(hours.length : Int)] _ (row_int1 _ _ _ (by simp))).mono ?_); rintro e w' ⟨rfl, X2, rfl⟩; rw [HE2.out]))
    | (go_at_call 153; refine (ContainsFunc_Bed_any beds (fun b => !bedOk b) _ _ _ _ (HBD.out.mono exq) (enters_of Tryz.func150 (by kernel_rfl) rfl) (answers0 fun b _ W hW => ice_Check_1_any b W)).mono ?_; rintro e w' ⟨rfl, X3, rfl⟩; rw [HAB.out])
    | (go_at_call 154; refine (ContainsFunc_Hour_any hours (fun b => !hourOk b) _ _ _ _ (HHR.out.mono exq) (enters_of Tryz.func152 (by kernel_rfl) rfl) (answers0 fun b _ W hW => ice_Check_2_any b W)).mono ?_; rintro e w' ⟨rfl, X4, rfl⟩; rw [HAH.out])
    | (go_at_call 151; ((with_reducible refine (ice_ordered_any ⟨wlo, whi⟩ 0 20 _).mono ?_); rintro e w' ⟨rfl, X5, rfl⟩; rw [HE3.out]))
    | (go_at_call 151; ((with_reducible refine (ice_ordered_any ⟨ylo, yhi⟩ 1 100 _).mono ?_); rintro e w' ⟨rfl, X6, rfl⟩; rw [HE4.out]))
    | (go_at_call 38; ((with_reducible refine (ice_in_any 0 100 _ [rate] _ (row_int1 _ _ _ (by simp))).mono ?_); rintro e w' ⟨rfl, X7, rfl⟩; rw [HE5.out]))
    | (go_at_call 38; ((with_reducible refine (ice_in_any 0 2000 _ [limit] _ (row_int1 _ _ _ (by simp))).mono ?_); rintro e w' ⟨rfl, X8, rfl⟩; rw [HE6.out]))
    | (go_at_call 38; ((with_reducible refine (ice_in_any 0 limit _ [base] _ (row_int1 _ _ _ (by simp))).mono ?_); rintro e w' ⟨rfl, X9, rfl⟩; rw [HE7.out])))
  go_ret
  exact ⟨by rw [HF.out]; simp, exq⟩

/-- What 'open' gives: the error, and a rink if there is none. -/
def RinkOf (w : World) (c : Kr.Cover) (v : CoverV) (err : Int) (e : Ending) (w' : World) : Prop :=
  ∃ p, e = .returned (.tuple #[.pointer p, .int .i64 err]) ∧ (err = 0 → ∃ rb, p = some ⟨rb, 0, none⟩ ∧ LaysAs w' rb (.cells #[v.t, v.b, v.h, .int .i64 c.wear.lo, .int .i64 c.wear.hi, .int .i64 c.layer.lo, .int .i64 c.layer.hi, .int .i64 c.rate, .int .i64 c.limit, .int .i64 c.base] 156)) ∧ w.Exts w'
set_option maxHeartbeats 2000000 in
theorem ice_open_any (c : Kr.Cover) (v : CoverV) (w : World) (h : CoverAt w c v) (hsd : ∀ s ∈ c.track, 0 ≤ s.side ∧ s.side ≤ 255) :
    Calls Tryz.prog 80 #[.agg #[v.t, v.b, v.h, .int .i64 c.wear.lo, .int .i64 c.wear.hi, .int .i64 c.layer.lo, .int .i64 c.layer.hi, .int .i64 c.rate, .int .i64 c.limit, .int .i64 c.base]] w (RinkOf w c v (coverErr c)) := by
  have hc := fun (W : World) (hE : w.Exts W) => ice_Check_any c v W (h.mono hE) hsd
  obtain ⟨vt, vb, vh⟩ := v
  obtain ⟨qt, ct, hqt⟩ := h.tr.len
  obtain ⟨qb, cb, hqb⟩ := h.bd.len
  obtain ⟨qh, ch, hqh⟩ := h.hr.len
  dsimp only at hqt hqb hqh
  subst hqt hqb hqh
  clear h hsd
  dsimp only at hc
  generalize coverErr c = err at hc ⊢
  unfold RinkOf
  have HC := Lib.hid hc
  clear hc
  by_cases he : err = 0
  · subst he
    go_enter Tryz.func80, Tryz.ntmps80
    go_wp2_with (go_at_call 118; refine (HC.out _ exq).mono ?_; rintro e w' ⟨rfl, X1, rfl⟩)
    go_ret2
    exact ⟨_, rfl, fun _ => ⟨_, rfl, laysAs_size _ _ (by first | rfl | (simp [go_sem]; done))⟩, exq⟩
  · have e1 : (err != 0) = true := by simpa using he
    have e2 : decide (err = 0) = false := by simpa using he
    go_enter Tryz.func80, Tryz.ntmps80
    go_wp2_with (go_at_call 118; refine (HC.out _ exq).mono ?_; rintro e w' ⟨rfl, X1, rfl⟩)
    go_ret2
    exact ⟨_, rfl, fun hh => absurd hh he, exq⟩
end Go.Proofs.YtcickafaomfbmaaGreatDoor

/-
  Walks of package ice: planned, asked.
-/
namespace Go.Proofs.YtcickafaomfbmaaGreatDoor
open Go.RowKit Kr
set_option linter.unusedSimpArgs false
set_option linter.unusedVariables false

set_option maxRecDepth 4000 in
set_option maxHeartbeats 8000000 in
theorem rink_planned_any (rb : Nat) (c : Kr.Cover) (v : CoverV) (ps : List (List Int × Value)) (pv : Value) (w : World) (h : CoverAt w c v) (hp : ListsAt w pv ps) (hr : LaysAs w rb (.cells #[v.t, v.b, v.h, .int .i64 c.wear.lo, .int .i64 c.wear.hi, .int .i64 c.layer.lo, .int .i64 c.layer.hi, .int .i64 c.rate, .int .i64 c.limit, .int .i64 c.base] 156)) :
    Calls Tryz.prog 81 #[.pointer (some ⟨rb, 0, none⟩), pv] w fun e w' => e = .returned (.bool (validP c (ps.map Prod.fst))) ∧ w.Exts w' := by
  obtain ⟨trk, beds, hours, ⟨wlo, whi⟩, ⟨ylo, yhi⟩, rate, limit, base⟩ := c
  obtain ⟨vt, vb, vh⟩ := v
  obtain ⟨qt, ct, hqt⟩ := h.tr.len
  obtain ⟨qb, cb, hqb⟩ := h.bd.len
  obtain ⟨qh, ch, hqh⟩ := h.hr.len
  dsimp only at hqt hqb hqh
  subst hqt hqb hqh
  have hhr := h.hr
  have hbdl := h.bd.ex
  clear h
  obtain ⟨_, bb, bo, _, ebb, hbm, -, -⟩ := hbdl
  cases ebb
  obtain ⟨_, hb, ho, _, eh, hhm, hhq, hhc⟩ := hhr.ex
  cases eh
  have r1 := LaysAs.cell hr 1 _ rfl
  have r2 := LaysAs.cell hr 2 _ rfl
  have nr := Lays.of_cell r1
  clear hr
  obtain ⟨qp, pb, po, cp, rfl, hpm, hpq, hpc⟩ := hp.row.ex
  have hpmem := hp.mem
  clear hhr hp
  dsimp only at hhm hhq hhc hbm r1 r2 ⊢
  obtain ⟨b1, e1⟩ : ∃ z, decide (ps.length = hours.length) = z := ⟨_, rfl⟩
  have hf : validP ⟨trk, beds, hours, ⟨wlo, whi⟩, ⟨ylo, yhi⟩, rate, limit, base⟩ (ps.map Prod.fst) = (b1 && allN (dayOk ⟨trk, beds, hours, ⟨wlo, whi⟩, ⟨ylo, yhi⟩, rate, limit, base⟩ (ps.map Prod.fst)) ps.length) := by
    unfold validP
    rw [List.length_map]
    dsimp only
    rw [e1]
  have hday : ∀ k l lv (hr : Kr.Hour), ps[k]? = some (l, lv) → hours[k]? = some hr → dayOk ⟨trk, beds, hours, ⟨wlo, whi⟩, ⟨ylo, yhi⟩, rate, limit, base⟩ (ps.map Prod.fst) k = ((decide ((l.length : Int) ≤ hr.crew) && (decide (l.length = 0) || hr.cold)) && (inAll 0 ((beds.length : Int) - 1) l && allN (upAt l) (l.length - 1))) := by
    intro k l lv hr hk hh
    unfold dayOk
    dsimp only
    rw [getD_of hh, getD_of (show (ps.map Prod.fst)[k]? = some l by rw [List.getElem?_map, hk]; rfl)]
  have hgo : (∀ j, j < ps.length → dayOk ⟨trk, beds, hours, ⟨wlo, whi⟩, ⟨ylo, yhi⟩, rate, limit, base⟩ (ps.map Prod.fst) j = true) → allN (dayOk ⟨trk, beds, hours, ⟨wlo, whi⟩, ⟨ylo, yhi⟩, rate, limit, base⟩ (ps.map Prod.fst)) ps.length = true := fun hh => allN_iff.2 hh
  have hgx : ∀ j, j < ps.length → dayOk ⟨trk, beds, hours, ⟨wlo, whi⟩, ⟨ylo, yhi⟩, rate, limit, base⟩ (ps.map Prod.fst) j = false → allN (dayOk ⟨trk, beds, hours, ⟨wlo, whi⟩, ⟨ylo, yhi⟩, rate, limit, base⟩ (ps.map Prod.fst)) ps.length = false := fun j hj hh => allN_false hj hh
  generalize dayOk ⟨trk, beds, hours, ⟨wlo, whi⟩, ⟨ylo, yhi⟩, rate, limit, base⟩ (ps.map Prod.fst) = D at hf hday hgo hgx
  generalize allN D ps.length = an at hf hgo hgx
  have f1 : decide ((ps.length : Int) = (hours.length : Int)) = b1 := by rw [← e1, decide_eq_decide]; omega
  have f2 : ((ps.length : Int) == (hours.length : Int)) = b1 := by rw [← f1]; rfl
  have f3 : ((ps.length : Int) != (hours.length : Int)) = !b1 := by rw [← f2]; rfl
  rw [hf]
  clear hf
  have HDAY := Lib.hid hday
  clear hday
  have HGO := Lib.hid hgo
  clear hgo
  have HGX := Lib.hid hgx
  clear hgx
  have HPQ := Lib.hid hpq
  clear hpq
  have HPC := Lib.hid hpc
  clear hpc
  have HPM := Lib.hid hpmem
  clear hpmem
  have HHQ := Lib.hid hhq
  clear hhq
  have HHC := Lib.hid hhc
  clear hhc
  have HE1 := Lib.hid e1
  clear e1
  cases b1
  case false =>
    go_enter Tryz.func81, Tryz.ntmps81
    go_wp2_with fail
    go_ret
    exact ⟨rfl, exq⟩
  go_enter Tryz.func81, Tryz.ntmps81
  go_wp2_with fail
  clear f1 f2 f3
  go_loopw [5, 6, 19] (fun _ _ i wr => ∃ k : Nat, k ≤ ps.length ∧ i = .int .i64 k ∧ Hid (∀ j, j < k → D j = true) ∧ w.Exts wr) (fun _ _ i _ => ps.length - (intOf i).toNat)
  case atStart => exact ⟨0, Nat.zero_le _, rfl, Lib.hid (fun j hj => by omega), exq⟩
  case round =>
    obtain ⟨k, hk, rfl, HA, hE⟩ := hrel
    obtain ⟨X8, rfl⟩ := hE
    rcases Nat.lt_or_ge k ps.length with hlt | hge
    · have hlh : k < hours.length := by have := HE1.out; simp at this; omega
      obtain ⟨rfl, hlay⟩ := HPQ.out (by omega)
      obtain ⟨rfl, hlay2⟩ := HHQ.out (by omega)
      obtain ⟨⟨l, lv⟩, hx⟩ := some_of_lt hlt
      have p0 := HPC.out k _ hx 0 _ rfl
      simp only [Nat.mul_one, Nat.add_zero] at p0
      have hrow := HPM.out _ (List.mem_of_getElem? hx)
      dsimp only at hrow
      have hrow2 := hrow
      obtain ⟨ql, lb, lo, lc, rfl, hlm, hlq, hlc⟩ := hrow.ex
      obtain ⟨⟨⟨mlo, mhi⟩, runs, crew, cold⟩, hy⟩ := some_of_lt hlh
      have d2 := HHC.out k _ hy 3 _ rfl
      have d4 := HHC.out k _ hy 4 _ rfl
      dsimp only at d2 d4
      have hd := HDAY.out k l _ _ hx hy
      dsimp only at hd
      have w1 : (k : Int) < (ps.length : Int) := by omega
      have w2 : (k : Int) < (hours.length : Int) := by omega
      have hxk := HGX.out k hlt
      obtain ⟨i1, hi1⟩ : ∃ z, inAll 0 ((beds.length : Int) - 1) l = z := ⟨_, rfl⟩
      rw [hi1] at hd
      clear hrow hx hy
      have HI1 := Lib.hid hi1
      clear hi1
      have HROW := Lib.hid hrow2
      clear hrow2
      have HLQ := Lib.hid hlq
      clear hlq
      have HLC := Lib.hid hlc
      clear hlc
      rcases Int.lt_or_le crew (l.length : Int) with hcl | hcl
      · have hbad := hxk (by rw [hd, decide_eq_false (by omega)]; rfl)
        have hcd : decide (crew < (l.length : Int)) = true := decide_eq_true hcl
        have HBAD := Lib.hid hbad
        clear hbad
        clear hxk hd
        go_wp2_with fail
        go_ret
        exact ⟨by rw [HBAD.out]; rfl, exq⟩
      rw [decide_eq_true hcl] at hd
      have hcl2 : ¬ crew < (l.length : Int) := by omega
      have hcd : decide (crew < (l.length : Int)) = false := decide_eq_false hcl2
      rcases Nat.eq_zero_or_pos l.length with hl0 | hl0
      · rw [decide_eq_true hl0, Bool.true_or, Bool.true_and, Bool.true_and] at hd
        have u1 : ¬ 0 < l.length := by omega
        have u2 : ¬ (0 : Int) < (l.length : Int) := by omega
        have u3 : decide (0 < l.length) = false := decide_eq_false u1
        have u4 : decide ((0 : Int) < (l.length : Int)) = false := decide_eq_false u2
        cases i1
        · have hbad := hxk (by rw [hd]; rfl)
          have HBAD := Lib.hid hbad
          clear hbad
          clear hxk hd hl0
          go_wp2_with (go_at_call 38; refine (ice_in_any 0 ((beds.length : Int) - 1) _ l _ (HROW.out.mono exq)).mono ?_; rintro e w' ⟨rfl, X7, rfl⟩; rw [HI1.out])
          go_ret
          exact ⟨by rw [HBAD.out]; rfl, exq⟩
        · have hbadl : allN (upAt l) (l.length - 1) = false → (true && an) = false := fun hh => by rw [hxk (by rw [hd, hh]; rfl)]; rfl
          have hgoodl : allN (upAt l) (l.length - 1) = true → D k = true := fun hh => by rw [hd, hh]; rfl
          have HBADL := Lib.hid hbadl
          clear hbadl
          have HGOODL := Lib.hid hgoodl
          clear hgoodl
          clear hxk hd hl0
          go_wp2_with (go_at_call 38; refine (ice_in_any 0 ((beds.length : Int) - 1) _ l _ (HROW.out.mono exq)).mono ?_; rintro e w' ⟨rfl, X7, rfl⟩; rw [HI1.out])
          clear u1 u2 u3 u4
          go_loopw [7, 68] (fun _ i wr => ∃ k2 : Nat, k2 ≤ l.length - 1 ∧ i = .int .i64 k2 ∧ Hid (∀ j, j < k2 → upAt l j = true) ∧ (World.ext _ X7).Exts wr) (fun _ i _ => l.length - (intOf i).toNat)
          case atStart => exact ⟨0, Nat.zero_le _, rfl, Lib.hid (fun j hj => by omega), exq⟩
          case round =>
            obtain ⟨k2, hk2, rfl, HA2, hE⟩ := hrel
            obtain ⟨X9, rfl⟩ := hE
            rcases Nat.lt_or_ge k2 (l.length - 1) with hlt2 | hge2
            · obtain ⟨rfl, hlay3⟩ := HLQ.out (by omega)
              obtain ⟨y, hy⟩ := some_of_lt (show k2 < l.length by omega)
              obtain ⟨z, hz⟩ := some_of_lt (show k2 + 1 < l.length by omega)
              have c0 := HLC.out k2 y hy 0 _ rfl
              have d0 := HLC.out (k2 + 1) z hz 0 _ rfl
              simp only [Nat.mul_one, Nat.add_zero] at c0 d0
              have hup : upAt l k2 = decide (y < z) := by unfold upAt; rw [getD_of hy, getD_of hz]
              have hl1 : (k2 : Int) < (l.length : Int) - 1 := by omega
              have hl2 : (k2 : Int) < (l.length : Int) := by omega
              have hl3 : (k2 : Int) + 1 < (l.length : Int) := by omega
              clear hy hz
              rcases Int.lt_or_le y z with hyz | hyz
              · have hgood := below_snoc HA2.out (hup.trans (decide_eq_true hyz))
                have d5 : decide (z ≤ y) = false := by simp; omega
                have HGOOD := Lib.hid hgood
                clear hgood
                clear hup
                go_wp2_with fail
                refine wp_region_ext (by kernel_rfl) (by kernel_rfl) ?_
                repeat (go_big_quiet_step (fail))
                refine wpQuiet_nil ?_
                rintro _ ⟨X, rfl⟩
                go_wp2_with fail
                go_roundw
                case rel => exact ⟨k2 + 1, by omega, by go_num, HGOOD, exq⟩
                case measure => simp [intOf]; omega
              · have hbad := HBADL.out (allN_false hlt2 (hup.trans (decide_eq_false (by omega))))
                have d5 : decide (z ≤ y) = true := by simp; omega
                have HBAD := Lib.hid hbad
                clear hbad
                clear hup
                go_wp2_with fail
                refine wp_region_ext (by kernel_rfl) (by kernel_rfl) ?_
                repeat (go_big_quiet_step (fail))
                refine wpQuiet_nil ?_
                rintro _ ⟨X, rfl⟩
                go_wp2_with fail
                go_ret
                exact ⟨by rw [HBAD.out]; rfl, exq⟩
            · have hday := HGOODL.out (allN_iff.2 (fun j hj => HA2.out j (by omega)))
              have hnl : ¬ (k2 : Int) < (l.length : Int) - 1 := by omega
              have hgood := below_snoc HA.out hday
              have HGOOD := Lib.hid hgood
              clear hgood
              clear hday HA2
              go_wp2_with fail
              go_roundw
              case rel => exact ⟨k + 1, by omega, by go_num, HGOOD, exq⟩
              case measure => simp [intOf]; omega
      · have u2 : (0 : Int) < (l.length : Int) := by omega
        have u3 : decide (0 < l.length) = true := decide_eq_true hl0
        have u4 : decide ((0 : Int) < (l.length : Int)) = true := decide_eq_true u2
        rw [show decide (l.length = 0) = false from decide_eq_false (by omega), Bool.false_or, Bool.true_and] at hd
        cases cold
        · have hbad := hxk (by rw [hd]; rfl)
          have HBAD := Lib.hid hbad
          clear hbad
          clear hxk hd
          go_wp2_with fail
          go_ret
          exact ⟨by rw [HBAD.out]; rfl, exq⟩
        · rw [Bool.true_and] at hd
          cases i1
          · have hbad := hxk (by rw [hd]; rfl)
            have HBAD := Lib.hid hbad
            clear hbad
            clear hxk hd
            go_wp2_with (go_at_call 38; refine (ice_in_any 0 ((beds.length : Int) - 1) _ l _ (HROW.out.mono exq)).mono ?_; rintro e w' ⟨rfl, X7, rfl⟩; rw [HI1.out])
            go_ret
            exact ⟨by rw [HBAD.out]; rfl, exq⟩
          · have hbadl : allN (upAt l) (l.length - 1) = false → (true && an) = false := fun hh => by rw [hxk (by rw [hd, hh]; rfl)]; rfl
            have hgoodl : allN (upAt l) (l.length - 1) = true → D k = true := fun hh => by rw [hd, hh]; rfl
            have HBADL := Lib.hid hbadl
            clear hbadl
            have HGOODL := Lib.hid hgoodl
            clear hgoodl
            clear hxk hd
            go_wp2_with (go_at_call 38; refine (ice_in_any 0 ((beds.length : Int) - 1) _ l _ (HROW.out.mono exq)).mono ?_; rintro e w' ⟨rfl, X7, rfl⟩; rw [HI1.out])
            go_loopw [7, 68] (fun _ i wr => ∃ k2 : Nat, k2 ≤ l.length - 1 ∧ i = .int .i64 k2 ∧ Hid (∀ j, j < k2 → upAt l j = true) ∧ (World.ext _ X7).Exts wr) (fun _ i _ => l.length - (intOf i).toNat)
            case atStart => exact ⟨0, Nat.zero_le _, rfl, Lib.hid (fun j hj => by omega), exq⟩
            case round =>
              obtain ⟨k2, hk2, rfl, HA2, hE⟩ := hrel
              obtain ⟨X9, rfl⟩ := hE
              rcases Nat.lt_or_ge k2 (l.length - 1) with hlt2 | hge2
              · obtain ⟨rfl, hlay3⟩ := HLQ.out (by omega)
                obtain ⟨y, hy⟩ := some_of_lt (show k2 < l.length by omega)
                obtain ⟨z, hz⟩ := some_of_lt (show k2 + 1 < l.length by omega)
                have c0 := HLC.out k2 y hy 0 _ rfl
                have d0 := HLC.out (k2 + 1) z hz 0 _ rfl
                simp only [Nat.mul_one, Nat.add_zero] at c0 d0
                have hup : upAt l k2 = decide (y < z) := by unfold upAt; rw [getD_of hy, getD_of hz]
                have hl1 : (k2 : Int) < (l.length : Int) - 1 := by omega
                have hl2 : (k2 : Int) < (l.length : Int) := by omega
                have hl3 : (k2 : Int) + 1 < (l.length : Int) := by omega
                clear hy hz
                rcases Int.lt_or_le y z with hyz | hyz
                · have hgood := below_snoc HA2.out (hup.trans (decide_eq_true hyz))
                  have d5 : decide (z ≤ y) = false := by simp; omega
                  have HGOOD := Lib.hid hgood
                  clear hgood
                  clear hup
                  go_wp2_with fail
                  refine wp_region_ext (by kernel_rfl) (by kernel_rfl) ?_
                  repeat (go_big_quiet_step (fail))
                  refine wpQuiet_nil ?_
                  rintro _ ⟨X, rfl⟩
                  go_wp2_with fail
                  go_roundw
                  case rel => exact ⟨k2 + 1, by omega, by go_num, HGOOD, exq⟩
                  case measure => simp [intOf]; omega
                · have hbad := HBADL.out (allN_false hlt2 (hup.trans (decide_eq_false (by omega))))
                  have d5 : decide (z ≤ y) = true := by simp; omega
                  have HBAD := Lib.hid hbad
                  clear hbad
                  clear hup
                  go_wp2_with fail
                  refine wp_region_ext (by kernel_rfl) (by kernel_rfl) ?_
                  repeat (go_big_quiet_step (fail))
                  refine wpQuiet_nil ?_
                  rintro _ ⟨X, rfl⟩
                  go_wp2_with fail
                  go_ret
                  exact ⟨by rw [HBAD.out]; rfl, exq⟩
              · have hday := HGOODL.out (allN_iff.2 (fun j hj => HA2.out j (by omega)))
                have hnl : ¬ (k2 : Int) < (l.length : Int) - 1 := by omega
                have hgood := below_snoc HA.out hday
                have HGOOD := Lib.hid hgood
                clear hgood
                clear hday HA2
                go_wp2_with fail
                go_roundw
                case rel => exact ⟨k + 1, by omega, by go_num, HGOOD, exq⟩
                case measure => simp [intOf]; omega
    · have hall := HGO.out (fun j hj => HA.out j (by omega))
      have hnl : ¬ k < ps.length := by omega
      have HALL := Lib.hid hall
      clear hall
      clear HA
      go_wp2_with fail
      go_ret
      exact ⟨by rw [HALL.out]; rfl, exq⟩

set_option maxHeartbeats 2000000 in
theorem ice_asked_any (c : Kr.Cover) (v : CoverV) (ps : List (List Int × Value)) (pv : Value) (w : World) (h : CoverAt w c v) (hp : ListsAt w pv ps) (hsd : ∀ s ∈ c.track, 0 ≤ s.side ∧ s.side ≤ 255) :
    Calls Tryz.prog 37 #[.agg #[v.t, v.b, v.h, .int .i64 c.wear.lo, .int .i64 c.wear.hi, .int .i64 c.layer.lo, .int .i64 c.layer.hi, .int .i64 c.rate, .int .i64 c.limit, .int .i64 c.base], pv] w (RinkOf w c v (planErr c (ps.map Prod.fst))) := by
  have ho := fun (W : World) (hE : w.Exts W) => ice_open_any c v W (h.mono hE) hsd
  have hv := fun (rb : Nat) (W : World) (hE : w.Exts W) => rink_planned_any rb c v ps pv W (h.mono hE) (hp.mono hE)
  obtain ⟨qp, cp, rfl⟩ := hp.row.len
  obtain ⟨vt, vb, vh⟩ := v
  obtain ⟨qt, ct, hqt⟩ := h.tr.len
  obtain ⟨qb, cb, hqb⟩ := h.bd.len
  obtain ⟨qh, ch, hqh⟩ := h.hr.len
  dsimp only at hqt hqb hqh
  subst hqt hqb hqh
  clear h hp hsd
  unfold planErr
  dsimp only at ho hv ⊢
  generalize validP c (ps.map Prod.fst) = b at hv ⊢
  generalize coverErr c = err at ho ⊢
  unfold RinkOf at ho ⊢
  have HO := Lib.hid ho
  clear ho
  have HV := Lib.hid hv
  clear hv
  by_cases he : err = 0
  · subst he
    cases b
    · go_enter Tryz.func37, Tryz.ntmps37
      go_wp2_with (first
        | (go_at_call 80; refine (HO.out _ exq).mono ?_; rintro e w' ⟨p, rfl, hp, X1, rfl⟩; obtain ⟨rb, rfl, hl⟩ := hp rfl; have n1 := Lays.of_cell (LaysAs.cell hl 0 _ rfl); have HL := Lib.hid hl; clear hp hl)
        | (go_at_call 81; refine (HV.out _ _ exq (HL.out.exts exq)).mono ?_; rintro e w' ⟨rfl, X2, rfl⟩))
      go_ret2
      exact ⟨⟨_, rfl⟩, exq⟩
    · go_enter Tryz.func37, Tryz.ntmps37
      go_wp2_with (first
        | (go_at_call 80; refine (HO.out _ exq).mono ?_; rintro e w' ⟨p, rfl, hp, X1, rfl⟩; obtain ⟨rb, rfl, hl⟩ := hp rfl; have n1 := Lays.of_cell (LaysAs.cell hl 0 _ rfl); have HL := Lib.hid hl; clear hp hl)
        | (go_at_call 81; refine (HV.out _ _ exq (HL.out.exts exq)).mono ?_; rintro e w' ⟨rfl, X2, rfl⟩))
      go_ret2
      exact ⟨_, rfl, ⟨rb, rfl, HL.out.exts exq⟩, exq⟩
  · rw [if_neg he]
    have e1 : (err != 0) = true := by simpa using he
    have e2 : decide (err = 0) = false := by simpa using he
    go_enter Tryz.func37, Tryz.ntmps37
    go_wp2_with (go_at_call 80; refine (HO.out _ exq).mono ?_; rintro e w' ⟨p, rfl, -, X1, rfl⟩)
    go_ret2
    exact ⟨_, rfl, fun hh => absurd hh he, exq⟩
end Go.Proofs.YtcickafaomfbmaaGreatDoor

/-
  Walks of the reference of ice: loss.
-/
namespace Go.Proofs.YtcickafaomfbmaaGreatDoor
open Go.RowKit Kr
set_option linter.unusedSimpArgs false
set_option linter.unusedVariables false

end Go.Proofs.YtcickafaomfbmaaGreatDoor

/-
  Walks of the reference of ice: how thick ice is.
-/
namespace Go.Proofs.YtcickafaomfbmaaGreatDoor
open Go.RowKit Kr
set_option linter.unusedSimpArgs false
set_option linter.unusedVariables false

theorem thickAt_succ (c : Kr.Cover) (plan : List (List Int)) (i k : Nat) : thickAt c plan i (k + 1) = Kr.stepT c.layer (lossAt c i k) (sprayed plan k i) (thickAt c plan i k) := rfl
theorem laysAs_frz {W : World} {b i : Nat} {cs : Array Value} {t : TypeId} (h : LaysAs W b (.cells cs t (0, 0))) : W.frozen? ⟨b, i, none⟩ = false := by unfold LaysAs at h; simp [World.frozen?, h]
theorem laysAs_put2 {W : World} {b : Nat} {u0 u1 v0 v1 : Value} {t : TypeId} (h : LaysAs W b (.cells [u0, u1].toArray t (0, 0))) : LaysAs ((W.setCell ⟨b, 0, none⟩ v0).setCell ⟨b, 1, none⟩ v1) b (.cells [v0, v1].toArray t (0, 0)) := by
  have h1 := LaysAs.set (cs := [u0, u1]) h (i := 0) v0
  exact LaysAs.set (cs := [v0, u1]) h1 (i := 1) v1

end Go.Proofs.YtcickafaomfbmaaGreatDoor

/-
  Walks of package ice: loss.
-/
namespace Go.Proofs.YtcickafaomfbmaaGreatDoor
open Go.RowKit Kr
set_option linter.unusedSimpArgs false
set_option linter.unusedVariables false

set_option maxRecDepth 4000 in
set_option maxHeartbeats 4000000 in
theorem rink_loss_any (rb : Nat) (c : Kr.Cover) (v : CoverV) (i k : Nat) (w : World) (h : CoverAt w c v) (hr : LaysAs w rb (.cells #[v.t, v.b, v.h, .int .i64 c.wear.lo, .int .i64 c.wear.hi, .int .i64 c.layer.lo, .int .i64 c.layer.hi, .int .i64 c.rate, .int .i64 c.limit, .int .i64 c.base] 156)) (hf : CoverFacts c) (hi : i < c.beds.length) (hk : k < c.hours.length) :
    Calls Tryz.prog 85 #[.pointer (some ⟨rb, 0, none⟩), .int .i64 i, .int .i64 k] w fun e w' => e = .returned (.agg #[.int .i64 (lossAt c i k).lo, .int .i64 (lossAt c i k).hi]) ∧ w.Exts w' := by
  obtain ⟨vt, vb, vh⟩ := v
  obtain ⟨qt, ct, hqt⟩ := h.tr.len
  obtain ⟨qb, cb, hqb⟩ := h.bd.len
  obtain ⟨qh, ch, hqh⟩ := h.hr.len
  dsimp only at hqt hqb hqh
  subst hqt hqb hqh
  have hbd := h.bd
  have hhr := h.hr
  clear h
  have e1 := LaysAs.cell hr 1 _ rfl
  have e2 := LaysAs.cell hr 2 _ rfl
  have e3 := LaysAs.cell hr 3 _ rfl
  have e4 := LaysAs.cell hr 4 _ rfl
  have nr := Lays.of_cell e1
  clear hr
  dsimp only at e1 e2 e3 e4
  obtain ⟨_, bb, bo, _, ebb, hbm, hbq, hbc⟩ := hbd.ex
  cases ebb
  obtain ⟨_, hb, ho, _, eh, hhm, hhq, hhc⟩ := hhr.ex
  cases eh
  obtain ⟨rfl, hlay⟩ := hbq (by omega)
  obtain ⟨rfl, hlay2⟩ := hhq (by omega)
  obtain ⟨b, hb1⟩ := some_of_lt hi
  obtain ⟨r, hr1⟩ := some_of_lt hk
  have hcs := hbc i b hb1
  have hds := hhc k r hr1
  have c0 := hcs 0 _ rfl
  have c1 := hcs 1 _ rfl
  have c2 := hcs 2 _ rfl
  have d0 := hds 0 _ rfl
  have d1 := hds 1 _ rfl
  have d2 := hds 2 _ rfl
  have d3 := hds 3 _ rfl
  have d4 := hds 4 _ rfl
  simp only [Nat.add_zero] at c0 d0
  have hbd2 := loss_bd hf.wear (hf.bed _ (List.mem_of_getElem? hb1)) (hf.hour _ (List.mem_of_getElem? hr1))
  have hl : lossAt c i k = ⟨b.sun * r.melt.lo + r.runs * c.wear.lo, b.sun * r.melt.hi + r.runs * c.wear.hi⟩ := by unfold lossAt lossOf; rw [getD_of hb1, getD_of hr1]
  rw [hl]
  obtain ⟨⟨p1, p2⟩, ⟨p3, p4⟩, ⟨p5, p6⟩, ⟨p7, p8⟩⟩ := hbd2
  have w1 : (i : Int) < (c.beds.length : Int) := by omega
  have w2 : (k : Int) < (c.hours.length : Int) := by omega
  clear hl hcs hds hb1 hr1 hbc hhc hbd hhr hf hbm hhm hbq hhq
  go_enter Tryz.func85, Tryz.ntmps85
  go_wp2_with fail
  go_big_region
  all_goals
    go_wp2_with fail
    refine wp_region_ext_tail 31 (by kernel_rfl) (by kernel_rfl) ?_
    simp only [List.take_succ_cons, List.take_zero, List.drop_succ_cons, List.drop_zero]
    repeat (go_big_quiet_step (fail))
    refine wpQuiet_nil ?_
    rintro _ ⟨X, rfl⟩
    go_wp2_with fail
    refine bodyPost_ret (v := .agg #[.int .i64 (b.sun * r.melt.lo + r.runs * c.wear.lo), .int .i64 (b.sun * r.melt.hi + r.runs * c.wear.hi)]) (by simp [results, Tryz.results85, go_sem]) rfl ?_
    exact ⟨rfl, exq⟩
end Go.Proofs.YtcickafaomfbmaaGreatDoor
