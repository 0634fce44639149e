/-
  Several texts in one: see the heads of its parts.
-/
import Derived.Test.YtkgchngaganokaaGreatDoorVaC
import Derived.Lib.MinMax
import Derived.Test.YtkgchngaganokaaGreatDoorIbR
import Derived.Test.YtkgchngaganokaaGreatDoorJdk
import Derived.Test.YtkgchngaganokaaGreatDoorTf

/-
  Walks of package sheet and of its reference: ranges, which row comes first, check numbers.
-/
namespace Go.Proofs.YtkgchngaganokaaGreatDoor
open Go.RowKit Kr
set_option linter.unusedSimpArgs false
set_option linter.unusedVariables false

theorem sheet_in_1_any (n lo hi : Int) (b1 b2 : Nat) (w : World) (h1 : w.cell? ⟨b1, 0, none⟩ = some (.int .i64 lo)) (h2 : w.cell? ⟨b2, 0, none⟩ = some (.int .i64 hi)) :
    Calls Tryz.prog 75 #[.int .i64 n, .pointer (some ⟨b1, 0, none⟩), .pointer (some ⟨b2, 0, none⟩)] w fun e w' => e = .returned (.bool (!inb lo hi n)) ∧ w.Exts w' := by
  by_cases h : n < lo
  all_goals
    go_enter Tryz.func75, Tryz.ntmps75
    go_wp2
    go_ret
    exact ⟨congrArg Ending.returned (congrArg Value.bool (by unfold inb; rw [Bool.eq_iff_iff]; simp; omega)), exq⟩
set_option maxHeartbeats 400000 in
theorem sheet_in_any (lo hi : Int) (v : Value) (xs : List Int) (w : World) (hrow : IsRow (fun x : Int => [.int .i64 x]) 1 w v xs) :
    Calls Tryz.prog 40 #[.int .i64 lo, .int .i64 hi, v] w fun e w' => e = .returned (.bool (inAll lo hi xs)) ∧ w.Exts w' := by
  have HR := Lib.hid hrow
  clear hrow
  go_enter Tryz.func40, Tryz.ntmps40
  go_wp2_with (go_at_call 74; refine (ContainsFunc_int_any xs (fun n => !inb lo hi n) _ _ v _ ((HR.out.alloc _).alloc _) (enters_of Tryz.func75 (by kernel_rfl) rfl) (answers2 fun x _ W hW => sheet_in_1_any x lo hi _ _ W (hW.cell (by simp)) (hW.cell (by simp)))).mono ?_; rintro e w' ⟨rfl, X2, rfl⟩)
  go_ret
  exact ⟨by rw [inAll_any]; rfl, exq⟩
set_option maxHeartbeats 400000 in
theorem r11_within_any (n lo hi : Int) (w : World) : Calls Tryz.prog 43 #[.int .i64 n, .int .i64 lo, .int .i64 hi] w fun e w' => e = .returned (.bool (inb lo hi n)) ∧ w.Exts w' := by
  rcases Int.lt_or_le n lo with h | h
  · have e : inb lo hi n = false := by unfold inb; simp; omega
    rw [e]
    go_enter Tryz.func43, Tryz.ntmps43
    go_wp2
    go_ret
    exact ⟨rfl, exq⟩
  · have e : inb lo hi n = decide (n ≤ hi) := by unfold inb; simp; omega
    rw [e]
    go_enter Tryz.func43, Tryz.ntmps43
    go_wp2
    go_ret
    exact ⟨rfl, exq⟩

/-- A row's number, where it lies. -/
theorem row_nth {w : World} {b o cap : Nat} {l : List Int} (h : IsRow (fun x : Int => [.int .i64 x]) 1 w (.slice (some ⟨b, o, none⟩) l.length cap) l) (k : Nat) (hk : k < l.length) : w.cell? ⟨b, o + k, none⟩ = some (.int .i64 (nth l k)) := by
  obtain ⟨p, b', o', cap', e, hm, hp, hc⟩ := h.ex
  cases e
  obtain ⟨e, _⟩ := hp (by omega)
  cases e
  have h1 := hc k (nth l k) (by unfold nth; rw [List.getD_eq_getElem?_getD, List.getElem?_eq_getElem hk]; rfl) 0 _ rfl
  simpa using h1

set_option maxHeartbeats 1000000 in
theorem r11_pairs_any (x y : List Int) (vx vy : Value) (w : World) (hx : IsRow (fun x : Int => [.int .i64 x]) 1 w vx x) (hy : IsRow (fun x : Int => [.int .i64 x]) 1 w vy y) (lx : 2 ≤ x.length) (ly : 2 ≤ y.length) :
    Calls Tryz.prog 76 #[vx, vy] w fun e w' => e = .returned (.bool (shLess x y)) ∧ w.Exts w' := by
  obtain ⟨p1, b1, o1, cap1, rfl, hm1, hp1, _⟩ := hx.ex
  obtain ⟨p2, b2, o2, cap2, rfl, hm2, hp2, _⟩ := hy.ex
  obtain ⟨rfl, _⟩ := hp1 (by omega)
  obtain ⟨rfl, _⟩ := hp2 (by omega)
  have a0 := row_nth hx 0 (by omega)
  have a1 := row_nth hx 1 (by omega)
  have c0 := row_nth hy 0 (by omega)
  have c1 := row_nth hy 1 (by omega)
  unfold shLess
  generalize nth x 0 = x0 at *
  generalize nth x 1 = x1 at *
  generalize nth y 0 = y0 at *
  generalize nth y 1 = y1 at *
  clear hx hy hp1 hp2 hm1 hm2
  simp only [Nat.add_zero] at a0 c0
  rw [show decide (x0 = y0) = (x0 == y0) by rw [Bool.eq_iff_iff]; simp]
  cases h1 : decide (x0 < y0) <;> cases h2 : (x0 == y0)
  all_goals
    go_enter Tryz.func76, Tryz.ntmps76
    go_wp2_with fail
    refine wp_region_ext (by kernel_rfl) (by kernel_rfl) ?_
    repeat (go_big_quiet_step (fail))
    refine wpQuiet_nil ?_
    rintro _ ⟨X, rfl⟩
    go_wp2_with fail
    go_ret
    exact ⟨congrArg Ending.returned (congrArg Value.bool (by first | rfl | simp)), exq⟩
end Go.Proofs.YtkgchngaganokaaGreatDoor

/-
  Walks of the reference of sheets: which rows are valid.
-/
namespace Kr
set_option linter.unusedVariables false
theorem rowsOk_step {kd : Int} {l : List (List Int)} {k : Nat} {x last : List Int} (h : l[k]? = some x) : rowsOk kd k last (l.drop k) = (decide (x.length = colsOf kd) && shRow kd k x last && rowsOk kd (k + 1) x (l.drop (k + 1))) := by
  obtain ⟨h1, rfl⟩ := List.getElem?_eq_some_iff.1 h
  rw [List.drop_eq_getElem_cons h1]
  rfl
theorem rowsOk_end {kd : Int} {l : List (List Int)} {k : Nat} {last : List Int} (h : l.length ≤ k) : rowsOk kd k last (l.drop k) = true := by
  rw [List.drop_eq_nil_of_le h]
  rfl
end Kr
namespace Go.Proofs.YtkgchngaganokaaGreatDoor
open Go.RowKit Kr
set_option linter.unusedSimpArgs false
set_option linter.unusedVariables false

/-- Row k of rows of n numbers each, where it lies. -/
theorem list_row {w : World} {b o cap : Nat} {ps : List (List Int × Value)} (h : ListsAt w (.slice (some ⟨b, o, none⟩) ps.length cap) ps) {n : Nat} (hn : ∀ x ∈ ps, x.1.length = n) (h1 : 1 ≤ n) (k : Nat) (hk : k < ps.length) :
    ∃ x bx ox cx, (ps.map Prod.fst)[k]? = some x ∧ x.length = n ∧ w.cell? ⟨b, o + k, none⟩ = some (.slice (some ⟨bx, ox, none⟩) n cx) ∧ n ≤ cx ∧ (∀ j, j < n → w.cell? ⟨bx, ox + j, none⟩ = some (.int .i64 (nth x j))) ∧ IsRow (fun x : Int => [.int .i64 x]) 1 w (.slice (some ⟨bx, ox, none⟩) n cx) x := by
  obtain ⟨p, b', o', cap', e, hm, hp, hc⟩ := h.row.ex
  cases e
  obtain ⟨e, _⟩ := hp (by omega)
  cases e
  obtain ⟨⟨x, xv⟩, hx⟩ := some_of_lt hk
  have hmem := List.mem_of_getElem? hx
  have hxl := hn _ hmem
  have hr := h.mem _ hmem
  dsimp only at hxl hr
  obtain ⟨q, bx, ox, cx, rfl, hmx, hq, _⟩ := hr.ex
  obtain ⟨rfl, _⟩ := hq (by omega)
  have hd := hc k _ hx 0 _ rfl
  rw [hxl] at hr hd hmx
  refine ⟨x, bx, ox, cx, by rw [List.getElem?_map, hx]; rfl, hxl, by simpa using hd, hmx.1, fun j hj => ?_, hr⟩
  rw [← hxl] at hr
  exact row_nth hr j (by omega)
theorem lists_base {w : World} {v : Value} {ps : List (List Int × Value)} (h : ListsAt w v ps) (h0 : 0 < ps.length) : ∃ b o cap, v = .slice (some ⟨b, o, none⟩) ps.length cap := by
  obtain ⟨p, b, o, cap, e, hm, hp, hc⟩ := h.row.ex
  obtain ⟨rfl, _⟩ := hp h0
  exact ⟨b, o, cap, e⟩

set_option maxHeartbeats 2000000 in
theorem r11_ride_any (ps : List (List Int × Value)) (v : Value) (w : World) (h : ListsAt w v ps) (hlen : ∀ x ∈ ps, x.1.length = 2) :
    Calls Tryz.prog 44 #[v] w fun e w' => e = .returned (.bool (manyOk 1 ps.length && rowsOk 1 0 [] (ps.map Prod.fst))) ∧ w.Exts w' := by
  have hmany : manyOk 1 ps.length = inb 1 11 (ps.length : Int) := by unfold manyOk inb; rw [if_pos rfl, Bool.eq_iff_iff]; simp; omega
  rw [hmany]
  cases hb1 : inb 1 11 (ps.length : Int)
  · obtain ⟨q, c, rfl⟩ := h.row.len
    have HB1 := Lib.hid hb1
    clear hb1
    clear h hlen hmany
    go_enter Tryz.func44, Tryz.ntmps44
    go_wp2_with fail
    refine wp_region_ext (by kernel_rfl) (by kernel_rfl) ?_
    repeat (go_big_quiet_step ((go_at_call 43; exact Calls.in_ext_eq (r11_within_any _ _ _ _) (by rw [HB1.out]))))
    refine wpQuiet_nil ?_
    rintro _ ⟨X, rfl⟩
    go_wp2_with fail
    go_ret
    exact ⟨rfl, exq⟩
  · have h0 : 0 < ps.length := by unfold inb at hb1; simp at hb1; omega
    obtain ⟨b, o, cap, rfl⟩ := lists_base h h0
    have hrow := list_row h hlen (by decide)
    obtain ⟨x, bx, ox, cx, hx, hxl, d, hcx, hcs, hxr⟩ := hrow 0 h0
    have c0 := hcs 0 (by decide)
    have c1 := hcs 1 (by decide)
    simp only [Nat.add_zero] at c0 d
    have lb := Lays.of_cell d
    have lx := Lays.of_cell c0
    have hst := rowsOk_step (kd := 1) (last := []) hx
    rw [List.drop_zero, hxl, show shRow 1 0 x [] = (inb 0 86400000 (nth x 0) && inb 0 86400000 (nth x 1) && decide (nth x 0 ≤ nth x 1)) from rfl, show decide (2 = colsOf 1) = true from rfl, Bool.true_and] at hst
    have hsh : (inb 0 86400000 (nth x 0) && inb 0 86400000 (nth x 1) && decide (nth x 0 ≤ nth x 1)) = (inb 0 (nth x 1) (nth x 0) && !decide (86400000 < nth x 1)) := by
      unfold inb
      rw [Bool.eq_iff_iff]
      simp
      omega
    rw [hsh] at hst
    rw [hst, Bool.true_and]
    generalize nth x 0 = x0 at *
    generalize nth x 1 = x1 at *
    have hnl : ¬ ps.length = 0 := by omega
    have hm9 : (ps.length : Int) ≤ 11 := by unfold inb at hb1; simp at hb1; omega
    have HM9 := Lib.hid hm9
    clear hm9
    have HB1 := Lib.hid hb1
    clear hb1
    have HROW := Lib.hid hrow
    clear hrow
    have wl : (0 : Int) < (ps.length : Int) := by omega
    clear h hlen hmany hsh hcs hxr hxl
    cases hb2 : inb 0 x1 x0
    · have HB2 := Lib.hid hb2
      clear hb2
      clear hx hst
      go_enter Tryz.func44, Tryz.ntmps44
      go_wp2_with fail
      refine wp_region_ext (by kernel_rfl) (by kernel_rfl) ?_
      repeat (go_big_quiet_step (first | (go_at_call 43; exact Calls.in_ext_eq (r11_within_any _ _ _ _) (by rw [HB1.out])) | (go_at_call 43; exact Calls.in_ext_eq (r11_within_any _ _ _ _) (by rw [HB2.out]))))
      refine wpQuiet_nil ?_
      rintro _ ⟨X, rfl⟩
      go_wp2_with fail
      go_ret
      exact ⟨rfl, exq⟩
    cases hb3 : decide (86400000 < x1)
    rotate_left
    · have HB2 := Lib.hid hb2
      clear hb2
      clear hx hst
      go_enter Tryz.func44, Tryz.ntmps44
      go_wp2_with fail
      refine wp_region_ext (by kernel_rfl) (by kernel_rfl) ?_
      repeat (go_big_quiet_step (first | (go_at_call 43; exact Calls.in_ext_eq (r11_within_any _ _ _ _) (by rw [HB1.out])) | (go_at_call 43; exact Calls.in_ext_eq (r11_within_any _ _ _ _) (by rw [HB2.out]))))
      refine wpQuiet_nil ?_
      rintro _ ⟨X, rfl⟩
      go_wp2_with fail
      go_ret
      exact ⟨rfl, exq⟩
    · have HB2 := Lib.hid hb2
      clear hb2
      have HST := Lib.hid hst
      clear hst
      rw [show (true && !false) = true from rfl, Bool.true_and]
      obtain ⟨R, hR⟩ : ∃ r, rowsOk 1 1 x ((ps.map Prod.fst).drop 1) = r := ⟨_, rfl⟩
      have hR0 : rowsOk 1 1 ((ps.map Prod.fst).getD (1 - 1) []) ((ps.map Prod.fst).drop 1) = R := by rw [← hR, show 1 - 1 = 0 from rfl, List.getD_eq_getElem?_getD, hx]; rfl
      rw [hR]
      have HR0 := Lib.hid hR0
      clear hR0
      have HX := Lib.hid hx
      clear hx
      clear hR
      go_enter Tryz.func44, Tryz.ntmps44
      go_wp2_with fail
      refine wp_region_ext (by kernel_rfl) (by kernel_rfl) ?_
      repeat (go_big_quiet_step (first | (go_at_call 43; exact Calls.in_ext_eq (r11_within_any _ _ _ _) (by rw [HB1.out])) | (go_at_call 43; exact Calls.in_ext_eq (r11_within_any _ _ _ _) (by rw [HB2.out]))))
      refine wpQuiet_nil ?_
      rintro _ ⟨X, rfl⟩
      go_wp2_with fail
      clear c0 c1 d lb lx
      go_loopw [3] (fun i wr => ∃ k : Nat, 1 ≤ k ∧ k ≤ ps.length ∧ i = .int .i64 k ∧ Hid (rowsOk 1 k ((ps.map Prod.fst).getD (k - 1) []) ((ps.map Prod.fst).drop k) = R) ∧ w.Exts wr) (fun i _ => ps.length - (intOf i).toNat)
      case atStart => exact ⟨1, Nat.le_refl _, by omega, rfl, HR0, exq⟩
      case round =>
        obtain ⟨k, hk1, hk, rfl, hrk, X3, rfl⟩ := hrel
        rcases Nat.lt_or_ge k ps.length with hlt | hge
        · obtain ⟨y, by_, oy, cy, hy, hyl, e, hcy, hcs, hyr⟩ := HROW.out k hlt
          obtain ⟨z, bz, oz, cz, hz, hzl, f, hcz, hds, hzr⟩ := HROW.out (k - 1) (by omega)
          have hst := rowsOk_step (kd := 1) (last := z) hy
          rw [hyl, show shRow 1 k y z = (inb 0 5 (nth y 0) && inb 0 86400000 (nth y 1) && (decide (k = 1) || shLess z y)) by unfold shRow rideRow; rw [if_pos rfl, if_neg (by omega)], show decide (2 = colsOf 1) = true from rfl, Bool.true_and] at hst
          have hrk2 := hrk.out
          rw [show (ps.map Prod.fst).getD (k - 1) [] = z by rw [List.getD_eq_getElem?_getD, hz]; rfl, hst] at hrk2
          have c0 := hcs 0 (by decide)
          have c1 := hcs 1 (by decide)
          simp only [Nat.add_zero] at c0
          have hpz := fun (W : World) (hE : w.Exts W) => r11_pairs_any z y _ _ W ((show IsRow (fun x : Int => [.int .i64 x]) 1 w (.slice (some ⟨bz, oz, none⟩) 2 cz) z from hzr).mono hE) (hyr.mono hE) (by omega) (by omega)
          generalize nth y 0 = y0 at *
          generalize nth y 1 = y1 at *
          generalize shLess z y = s at *
          have lb := Lays.of_cell e
          have ly := Lays.of_cell c0
          have hnx : rowsOk 1 (k + 1) ((ps.map Prod.fst).getD (k + 1 - 1) []) ((ps.map Prod.fst).drop (k + 1)) = rowsOk 1 (k + 1) y ((ps.map Prod.fst).drop (k + 1)) := by rw [Nat.add_sub_cancel, List.getD_eq_getElem?_getD, hy]; rfl
          have w1 : (k : Int) < (ps.length : Int) := by omega
          have w2 : (k : Int) - 1 < (ps.length : Int) := by omega
          have w3 : (0 : Int) ≤ (k : Int) - 1 := by omega
          have w4 : (k : Int) ≤ 9223372036854775800 := by have := HM9.out; omega
          have lf := Lays.of_cell f
          have HPZ := Lib.hid hpz
          clear hpz
          have HNX := Lib.hid hnx
          clear hnx
          clear hst hrk hy hyl hz hzl hcs hds hyr hzr
          cases ha1 : inb 0 5 y0
          · rw [ha1] at hrk2
            have HA1 := Lib.hid ha1
            clear ha1
            have HRK := Lib.hid hrk2
            clear hrk2
            go_wp2_with fail
            refine wp_region_ext (by kernel_rfl) (by kernel_rfl) ?_
            repeat (go_big_quiet_step ((go_at_call 43; exact Calls.in_ext_eq (r11_within_any _ _ _ _) (by rw [HA1.out]))))
            refine wpQuiet_nil ?_
            rintro _ ⟨X, rfl⟩
            go_wp2_with fail
            go_ret
            exact ⟨by rw [← HRK.out]; rfl, exq⟩
          cases ha2 : inb 0 86400000 y1
          · rw [ha1, ha2] at hrk2
            have HA1 := Lib.hid ha1
            clear ha1
            have HA2 := Lib.hid ha2
            clear ha2
            have HRK := Lib.hid hrk2
            clear hrk2
            go_wp2_with fail
            refine wp_region_ext (by kernel_rfl) (by kernel_rfl) ?_
            repeat (go_big_quiet_step (first | (go_at_call 43; exact Calls.in_ext_eq (r11_within_any _ _ _ _) (by rw [HA1.out])) | (go_at_call 43; exact Calls.in_ext_eq (r11_within_any _ _ _ _) (by rw [HA2.out]))))
            refine wpQuiet_nil ?_
            rintro _ ⟨X, rfl⟩
            go_wp2_with fail
            go_ret
            exact ⟨by rw [← HRK.out]; rfl, exq⟩
          rw [ha1, ha2] at hrk2
          have HA1 := Lib.hid ha1
          clear ha1
          have HA2 := Lib.hid ha2
          clear ha2
          rcases Nat.eq_or_lt_of_le hk1 with hk2 | hk2
          · have e1 : decide (1 < k) = false := by simp; omega
            have e2 : decide ((1 : Int) < (k : Int)) = false := by simp; omega
            rw [decide_eq_true hk2.symm] at hrk2
            have HRK := Lib.hid hrk2
            clear hrk2
            clear hk2
            go_wp2_with fail
            refine wp_region_ext (by kernel_rfl) (by kernel_rfl) ?_
            repeat (go_big_quiet_step (first | (go_at_call 43; exact Calls.in_ext_eq (r11_within_any _ _ _ _) (by rw [HA1.out])) | (go_at_call 43; exact Calls.in_ext_eq (r11_within_any _ _ _ _) (by rw [HA2.out]))))
            refine wpQuiet_nil ?_
            rintro _ ⟨X, rfl⟩
            go_wp2_with fail
            go_roundw
            case rel => exact ⟨k + 1, by omega, by omega, by go_num, Lib.hid (by rw [HNX.out, ← HRK.out]; rfl), exq⟩
            case measure => simp [intOf]; omega
          · have e1 : decide (1 < k) = true := by simp; omega
            have e2 : decide ((1 : Int) < (k : Int)) = true := by simp; omega
            rw [decide_eq_false (show ¬ k = 1 by omega)] at hrk2
            cases s
            · have HRK := Lib.hid hrk2
              clear hrk2
              go_wp2_with fail
              refine wp_region_ext (by kernel_rfl) (by kernel_rfl) ?_
              repeat (go_big_quiet_step (first | (go_at_call 43; exact Calls.in_ext_eq (r11_within_any _ _ _ _) (by rw [HA1.out])) | (go_at_call 43; exact Calls.in_ext_eq (r11_within_any _ _ _ _) (by rw [HA2.out])) | (go_at_call 76; exact Calls.in_ext (HPZ.out _ exq))))
              refine wpQuiet_nil ?_
              rintro _ ⟨X, rfl⟩
              go_wp2_with fail
              go_ret
              exact ⟨by rw [← HRK.out]; rfl, exq⟩
            · have HRK := Lib.hid hrk2
              clear hrk2
              go_wp2_with fail
              refine wp_region_ext (by kernel_rfl) (by kernel_rfl) ?_
              repeat (go_big_quiet_step (first | (go_at_call 43; exact Calls.in_ext_eq (r11_within_any _ _ _ _) (by rw [HA1.out])) | (go_at_call 43; exact Calls.in_ext_eq (r11_within_any _ _ _ _) (by rw [HA2.out])) | (go_at_call 76; exact Calls.in_ext (HPZ.out _ exq))))
              refine wpQuiet_nil ?_
              rintro _ ⟨X, rfl⟩
              go_wp2_with fail
              go_roundw
              case rel => exact ⟨k + 1, by omega, by omega, by go_num, Lib.hid (by rw [HNX.out, ← HRK.out]; rfl), exq⟩
              case measure => simp [intOf]; omega
        · have hfin : R = true := by rw [← hrk.out]; exact rowsOk_end (by rw [List.length_map]; omega)
          have hnl2 : ¬ k < ps.length := by omega
          have HFIN := Lib.hid hfin
          clear hfin
          go_wp2_with fail
          go_ret
          exact ⟨by rw [HFIN.out]; rfl, exq⟩
end Go.Proofs.YtkgchngaganokaaGreatDoor

/-
  Walks of the reference of sheets: an ice book's rows, an inspection's rows.
-/
namespace Go.Proofs.YtkgchngaganokaaGreatDoor
open Go.RowKit Kr
set_option linter.unusedSimpArgs false
set_option linter.unusedVariables false

set_option maxHeartbeats 4000000 in
theorem r11_book_any (ps : List (List Int × Value)) (v : Value) (w : World) (h : ListsAt w v ps) (hlen : ∀ x ∈ ps, x.1.length = 5) (hn : ps.length ≤ 1000) :
    Calls Tryz.prog 46 #[v] w fun e w' => e = .returned (.bool (rowsOk 3 0 [] (ps.map Prod.fst))) ∧ w.Exts w' := by
  obtain ⟨R, hR⟩ : ∃ r, rowsOk 3 0 [] (ps.map Prod.fst) = r := ⟨_, rfl⟩
  have hR0 : rowsOk 3 0 (if 0 = 0 then [] else (ps.map Prod.fst).getD (0 - 1) []) ((ps.map Prod.fst).drop 0) = R := by rw [← hR]; rfl
  rw [hR]
  obtain ⟨q, cap, hv⟩ := h.row.len
  subst hv
  have hrow : ∀ k, k < ps.length → ∃ b o, q = some ⟨b, o, none⟩ ∧ ∃ x bx ox cx, (ps.map Prod.fst)[k]? = some x ∧ x.length = 5 ∧ w.cell? ⟨b, o + k, none⟩ = some (.slice (some ⟨bx, ox, none⟩) 5 cx) ∧ 5 ≤ cx ∧ (∀ j, j < 5 → w.cell? ⟨bx, ox + j, none⟩ = some (.int .i64 (nth x j))) ∧ IsRow (fun x : Int => [.int .i64 x]) 1 w (.slice (some ⟨bx, ox, none⟩) 5 cx) x := fun k hk => by
    obtain ⟨b, o, c, e⟩ := lists_base h (by omega)
    cases e
    exact ⟨b, o, rfl, list_row h hlen (by decide) k hk⟩
  have HROW := Lib.hid hrow
  clear hrow
  have HR0 := Lib.hid hR0
  clear hR0
  clear h hlen hR
  go_enter Tryz.func46, Tryz.ntmps46
  go_wp2_with fail
  go_loopw [3, 4] (fun i _ wr => ∃ k : Nat, k ≤ ps.length ∧ i = .int .i64 k ∧ Hid (rowsOk 3 k (if k = 0 then [] else (ps.map Prod.fst).getD (k - 1) []) ((ps.map Prod.fst).drop k) = R) ∧ w.Exts wr) (fun i _ _ => ps.length - (intOf i).toNat)
  case atStart => exact ⟨0, by omega, rfl, HR0, exq⟩
  case round =>
    obtain ⟨k, hk, rfl, hrk, X3, rfl⟩ := hrel
    rcases Nat.lt_or_ge k ps.length with hlt | hge
    · obtain ⟨b, o, rfl, y, by_, oy, cy, hy, hyl, e, hcy, hcs, hyr⟩ := HROW.out k hlt
      obtain ⟨last, hlast⟩ : ∃ l, (if k = 0 then [] else (ps.map Prod.fst).getD (k - 1) []) = l := ⟨_, rfl⟩
      have hst := rowsOk_step (kd := 3) (last := last) hy
      have hrow3 : shRow 3 k y last = (inb 0 7 (nth y 0) && (inb 0 11 (nth y 1) && (inb 0 (nth y 3) (nth y 2) && (!decide (2800 < nth y 3) && (inb 0 1 (nth y 4) && (decide (k = 0) || shLess last y)))))) := by
        show iceRow k y last = _
        unfold iceRow inb
        generalize (decide (k = 0) || shLess last y) = s
        cases s
        · simp
        · rw [Bool.eq_iff_iff]
          simp
          omega
      rw [hyl, hrow3, show decide (5 = colsOf 3) = true from rfl, Bool.true_and] at hst
      have hrk2 := hrk.out
      rw [hlast, hst] at hrk2
      have c0 := hcs 0 (by decide)
      have c1 := hcs 1 (by decide)
      have c2 := hcs 2 (by decide)
      have c3 := hcs 3 (by decide)
      have c4 := hcs 4 (by decide)
      simp only [Nat.add_zero] at c0
      have hnx : rowsOk 3 (k + 1) (if k + 1 = 0 then [] else (ps.map Prod.fst).getD (k + 1 - 1) []) ((ps.map Prod.fst).drop (k + 1)) = rowsOk 3 (k + 1) y ((ps.map Prod.fst).drop (k + 1)) := by rw [if_neg (by omega), Nat.add_sub_cancel, List.getD_eq_getElem?_getD, hy]; rfl
      have hp3 : 0 < k → ∃ bz oz cz, w.cell? ⟨b, o + (k - 1), none⟩ = some (.slice (some ⟨bz, oz, none⟩) 5 cz) ∧ 5 ≤ cz ∧ ∀ W : World, w.Exts W → Calls Tryz.prog 76 #[.slice (some ⟨bz, oz, none⟩) 5 cz, .slice (some ⟨by_, oy, none⟩) 5 cy] W fun e w' => e = .returned (.bool (shLess last y)) ∧ W.Exts w' := fun h0 => by
        obtain ⟨b', o', e', z, bz, oz, cz, hz, hzl, f, hcz, hds, hzr⟩ := HROW.out (k - 1) (by omega)
        cases e'
        rw [if_neg (by omega), List.getD_eq_getElem?_getD, hz] at hlast
        subst hlast
        exact ⟨bz, oz, cz, f, hcz, fun W hE => r11_pairs_any z y _ _ W (hzr.mono hE) (hyr.mono hE) (by omega) (by omega)⟩
      generalize nth y 0 = y0 at *
      generalize nth y 1 = y1 at *
      generalize nth y 2 = y2 at *
      generalize nth y 3 = y3 at *
      generalize nth y 4 = y4 at *
      generalize shLess last y = s at *
      have lb := Lays.of_cell e
      have ly := Lays.of_cell c0
      have w1 : (k : Int) < (ps.length : Int) := by omega
      have HNX := Lib.hid hnx
      clear hnx
      have HP3 := Lib.hid hp3
      clear hp3
      clear hst hrk hy hyl hcs hyr hrow3 hlast
      cases ha1 : inb 0 7 y0
      · rw [ha1] at hrk2
        have HA1 := Lib.hid ha1
        clear ha1
        have HRK := Lib.hid hrk2
        clear hrk2
        go_wp2_with fail
        refine wp_region_ext (by kernel_rfl) (by kernel_rfl) ?_
        repeat (go_big_quiet_step ((go_at_call 43; exact Calls.in_ext_eq (r11_within_any _ _ _ _) (by first | rw [HA1.out] | rw [HA2.out] | rw [HA3.out] | rw [HA4.out]))))
        refine wpQuiet_nil ?_
        rintro _ ⟨X, rfl⟩
        go_wp2_with fail
        go_ret
        exact ⟨by rw [← HRK.out]; rfl, exq⟩
      cases ha2 : inb 0 11 y1
      · rw [ha1, ha2] at hrk2
        have HA1 := Lib.hid ha1
        clear ha1
        have HA2 := Lib.hid ha2
        clear ha2
        have HRK := Lib.hid hrk2
        clear hrk2
        go_wp2_with fail
        refine wp_region_ext (by kernel_rfl) (by kernel_rfl) ?_
        repeat (go_big_quiet_step ((go_at_call 43; exact Calls.in_ext_eq (r11_within_any _ _ _ _) (by first | rw [HA1.out] | rw [HA2.out] | rw [HA3.out] | rw [HA4.out]))))
        refine wpQuiet_nil ?_
        rintro _ ⟨X, rfl⟩
        go_wp2_with fail
        go_ret
        exact ⟨by rw [← HRK.out]; rfl, exq⟩
      cases ha3 : inb 0 y3 y2
      · rw [ha1, ha2, ha3] at hrk2
        have HA1 := Lib.hid ha1
        clear ha1
        have HA2 := Lib.hid ha2
        clear ha2
        have HA3 := Lib.hid ha3
        clear ha3
        have HRK := Lib.hid hrk2
        clear hrk2
        go_wp2_with fail
        refine wp_region_ext (by kernel_rfl) (by kernel_rfl) ?_
        repeat (go_big_quiet_step ((go_at_call 43; exact Calls.in_ext_eq (r11_within_any _ _ _ _) (by first | rw [HA1.out] | rw [HA2.out] | rw [HA3.out] | rw [HA4.out]))))
        refine wpQuiet_nil ?_
        rintro _ ⟨X, rfl⟩
        go_wp2_with fail
        go_ret
        exact ⟨by rw [← HRK.out]; rfl, exq⟩
      cases hg3 : decide (2800 < y3)
      rotate_left
      · rw [ha1, ha2, ha3, hg3] at hrk2
        have HA1 := Lib.hid ha1
        clear ha1
        have HA2 := Lib.hid ha2
        clear ha2
        have HA3 := Lib.hid ha3
        clear ha3
        have HRK := Lib.hid hrk2
        clear hrk2
        go_wp2_with fail
        refine wp_region_ext (by kernel_rfl) (by kernel_rfl) ?_
        repeat (go_big_quiet_step ((go_at_call 43; exact Calls.in_ext_eq (r11_within_any _ _ _ _) (by first | rw [HA1.out] | rw [HA2.out] | rw [HA3.out] | rw [HA4.out]))))
        refine wpQuiet_nil ?_
        rintro _ ⟨X, rfl⟩
        go_wp2_with fail
        go_ret
        exact ⟨by rw [← HRK.out]; rfl, exq⟩
      cases ha4 : inb 0 1 y4
      · rw [ha1, ha2, ha3, hg3, ha4] at hrk2
        have HA1 := Lib.hid ha1
        clear ha1
        have HA2 := Lib.hid ha2
        clear ha2
        have HA3 := Lib.hid ha3
        clear ha3
        have HA4 := Lib.hid ha4
        clear ha4
        have HRK := Lib.hid hrk2
        clear hrk2
        go_wp2_with fail
        refine wp_region_ext (by kernel_rfl) (by kernel_rfl) ?_
        repeat (go_big_quiet_step ((go_at_call 43; exact Calls.in_ext_eq (r11_within_any _ _ _ _) (by first | rw [HA1.out] | rw [HA2.out] | rw [HA3.out] | rw [HA4.out]))))
        refine wpQuiet_nil ?_
        rintro _ ⟨X, rfl⟩
        go_wp2_with fail
        go_ret
        exact ⟨by rw [← HRK.out]; rfl, exq⟩
      rw [ha1, ha2, ha3, hg3, ha4] at hrk2
      have HA1 := Lib.hid ha1
      clear ha1
      have HA2 := Lib.hid ha2
      clear ha2
      have HA3 := Lib.hid ha3
      clear ha3
      have HA4 := Lib.hid ha4
      clear ha4
      rcases Nat.eq_zero_or_pos k with hk2 | hk2
      · have e1 : decide (0 < k) = false := by simp; omega
        have e2 : decide ((0 : Int) < (k : Int)) = false := by simp; omega
        rw [decide_eq_true hk2] at hrk2
        have HRK := Lib.hid hrk2
        clear hrk2
        clear hk2
        go_wp2_with fail
        refine wp_region_ext (by kernel_rfl) (by kernel_rfl) ?_
        repeat (go_big_quiet_step ((go_at_call 43; exact Calls.in_ext_eq (r11_within_any _ _ _ _) (by first | rw [HA1.out] | rw [HA2.out] | rw [HA3.out] | rw [HA4.out]))))
        refine wpQuiet_nil ?_
        rintro _ ⟨X, rfl⟩
        go_wp2_with fail
        go_roundw
        case rel => exact ⟨k + 1, by omega, by go_num, Lib.hid (by rw [HNX.out, ← HRK.out]; rfl), exq⟩
        case measure => simp [intOf]; omega
      · have e1 : decide (0 < k) = true := by simp; omega
        have e2 : decide ((0 : Int) < (k : Int)) = true := by simp; omega
        rw [decide_eq_false (show ¬ k = 0 by omega)] at hrk2
        obtain ⟨bz, oz, cz, f, hcz, hpz⟩ := HP3.out hk2
        have lf := Lays.of_cell f
        have w2 : (k : Int) - 1 < (ps.length : Int) := by omega
        have w3 : (0 : Int) ≤ (k : Int) - 1 := by omega
        have HPZ := Lib.hid hpz
        clear hpz
        cases s
        · --[G
          have HRK := Lib.hid hrk2
          clear hrk2
          go_wp2_with fail
          refine wp_region_ext (by kernel_rfl) (by kernel_rfl) ?_
          repeat (go_big_quiet_step (first | (go_at_call 43; exact Calls.in_ext_eq (r11_within_any _ _ _ _) (by first | rw [HA1.out] | rw [HA2.out] | rw [HA3.out] | rw [HA4.out])) | (go_at_call 76; exact Calls.in_ext (HPZ.out _ exq))))
          refine wpQuiet_nil ?_
          rintro _ ⟨X, rfl⟩
          go_wp2_with fail
          go_ret
          exact ⟨by rw [← HRK.out]; rfl, exq⟩
        · have HRK := Lib.hid hrk2
          clear hrk2
          go_wp2_with fail
          refine wp_region_ext (by kernel_rfl) (by kernel_rfl) ?_
          repeat (go_big_quiet_step (first | (go_at_call 43; exact Calls.in_ext_eq (r11_within_any _ _ _ _) (by first | rw [HA1.out] | rw [HA2.out] | rw [HA3.out] | rw [HA4.out])) | (go_at_call 76; exact Calls.in_ext (HPZ.out _ exq))))
          refine wpQuiet_nil ?_
          rintro _ ⟨X, rfl⟩
          go_wp2_with fail
          go_roundw
          case rel => exact ⟨k + 1, by omega, by go_num, Lib.hid (by rw [HNX.out, ← HRK.out]; rfl), exq⟩
          case measure => simp [intOf]; omega
    · have hfin : R = true := by rw [← hrk.out]; exact rowsOk_end (by rw [List.length_map]; omega)
      have hnl2 : ¬ k < ps.length := by omega
      have HFIN := Lib.hid hfin
      clear hfin
      go_wp2_with fail
      go_ret
      exact ⟨by rw [HFIN.out]; rfl, exq⟩
end Go.Proofs.YtkgchngaganokaaGreatDoor

/-
  Walks of the reference of sheets: an inspection's rows, a start list's rows.
-/
namespace Kr
set_option linter.unusedVariables false
theorem shLeast_step {l : List (List Int)} {k : Nat} {x : List Int} (h : l[k]? = some x) : shLeast (l.take (k + 1)) = min (shLeast (l.take k)) (nth x 1) := by
  unfold shLeast
  rw [List.take_add_one, h, Option.toList_some, List.foldl_append]
  rfl
/-- No two rows before row k have the same second number. -/
def ApartTo (l : List (List Int)) (k : Nat) : Prop := ∀ (i j : Nat) (x y : List Int), l[i]? = some x → l[j]? = some y → i < j → j < k → nth x 1 ≠ nth y 1
theorem nodup_apart (l : List (List Int)) : (l.map fun x => nth x 1).Nodup ↔ ApartTo l l.length := by
  unfold List.Nodup ApartTo
  rw [List.pairwise_iff_getElem]
  constructor
  · intro h i j x y hx hy hij hj e
    obtain ⟨h1, rfl⟩ := List.getElem?_eq_some_iff.1 hx
    obtain ⟨h2, rfl⟩ := List.getElem?_eq_some_iff.1 hy
    have := h i j (by rw [List.length_map]; exact h1) (by rw [List.length_map]; exact h2) hij
    rw [List.getElem_map, List.getElem_map] at this
    exact this e
  · intro h i j hi hj hij
    rw [List.length_map] at hi hj
    rw [List.getElem_map, List.getElem_map]
    exact h i j _ _ (List.getElem?_eq_getElem hi) (List.getElem?_eq_getElem hj) hij hj
end Kr
namespace Go.Proofs.YtkgchngaganokaaGreatDoor
open Go.RowKit Kr
set_option linter.unusedSimpArgs false
set_option linter.unusedVariables false

set_option maxHeartbeats 4000000 in
theorem r11_judge_any (ps : List (List Int × Value)) (v : Value) (w : World) (h : ListsAt w v ps) (hlen : ∀ x ∈ ps, x.1.length = 2) :
    Calls Tryz.prog 47 #[v] w fun e w' => e = .returned (.bool (manyOk 4 ps.length && (rowsOk 4 0 [] (ps.map Prod.fst) && lastOk 4 (ps.map Prod.fst)))) ∧ w.Exts w' := by
  by_cases h6 : ps.length = 6
  rotate_left
  · have hm : manyOk 4 ps.length = false := by unfold manyOk; simp; exact h6
    obtain ⟨q, cap, rfl⟩ := h.row.len
    have h6i : ¬ (ps.length : Int) = 6 := by omega
    rw [hm, Bool.false_and]
    clear h hlen hm
    go_enter Tryz.func47, Tryz.ntmps47
    go_wp2_with fail
    go_ret
    exact ⟨rfl, exq⟩
  · have hm : manyOk 4 ps.length = true := by unfold manyOk; simp; exact h6
    rw [hm, Bool.true_and]
    obtain ⟨R, hR⟩ : ∃ r, rowsOk 4 0 [] (ps.map Prod.fst) = r := ⟨_, rfl⟩
    have hR0 : rowsOk 4 0 ((ps.map Prod.fst).getD (0 - 1) []) ((ps.map Prod.fst).drop 0) = R := by
      rw [← hR, List.drop_zero]
      cases ps with
      | nil => rfl
      | cons a l => simp [rowsOk, shRow, judgeRow]
    obtain ⟨L, hL⟩ : ∃ r, lastOk 4 (ps.map Prod.fst) = r := ⟨_, rfl⟩
    rw [hR, hL]
    obtain ⟨b, o, cap, hv⟩ := lists_base h (by omega)
    subst hv
    have hrow := list_row h hlen (by decide)
    obtain ⟨z, bz, oz, cz, hz, hzl, f, hcz, hds, hzr⟩ := hrow 5 (by omega)
    have f1 := hds 1 (by decide)
    have hLL : L = decide (nth z 1 = shLeast ((ps.map Prod.fst).take 5)) := by
      rw [← hL]
      unfold lastOk
      rw [if_neg (by decide), if_pos rfl, List.getD_eq_getElem?_getD, hz]
      rfl
    rw [h6] at hrow ⊢
    generalize nth z 1 = z1 at *
    have lf := Lays.of_cell f
    have lz := Lays.of_cell f1
    have HROW := Lib.hid hrow
    clear hrow
    have HR0 := Lib.hid hR0
    clear hR0
    have HLL := Lib.hid hLL
    clear hLL
    have H6 := Lib.hid h6
    clear h6
    clear h hlen hR hL hm hz hzl hds hzr
    go_enter Tryz.func47, Tryz.ntmps47
    go_wp2_with fail
    go_loopw [3, 4] (fun a i wr => ∃ (k : Nat) (y : Int), k ≤ 6 ∧ i = .int .i64 k ∧ a = .int .i64 y ∧ Hid (rowsOk 4 k ((ps.map Prod.fst).getD (k - 1) []) ((ps.map Prod.fst).drop k) = R ∧ y = shLeast ((ps.map Prod.fst).take (min k 5))) ∧ w.Exts wr) (fun _ i _ => 6 - (intOf i).toNat)
    case atStart => exact ⟨0, 2, by omega, rfl, rfl, Lib.hid ⟨HR0.out, rfl⟩, exq⟩
    case round =>
      obtain ⟨k, m, hk, rfl, rfl, hrk, X3, rfl⟩ := hrel
      rcases Nat.lt_or_ge k 6 with hlt | hge
      · obtain ⟨y, by_, oy, cy, hy, hyl, e, hcy, hcs, hyr⟩ := HROW.out k hlt
        have hst := rowsOk_step (kd := 4) (last := (ps.map Prod.fst).getD (k - 1) []) hy
        rw [hyl, show shRow 4 k y ((ps.map Prod.fst).getD (k - 1) []) = (decide (nth y 0 = (k : Int)) && inb 0 2 (nth y 1)) from rfl, show decide (2 = colsOf 4) = true from rfl, Bool.true_and] at hst
        obtain ⟨hrk2, hmk⟩ := hrk.out
        rw [hst, show decide (nth y 0 = (k : Int)) = (nth y 0 == (k : Int)) by rw [Bool.eq_iff_iff]; simp] at hrk2
        have c0 := hcs 0 (by decide)
        have c1 := hcs 1 (by decide)
        simp only [Nat.add_zero] at c0
        have hnx : rowsOk 4 (k + 1) ((ps.map Prod.fst).getD (k + 1 - 1) []) ((ps.map Prod.fst).drop (k + 1)) = rowsOk 4 (k + 1) y ((ps.map Prod.fst).drop (k + 1)) := by rw [Nat.add_sub_cancel, List.getD_eq_getElem?_getD, hy]; rfl
        have hls := shLeast_step hy
        generalize nth y 0 = y0 at *
        generalize nth y 1 = y1 at *
        have lb := Lays.of_cell e
        have ly := Lays.of_cell c0
        have w1 : (k : Int) < 6 := by omega
        have HNX := Lib.hid hnx
        clear hnx
        have HLS := Lib.hid hls
        clear hls
        have HMK := Lib.hid hmk
        clear hmk
        clear hst hrk hy hyl hcs hyr
        cases hg0 : (y0 == (k : Int))
        · have hg1 : (y0 != (k : Int)) = true := by rw [bne, hg0]; rfl
          have hg2 : ¬ y0 = (k : Int) := by simpa using hg0
          rw [hg0] at hrk2
          have HRK := Lib.hid hrk2
          clear hrk2
          go_wp2_with fail
          go_ret
          exact ⟨by rw [← HRK.out]; rfl, exq⟩
        have hg2 : y0 = (k : Int) := by simpa using hg0
        have hg1 : (y0 != (k : Int)) = false := by rw [bne, hg0]; rfl
        rw [hg0] at hrk2
        cases ha1 : inb 0 2 y1
        · rw [ha1] at hrk2
          have HA1 := Lib.hid ha1
          clear ha1
          subst hg2
          have HRK := Lib.hid hrk2
          clear hrk2
          go_wp2_with (go_at_call 43; refine (r11_within_any _ _ _ _).mono ?_; rintro e w' ⟨rfl, X4, rfl⟩; rw [HA1.out])
          go_ret
          exact ⟨by rw [← HRK.out]; rfl, exq⟩
        rw [ha1] at hrk2
        have HA1 := Lib.hid ha1
        clear ha1
        have HRK := Lib.hid hrk2
        clear hrk2
        subst hg2
        rcases Nat.lt_or_ge k 5 with hk5 | hk5
        · have w5 : (k : Int) < 5 := by omega
          go_wp2_with (go_at_call 43; refine (r11_within_any _ _ _ _).mono ?_; rintro e w' ⟨rfl, X4, rfl⟩; rw [HA1.out])
          go_roundw
          case rel => exact ⟨k + 1, min m y1, by omega, by go_num, rfl, Lib.hid ⟨by rw [HNX.out, ← HRK.out]; rfl, by rw [Nat.min_eq_left (by omega : k + 1 ≤ 5), HLS.out, HMK.out, Nat.min_eq_left (by omega : k ≤ 5)]⟩, exq⟩
          case measure => simp [intOf]; omega
        · have w5 : ¬ (k : Int) < 5 := by omega
          go_wp2_with (go_at_call 43; refine (r11_within_any _ _ _ _).mono ?_; rintro e w' ⟨rfl, X4, rfl⟩; rw [HA1.out])
          go_roundw
          case rel => exact ⟨k + 1, m, by omega, by go_num, rfl, Lib.hid ⟨by rw [HNX.out, ← HRK.out]; rfl, by rw [Nat.min_eq_right (by omega : 5 ≤ k + 1), HMK.out, Nat.min_eq_right (by omega : 5 ≤ k)]⟩, exq⟩
          case measure => simp [intOf]; omega
      · have hk6 : k = 6 := by omega
        obtain ⟨hr1, hr2⟩ := hrk.out
        have hfin : R = true := by rw [← hr1]; exact rowsOk_end (by rw [List.length_map, H6.out]; omega)
        rw [Nat.min_eq_right (by omega : 5 ≤ k)] at hr2
        subst hk6
        have hv : (R && L) = (z1 == m) := by rw [hfin, Bool.true_and, HLL.out, hr2, Bool.eq_iff_iff]; simp
        have HV := Lib.hid hv
        clear hv
        clear hrk hr1 hr2
        go_wp2_with fail
        go_ret
        exact ⟨by rw [HV.out]; rfl, exq⟩

set_option maxHeartbeats 4000000 in
theorem r11_start_any (ps : List (List Int × Value)) (v : Value) (w : World) (h : ListsAt w v ps) (hlen : ∀ x ∈ ps, x.1.length = 2) (hn : ps.length ≤ 1000) :
    Calls Tryz.prog 45 #[v] w fun e w' => e = .returned (.bool (manyOk 2 ps.length && (rowsOk 2 0 [] (ps.map Prod.fst) && lastOk 2 (ps.map Prod.fst)))) ∧ w.Exts w' := by
  have hmany : manyOk 2 ps.length = decide ((ps.length : Int) ≤ 5) := by unfold manyOk; rw [if_neg (by decide), if_pos rfl, Bool.eq_iff_iff]; simp; omega
  rw [hmany]
  obtain ⟨R, hR⟩ : ∃ r, rowsOk 2 0 [] (ps.map Prod.fst) = r := ⟨_, rfl⟩
  have hR0 : rowsOk 2 0 ((ps.map Prod.fst).getD (0 - 1) []) ((ps.map Prod.fst).drop 0) = R := by
    rw [← hR, List.drop_zero]
    cases ps with
    | nil => rfl
    | cons a l => simp [rowsOk, shRow, startRow]
  obtain ⟨L, hL⟩ : ∃ r, lastOk 2 (ps.map Prod.fst) = r := ⟨_, rfl⟩
  have hap : L = true ↔ ApartTo (ps.map Prod.fst) ps.length := by
    have h := nodup_apart (ps.map Prod.fst)
    rw [List.length_map] at h
    rw [← h, ← hL]
    unfold lastOk
    rw [if_pos rfl, decide_eq_true_eq]
  rw [hR, hL]
  obtain ⟨q, cap, hv⟩ := h.row.len
  subst hv
  have hrow : ∀ k, k < ps.length → ∃ b o, q = some ⟨b, o, none⟩ ∧ ∃ x bx ox cx, (ps.map Prod.fst)[k]? = some x ∧ x.length = 2 ∧ w.cell? ⟨b, o + k, none⟩ = some (.slice (some ⟨bx, ox, none⟩) 2 cx) ∧ 2 ≤ cx ∧ (∀ j, j < 2 → w.cell? ⟨bx, ox + j, none⟩ = some (.int .i64 (nth x j))) := fun k hk => by
    obtain ⟨b, o, c, e⟩ := lists_base h (by omega)
    cases e
    obtain ⟨x, bx, ox, cx, h1, h2, h3, h4, h5, _⟩ := list_row h hlen (by decide) k hk
    exact ⟨b, o, rfl, x, bx, ox, cx, h1, h2, h3, h4, h5⟩
  have HROW := Lib.hid hrow
  clear hrow
  have HR0 := Lib.hid hR0
  clear hR0
  have HAP := Lib.hid hap
  clear hap
  clear h hlen hR hL hmany
  go_enter Tryz.func45, Tryz.ntmps45
  go_wp2_with fail
  go_loopw [3, 4] (fun i _ wr => ∃ k : Nat, k ≤ ps.length ∧ i = .int .i64 k ∧ Hid (rowsOk 2 k ((ps.map Prod.fst).getD (k - 1) []) ((ps.map Prod.fst).drop k) = R ∧ ApartTo (ps.map Prod.fst) k) ∧ w.Exts wr) (fun i _ _ => ps.length - (intOf i).toNat)
  case atStart => exact ⟨0, by omega, rfl, Lib.hid ⟨HR0.out, fun i j _ _ _ _ _ h => absurd h (Nat.not_lt_zero _)⟩, exq⟩
  case round =>
    obtain ⟨k, hk, rfl, hrk, X3, rfl⟩ := hrel
    rcases Nat.lt_or_ge k ps.length with hlt | hge
    · obtain ⟨b, o, rfl, y, by_, oy, cy, hy, hyl, e, hcy, hcs⟩ := HROW.out k hlt
      have hst := rowsOk_step (kd := 2) (last := (ps.map Prod.fst).getD (k - 1) []) hy
      rw [hyl, show shRow 2 k y ((ps.map Prod.fst).getD (k - 1) []) = (decide (nth y 0 = (k : Int) + 1) && inb 0 9999 (nth y 1)) from rfl, show decide (2 = colsOf 2) = true from rfl, Bool.true_and] at hst
      obtain ⟨hrk2, hapk⟩ := hrk.out
      rw [hst, show decide (nth y 0 = (k : Int) + 1) = (nth y 0 == (k : Int) + 1) by rw [Bool.eq_iff_iff]; simp] at hrk2
      have c0 := hcs 0 (by decide)
      have c1 := hcs 1 (by decide)
      simp only [Nat.add_zero] at c0
      have hnx : rowsOk 2 (k + 1) ((ps.map Prod.fst).getD (k + 1 - 1) []) ((ps.map Prod.fst).drop (k + 1)) = rowsOk 2 (k + 1) y ((ps.map Prod.fst).drop (k + 1)) := by rw [Nat.add_sub_cancel, List.getD_eq_getElem?_getD, hy]; rfl
      have hy1 : ∃ z, nth y 1 = z := ⟨_, rfl⟩
      obtain ⟨y1, hy1⟩ := hy1
      rw [hy1] at c1 hrk2
      generalize nth y 0 = y0 at *
      have lb := Lays.of_cell e
      have ly := Lays.of_cell c0
      have w1 : (k : Int) < (ps.length : Int) := by omega
      have HNX := Lib.hid hnx
      clear hnx
      have HAPK := Lib.hid hapk
      clear hapk
      have HY := Lib.hid hy
      clear hy
      have HY1 := Lib.hid hy1
      clear hy1
      clear hst hrk hyl hcs
      cases hg0 : (y0 == (k : Int) + 1)
      · have hg1 : (y0 != (k : Int) + 1) = true := by rw [bne, hg0]; rfl
        have hg2 : ¬ y0 = (k : Int) + 1 := by simpa using hg0
        rw [hg0] at hrk2
        have HRK := Lib.hid hrk2
        clear hrk2
        go_wp2_with fail
        go_ret
        exact ⟨by rw [← HRK.out]; simp, exq⟩
      have hg2 : y0 = (k : Int) + 1 := by simpa using hg0
      rw [hg0] at hrk2
      cases ha1 : inb 0 9999 y1
      · rw [ha1] at hrk2
        have HA1 := Lib.hid ha1
        clear ha1
        subst hg2
        have HRK := Lib.hid hrk2
        clear hrk2
        go_wp2_with (go_at_call 43; refine (r11_within_any _ _ _ _).mono ?_; rintro e w' ⟨rfl, X4, rfl⟩; rw [HA1.out])
        go_ret
        exact ⟨by rw [← HRK.out]; simp, exq⟩
      rw [ha1] at hrk2
      have HA1 := Lib.hid ha1
      clear ha1
      have HRK := Lib.hid hrk2
      clear hrk2
      subst hg2
      clear hg0
      go_wp2_with (go_at_call 43; refine (r11_within_any _ _ _ _).mono ?_; rintro e w' ⟨rfl, X4, rfl⟩; rw [HA1.out])
      go_loopw [4] (fun j wr => ∃ m : Nat, m ≤ k ∧ j = .int .i64 m ∧ Hid (∀ (i : Nat) x, i < m → (ps.map Prod.fst)[i]? = some x → nth x 1 ≠ y1) ∧ w.Exts wr) (fun j _ => k - (intOf j).toNat)
      case atStart => exact ⟨0, by omega, rfl, Lib.hid fun i x h => absurd h (Nat.not_lt_zero _), exq⟩
      case round =>
        obtain ⟨m, hm, rfl, hmm, X5, rfl⟩ := hrel
        rcases Nat.lt_or_ge m k with hmk | hmk
        · obtain ⟨b', o', e', z, bz, oz, cz, hz, hzl, f, hcz, hds⟩ := HROW.out m (by omega)
          cases e'
          have f1 := hds 1 (by decide)
          obtain ⟨z1, hz1⟩ : ∃ u, nth z 1 = u := ⟨_, rfl⟩
          rw [hz1] at f1
          have lz := Lays.of_cell f1
          have w2 : (m : Int) < (ps.length : Int) := by omega
          have w3 : m < ps.length := by omega
          have HZ := Lib.hid hz
          clear hz
          have HZ1 := Lib.hid hz1
          clear hz1
          clear hzl hds
          cases hzy : (z1 == y1)
          · --[C
            have HMM := Lib.hid hmm
            clear hmm
            go_wp2_with fail
            refine wp_region_ext (by kernel_rfl) (by kernel_rfl) ?_
            repeat (go_big_quiet_step (fail))
            refine wpQuiet_nil ?_
            rintro _ ⟨X, rfl⟩
            go_wp2_with fail
            go_roundw
            case rel => exact ⟨m + 1, by omega, by go_num, Lib.hid fun i x hi hx => (by
              rcases Nat.lt_or_ge i m with h1 | h1
              · exact HMM.out.out i x h1 hx
              · have : i = m := by omega
                subst this
                rw [HZ.out] at hx
                cases hx
                rw [HZ1.out]
                simpa using hzy), exq⟩
            case measure => simp [intOf]; omega
          · have hfin : L = false := by
              cases hL2 : L with
              | false => rfl
              | true =>
                rw [hL2] at HAP
                have h1 := HAP.out.1 rfl m k z y HZ.out HY.out hmk hlt
                rw [HZ1.out, HY1.out] at h1
                exact absurd (by simpa using hzy) h1
            have HFIN := Lib.hid hfin
            clear hfin
            go_wp2_with fail
            refine wp_region_ext (by kernel_rfl) (by kernel_rfl) ?_
            repeat (go_big_quiet_step (fail))
            refine wpQuiet_nil ?_
            rintro _ ⟨X, rfl⟩
            go_wp2_with fail
            go_ret
            exact ⟨by rw [HFIN.out]; simp, exq⟩
        · have hmm2 : m = k := by omega
          subst hmm2
          have hnl : ¬ m < m := by omega
          have HMM := Lib.hid hmm
          clear hmm
          go_wp2_with fail
          go_roundw
          case rel => exact ⟨m + 1, by omega, by go_num, Lib.hid ⟨by rw [HNX.out, ← HRK.out]; rfl, fun i j x z hx hz hij hj => (by
            rcases Nat.lt_or_ge j m with h1 | h1
            · exact HAPK.out i j x z hx hz hij h1
            · have : j = m := by omega
              subst this
              rw [HY.out] at hz
              cases hz
              rw [HY1.out]
              exact HMM.out.out i x hij hx)⟩, exq⟩
          case measure => simp [intOf]; omega
    · obtain ⟨hr1, hr2⟩ := hrk.out
      have hkk : k = ps.length := by omega
      have hfin : R = true := by rw [← hr1]; exact rowsOk_end (by rw [List.length_map]; omega)
      have hl : L = true := HAP.out.2 (hkk ▸ hr2)
      have hnl : ¬ k < ps.length := by omega
      have hv : (decide ((ps.length : Int) ≤ 5) && (R && L)) = decide ((ps.length : Int) ≤ 5) := by rw [hfin, hl]; simp
      have HV := Lib.hid hv
      clear hv
      clear hrk hr1 hr2 hkk hfin hl
      go_wp2_with fail
      go_ret
      exact ⟨by rw [HV.out]; first | rfl | simp, exq⟩
end Go.Proofs.YtkgchngaganokaaGreatDoor

/-
  Walks of the reference of sheets: whether a sheet is valid; whether one is great.
-/
namespace Kr
set_option linter.unusedVariables false
theorem rowsOk_len {kd : Int} : ∀ {l : List (List Int)} {k : Nat} {last : List Int}, rowsOk kd k last l = true → ∀ x ∈ l, x.length = colsOf kd
  | [], _, _, _, x, hx => by cases hx
  | y :: l, k, last, h, x, hx => by
    simp only [rowsOk, Bool.and_eq_true, decide_eq_true_eq] at h
    rcases List.mem_cons.1 hx with e | e
    · subst e; exact h.1.1
    · exact rowsOk_len h.2 x e
theorem sheetB_len {kd : Int} {l : List (List Int)} (h : ¬ ∀ x ∈ l, x.length = colsOf kd) : sheetB kd l = false := by
  cases hb : sheetB kd l with
  | false => rfl
  | true =>
    unfold sheetB at hb
    simp only [Bool.and_eq_true] at hb
    exact absurd (rowsOk_len hb.2.2.1) h
theorem sheetB_kind {kd : Int} {l : List (List Int)} (h : inb 1 4 kd = false) : sheetB kd l = false := by unfold sheetB; rw [h]; rfl
theorem sheetB_in {kd : Int} {l : List (List Int)} (h : inb 1 4 kd = true) : sheetB kd l = (manyOk kd l.length && (rowsOk kd 0 [] l && lastOk kd l)) := by unfold sheetB; rw [h]; rfl
end Kr
namespace Go.Proofs.YtkgchngaganokaaGreatDoor
open Go.RowKit Kr
set_option linter.unusedSimpArgs false
set_option linter.unusedVariables false

/-- The table of how many numbers a row has, as it is laid. -/
structure ColsAt (w : World) : Prop where
  c0 : w.cell? ⟨0, 0, none⟩ = some (.int .i64 0)
  c1 : w.cell? ⟨0, 1, none⟩ = some (.int .i64 2)
  c2 : w.cell? ⟨0, 2, none⟩ = some (.int .i64 2)
  c3 : w.cell? ⟨0, 3, none⟩ = some (.int .i64 5)
  c4 : w.cell? ⟨0, 4, none⟩ = some (.int .i64 2)
theorem ColsAt.mono {w w' : World} (h : ColsAt w) (hE : w.Exts w') : ColsAt w' := ⟨hE.cell h.c0, hE.cell h.c1, hE.cell h.c2, hE.cell h.c3, hE.cell h.c4⟩
theorem ColsAt.at {w : World} (h : ColsAt w) {kd : Int} (hk : inb 1 4 kd = true) : w.cell? ⟨0, kd.toNat, none⟩ = some (.int .i64 ((colsOf kd : Nat) : Int)) := by
  unfold inb at hk
  simp at hk
  obtain rfl | rfl | rfl | rfl : kd = 1 ∨ kd = 2 ∨ kd = 3 ∨ kd = 4 := by omega
  · exact h.c1
  · exact h.c2
  · exact h.c3
  · exact h.c4

set_option maxHeartbeats 4000000 in
theorem r11_Sheet_any (kd : Int) (ps : List (List Int × Value)) (v : Value) (w : World) (h : ListsAt w v ps) (hn : ps.length ≤ 1000) (hc : ColsAt w) (hk : 0 ≤ kd ∧ kd ≤ 255) :
    Calls Tryz.prog 23 #[.agg #[.int .u8 kd, v]] w fun e w' => e = .returned (.bool (sheetB kd (ps.map Prod.fst))) ∧ w.Exts w' := by
  obtain ⟨q, cap, hv⟩ := h.row.len
  subst hv
  cases hb1 : inb 1 4 kd
  · have hs := sheetB_kind (l := ps.map Prod.fst) hb1
    have HB1 := Lib.hid hb1
    clear hb1
    have HS := Lib.hid hs
    clear hs
    clear h hc
    go_enter Tryz.func23, Tryz.ntmps23
    go_wp2_with (go_at_call 43; refine (r11_within_any _ _ _ _).mono ?_; rintro e w' ⟨rfl, X2, rfl⟩; rw [HB1.out])
    go_ret
    exact ⟨by rw [HS.out]; rfl, exq⟩
  have hin := sheetB_in (l := ps.map Prod.fst) hb1
  have hkd : kd = 1 ∨ kd = 2 ∨ kd = 3 ∨ kd = 4 := by unfold inb at hb1; simp at hb1; omega
  have hca := hc.at hb1
  rw [List.length_map] at hin
  have hbad := sheetB_len (kd := kd) (l := ps.map Prod.fst)
  have hrow : ∀ k, k < ps.length → ∃ b o, q = some ⟨b, o, none⟩ ∧ ∃ x p cx, (ps.map Prod.fst)[k]? = some x ∧ w.cell? ⟨b, o + k, none⟩ = some (.slice p x.length cx) := fun k hk => by
    obtain ⟨b, o, c, e⟩ := lists_base h (by omega)
    cases e
    obtain ⟨p, b', o', cap', e, hm, hp, hc⟩ := h.row.ex
    cases e
    obtain ⟨e, _⟩ := hp (by omega)
    cases e
    obtain ⟨⟨x, xv⟩, hx⟩ := some_of_lt hk
    obtain ⟨qx, cx, hxv⟩ := (h.mem _ (List.mem_of_getElem? hx)).len
    have hd := hc k _ hx 0 _ rfl
    dsimp only at hxv
    subst hxv
    exact ⟨b, o, rfl, x, qx, cx, by rw [List.getElem?_map, hx]; rfl, by simpa using hd⟩
  have h1 := fun (W : World) (hE : w.Exts W) (hl : ∀ x ∈ ps, x.1.length = 2) => r11_ride_any ps _ W (h.mono hE) hl
  have h2 := fun (W : World) (hE : w.Exts W) (hl : ∀ x ∈ ps, x.1.length = 2) => r11_start_any ps _ W (h.mono hE) hl hn
  have h3 := fun (W : World) (hE : w.Exts W) (hl : ∀ x ∈ ps, x.1.length = 5) => r11_book_any ps _ W (h.mono hE) hl hn
  have h4 := fun (W : World) (hE : w.Exts W) (hl : ∀ x ∈ ps, x.1.length = 2) => r11_judge_any ps _ W (h.mono hE) hl
  have lc := Lays.of_cell hca
  have k1 : kd < 5 := by omega
  have k2 : 0 ≤ kd := by omega
  have HB1 := Lib.hid hb1
  clear hb1
  have HROW := Lib.hid hrow
  clear hrow
  have HIN := Lib.hid hin
  clear hin
  have HBAD := Lib.hid hbad
  clear hbad
  have HKD := Lib.hid hkd
  clear hkd
  have H1 := Lib.hid h1
  clear h1
  have H2 := Lib.hid h2
  clear h2
  have H3 := Lib.hid h3
  clear h3
  have H4 := Lib.hid h4
  clear h4
  clear h hc
  go_enter Tryz.func23, Tryz.ntmps23
  go_wp2_with (go_at_call 43; refine (r11_within_any _ _ _ _).mono ?_; rintro e w' ⟨rfl, X2, rfl⟩; rw [HB1.out])
  have hz2 := World.size_ext_le _ X2
  simp at hz2
  go_loopw [3] (fun i wr => ∃ k : Nat, k ≤ ps.length ∧ i = .int .i64 k ∧ Hid (∀ (j : Nat) x, j < k → (ps.map Prod.fst)[j]? = some x → x.length = colsOf kd) ∧ (World.ext _ X2).Exts wr) (fun i _ => ps.length - (intOf i).toNat)
  case atStart => exact ⟨0, by omega, rfl, Lib.hid fun j x hj => absurd hj (Nat.not_lt_zero _), exq⟩
  case round =>
    obtain ⟨k, hk, rfl, hrk, X3, rfl⟩ := hrel
    rcases Nat.lt_or_ge k ps.length with hlt | hge
    · obtain ⟨b, o, rfl, x, p, cx, hx, e⟩ := HROW.out k hlt
      have lb := Lays.of_cell e
      have w1 : (k : Int) < (ps.length : Int) := by omega
      obtain ⟨nx, hnx⟩ : ∃ m, x.length = m := ⟨_, rfl⟩
      rw [hnx] at e
      have HX := Lib.hid hx
      clear hx
      have HNX := Lib.hid hnx
      clear hnx
      rcases Nat.lt_trichotomy nx (colsOf kd) with hne | hne | hne
      rotate_left
      · --[A
        rw [hne] at e
        have hok := fun (j : Nat) (z : List Int) (hj : j < k + 1) (hz : (ps.map Prod.fst)[j]? = some z) => (show z.length = colsOf kd from (by
          rcases Nat.lt_or_ge j k with h | h
          · exact hrk.out j z h hz
          · have : j = k := by omega
            subst this
            rw [HX.out] at hz
            cases hz
            rw [HNX.out, hne]))
        have HOK := Lib.hid hok
        clear hok
        clear hrk hne
        generalize colsOf kd = cols at *
        go_wp2_with fail
        refine wp_region_ext (by kernel_rfl) (by kernel_rfl) ?_
        repeat (go_big_quiet_step (fail))
        refine wpQuiet_nil ?_
        rintro _ ⟨X, rfl⟩
        go_wp2_with fail
        go_roundw
        case rel => exact ⟨k + 1, by omega, by go_num, HOK, exq⟩
        case measure => simp [intOf]; omega
      all_goals
        have hf := HBAD.out (fun hall => by
          have := hall x (List.mem_of_getElem? HX.out)
          rw [HNX.out] at this
          omega)
        have hne2 : ((nx : Int) != ((colsOf kd : Nat) : Int)) = true := by simp; omega
        have HF := Lib.hid hf
        clear hf
        clear hrk hne
        generalize colsOf kd = cols at *
        go_wp2_with fail
        refine wp_region_ext (by kernel_rfl) (by kernel_rfl) ?_
        repeat (go_big_quiet_step (fail))
        refine wpQuiet_nil ?_
        rintro _ ⟨X, rfl⟩
        go_wp2_with fail
        go_ret
        exact ⟨by rw [HF.out]; rfl, exq⟩
    · have hkk : k = ps.length := by omega
      have hall : ∀ x ∈ ps, x.1.length = colsOf kd := fun x hx => by
        obtain ⟨j, hj⟩ := List.mem_iff_getElem?.1 hx
        exact hrk.out j x.1 (by have := (List.getElem?_eq_some_iff.1 hj).1; omega) (by rw [List.getElem?_map, hj]; rfl)
      have HALL := Lib.hid hall
      clear hall
      clear hrk
      have hnl : ¬ k < ps.length := by omega
      have hin2 := HIN.out
      rcases HKD.out with rfl | rfl | rfl | rfl
      · have HIN2 := Lib.hid hin2
        clear hin2
        go_wp2_with (go_at_call 44; refine (H1.out _ exq HALL.out).mono ?_; rintro e w' ⟨rfl, X4, rfl⟩)
        go_ret
        exact ⟨by rw [HIN2.out, show lastOk 1 (ps.map Prod.fst) = true from rfl, Bool.and_true]; rfl, exq⟩
      · have HIN2 := Lib.hid hin2
        clear hin2
        go_wp2_with (go_at_call 45; refine (H2.out _ exq HALL.out).mono ?_; rintro e w' ⟨rfl, X4, rfl⟩)
        go_ret
        exact ⟨by rw [HIN2.out]; rfl, exq⟩
      · have HIN2 := Lib.hid hin2
        clear hin2
        go_wp2_with (go_at_call 46; refine (H3.out _ exq HALL.out).mono ?_; rintro e w' ⟨rfl, X4, rfl⟩)
        go_ret
        exact ⟨by rw [HIN2.out, show lastOk 3 (ps.map Prod.fst) = true from rfl, show manyOk 3 ps.length = true from rfl, Bool.and_true, Bool.true_and]; rfl, exq⟩
      · have HIN2 := Lib.hid hin2
        clear hin2
        go_wp2_with (go_at_call 47; refine (H4.out _ exq HALL.out).mono ?_; rintro e w' ⟨rfl, X4, rfl⟩)
        go_ret
        exact ⟨by rw [HIN2.out]; rfl, exq⟩
end Go.Proofs.YtkgchngaganokaaGreatDoor

/-
  From the form's readings to this work's words: sheets.
-/
namespace Go.Proofs.YtkgchngaganokaaGreatDoor
open Go.RowKit Kr
set_option linter.unusedVariables false
set_option linter.unusedSimpArgs false

section
variable {H : Type} {enc : TypeId × Value → H} {w : World} {base : Nat} {spare : Nat → Bool} {held : Bool}
theorem cells_SlSlInt : (Tryz.prog).cellsOf 22 = 1 := by kernel_rfl
theorem reads_Sheet : ReadsAs enc Tryz.prog w base spare held 24 (fun p : Int × Value × List (List Int × Value) => [.int .u8 p.1, p.2.1]) (fun p => (0 ≤ p.1 ∧ p.1 ≤ 255) ∧ ListsAt w p.2.1 p.2.2) := fun fuel cs x h => by
  have hl := struct_len Tryz.underlying24 h (show (Tryz.prog).cellsOf 24 = 2 by kernel_rfl)
  obtain ⟨a, ea, ha⟩ := field_reads Tryz.underlying24 h 0 _ rfl cells_u8i readsAs_u8i
  obtain ⟨b, eb, hb⟩ := field_reads Tryz.underlying24 h 1 _ rfl cells_SlSlInt reads_Lists
  match cs, hl with
  | [c0, c1], _ =>
    simp at ea eb
    subst ea eb
    exact ⟨(a, b.1, b.2), rfl, ha, hb⟩
end
end Go.Proofs.YtkgchngaganokaaGreatDoor
