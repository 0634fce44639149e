/-
  Several texts in one: see the heads of its parts.
-/

import Derived.Test.YtcickafaomfbmaaGreatDoorZSBksVdT
import Derived.Test.YtcickafaomfbmaaGreatDoorZSBksCallsK
import Derived.Test.YtcickafaomfbmaaGreatDoorZSBksGaI
import Derived.Test.YtcickafaomfbmaaGreatDoorZSBksSa
import Derived.Lib.SliceRun
import Derived.Test.YtcickafaomfbmaaGreatDoorZSBksBs
/-
  Walks of package sheet: which row comes first; what the rows of each kind have to be.
-/
namespace Kr
set_option linter.unusedVariables false
theorem shLess_compare {a b : List Int} (h1 : 0 ≤ nth a 0) (h2 : 0 ≤ nth a 1) (h3 : 0 ≤ nth b 0) (h4 : 0 ≤ nth b 1) : decide (compareN [(nth a 0).toNat, (nth a 1).toNat] [(nth b 0).toNat, (nth b 1).toNat] < 0) = shLess a b := by
  unfold shLess
  generalize nth a 0 = a0 at *
  generalize nth a 1 = a1 at *
  generalize nth b 0 = b0 at *
  generalize nth b 1 = b1 at *
  obtain ⟨a0, rfl⟩ := Int.eq_ofNat_of_zero_le h1
  obtain ⟨a1, rfl⟩ := Int.eq_ofNat_of_zero_le h2
  obtain ⟨b0, rfl⟩ := Int.eq_ofNat_of_zero_le h3
  obtain ⟨b1, rfl⟩ := Int.eq_ofNat_of_zero_le h4
  rw [Bool.eq_iff_iff, decide_eq_true_eq]
  simp only [Int.toNat_natCast, compareN]
  rcases Nat.lt_trichotomy a0 b0 with h | h | h
  · rw [if_neg (by omega), if_pos h]
    simp
    omega
  · subst h
    rw [if_pos rfl]
    rcases Nat.lt_trichotomy a1 b1 with h | h | h
    · rw [if_neg (by omega), if_pos h]
      simp
      omega
    · subst h
      simp
    · rw [if_neg (by omega), if_neg (by omega)]
      simp
      omega
  · rw [if_neg (by omega), if_neg (by omega)]
    simp
    omega
end Kr
namespace Go.Proofs.YtcickafaomfbmaaGreatDoor
open Go.RowKit Kr
set_option linter.unusedSimpArgs false
set_option linter.unusedVariables false

/-- The first two numbers of a row, as a row of naturals. -/
theorem row_firsts {w : World} {b o n cap : Nat} {x : List Int} (h : IsRow (fun x : Int => [.int .i64 x]) 1 w (.slice (some ⟨b, o, none⟩) n cap) x) (hn : x.length = n) (h2 : 2 ≤ n) (h0 : 0 ≤ nth x 0) (h1 : 0 ≤ nth x 1) : IsRow (fun x : Nat => [.int .i64 (x : Int)]) 1 w (.slice (some ⟨b, o, none⟩) 2 cap) [(nth x 0).toNat, (nth x 1).toNat] := by
  subst hn
  obtain ⟨p, b', o', cap', e, hm, hp, hc⟩ := h.ex
  cases e
  obtain ⟨e, hl⟩ := hp (by omega)
  cases e
  have c0 := row_nth h 0 (by omega)
  have c1 := row_nth h 1 (by omega)
  refine ⟨_, b, o, cap, rfl, ⟨by simp; omega, hm.2⟩, fun _ => ⟨rfl, hl⟩, fun i y hy j u hu => ?_⟩
  match i, j with
  | 0, 0 =>
    simp at hy hu
    subst hy hu
    rw [Int.toNat_of_nonneg h0]
    simpa using c0
  | 1, 0 =>
    simp at hy hu
    subst hy hu
    rw [Int.toNat_of_nonneg h1]
    simpa using c1
  | 0, j + 1 => simp at hu
  | 1, j + 1 => simp at hu
  | i + 2, _ => simp at hy

theorem sheet_rises_nil (v : Value) (w : World) : Calls Tryz.prog 61 #[.slice none 0 0, v] w fun e w' => e = .returned (.bool true) ∧ w.Exts w' := by
  have hq : ∀ W : World, (binOp .eql 45 (.slice none 0 0) (.slice none 0 0)).run Tryz.prog W = .ok (.bool true) W := fun W => Lib.run_eql_slice_nil W 45 3 none 0 0 0 0 Tryz.underlying45
  go_enter Tryz.func61, Tryz.ntmps61
  go_wp2_with fail
  refine wp_region_ext (by kernel_rfl) (by kernel_rfl) ?_
  repeat (go_big_quiet_step (fail))
  refine wpQuiet_nil ?_
  rintro _ ⟨X, rfl⟩
  go_wp2_with fail
  go_ret
  exact ⟨rfl, exq⟩

set_option maxHeartbeats 1000000 in
theorem sheet_rises_any (a b : List Int) (n ba oa ca bb ob cb : Nat) (w : World) (ha : IsRow (fun x : Int => [.int .i64 x]) 1 w (.slice (some ⟨ba, oa, none⟩) n ca) a) (hb : IsRow (fun x : Int => [.int .i64 x]) 1 w (.slice (some ⟨bb, ob, none⟩) n cb) b) (la : a.length = n) (lb : b.length = n) (h2 : 2 ≤ n)
    (ha0 : 0 ≤ nth a 0) (ha1 : 0 ≤ nth a 1) (hb0 : 0 ≤ nth b 0) (hb1 : 0 ≤ nth b 1) :
    Calls Tryz.prog 61 #[.slice (some ⟨ba, oa, none⟩) n ca, .slice (some ⟨bb, ob, none⟩) n cb] w fun e w' => e = .returned (.bool (shLess a b)) ∧ w.Exts w' := by
  have hra := row_firsts ha la h2 ha0 ha1
  have hrb := row_firsts hb lb h2 hb0 hb1
  have hs := shLess_compare ha0 ha1 hb0 hb1
  have hca := ha.ex
  have hcb := hb.ex
  obtain ⟨_, _, _, _, e1, hm1, _⟩ := hca
  obtain ⟨_, _, _, _, e2, hm2, _⟩ := hcb
  injection e1 with d1 d2 e1
  injection e2 with d3 d4 e2
  rw [la, ← e1] at hm1
  rw [lb, ← e2] at hm2
  clear e1 e2 d1 d2 d3 d4
  generalize (nth a 0).toNat = a0 at *
  generalize (nth a 1).toNat = a1 at *
  generalize (nth b 0).toNat = b0 at *
  generalize (nth b 1).toNat = b1 at *
  have hcmp := fun (W : World) (hE : w.Exts W) => Compare_int_any [a0, a1] [b0, b1] _ _ W (hra.mono hE) (hrb.mono hE)
  generalize compareN [a0, a1] [b0, b1] = z at hs hcmp
  have HS := Lib.hid hs
  clear hs
  have HCMP := Lib.hid hcmp
  clear hcmp
  clear ha hb hra hrb ha0 ha1 hb0 hb1 la lb
  have hq : ∀ W : World, (binOp .eql 45 (.slice (some ⟨ba, oa, none⟩) n ca) (.slice none 0 0)).run Tryz.prog W = .ok (.bool false) W := fun W => Lib.run_eql_slice_nil W 45 3 (some ⟨ba, oa, none⟩) n ca 0 0 Tryz.underlying45
  go_enter Tryz.func61, Tryz.ntmps61
  go_wp2_with fail
  refine wp_region_ext (by kernel_rfl) (by kernel_rfl) ?_
  repeat (go_big_quiet_step ((go_at_call 107; exact Calls.in_ext (HCMP.out _ exq))))
  refine wpQuiet_nil ?_
  rintro _ ⟨X, rfl⟩
  go_wp2_with fail
  go_ret
  exact ⟨by rw [← HS.out]; rfl, exq⟩

theorem sheet_kinds_1_any (n : Nat) (w : World) : Calls Tryz.prog 59 #[.int .i64 (n : Int)] w fun e w' => e = .returned (.bool (manyOk 1 n)) ∧ w.Exts w' := by
  have hm : inAll 1 11 [(n : Int)] = manyOk 1 n := by unfold manyOk inAll inb; rw [if_pos rfl, Bool.eq_iff_iff]; simp; omega
  have HM := Lib.hid hm
  clear hm
  go_enter Tryz.func59, Tryz.ntmps59
  go_wp2_with (go_at_call 56; refine (sheet_in_any 1 11 _ [(n : Int)] _ (row_int1 _ _ _ (by simp))).mono ?_; rintro e w' ⟨rfl, X2, rfl⟩; rw [HM.out])
  go_ret
  exact ⟨rfl, exq⟩
theorem sheet_kinds_3_any (n : Nat) (w : World) : Calls Tryz.prog 62 #[.int .i64 (n : Int)] w fun e w' => e = .returned (.bool (manyOk 2 n)) ∧ w.Exts w' := by
  have hm : decide ((n : Int) ≤ 5) = manyOk 2 n := by unfold manyOk; rw [if_neg (by decide), if_pos rfl, Bool.eq_iff_iff]; simp; omega
  rw [← hm]
  clear hm
  go_enter Tryz.func62, Tryz.ntmps62
  go_wp2_with fail
  go_ret
  exact ⟨rfl, exq⟩
theorem sheet_kinds_5_any (n : Nat) (w : World) : Calls Tryz.prog 64 #[.int .i64 (n : Int)] w fun e w' => e = .returned (.bool (manyOk 3 n)) ∧ w.Exts w' := by
  go_enter Tryz.func64, Tryz.ntmps64
  go_wp2_with fail
  go_ret
  exact ⟨rfl, exq⟩
theorem sheet_kinds_7_any (n : Nat) (w : World) : Calls Tryz.prog 66 #[.int .i64 (n : Int)] w fun e w' => e = .returned (.bool (manyOk 4 n)) ∧ w.Exts w' := by
  have hm : ((n : Int) == 6) = manyOk 4 n := by unfold manyOk; rw [if_neg (by decide), if_neg (by decide), if_neg (by decide), Bool.eq_iff_iff]; simp; omega
  rw [← hm]
  clear hm
  go_enter Tryz.func66, Tryz.ntmps66
  go_wp2_with fail
  go_ret
  exact ⟨rfl, exq⟩

set_option maxHeartbeats 1000000 in
theorem sheet_kinds_4_any (i : Nat) (x : List Int) (b o c : Nat) (vl : Value) (w : World) (h : IsRow (fun x : Int => [.int .i64 x]) 1 w (.slice (some ⟨b, o, none⟩) 2 c) x) (hl : x.length = 2) (hi : i ≤ 1000) :
    Calls Tryz.prog 63 #[.int .i64 (i : Int), .slice (some ⟨b, o, none⟩) 2 c, vl] w fun e w' => e = .returned (.bool (startRow i x)) ∧ w.Exts w' := by
  rw [← hl] at h
  have c0 := row_nth h 0 (by omega)
  have c1 := row_nth h 1 (by omega)
  rw [hl] at h
  simp only [Nat.add_zero] at c0
  unfold startRow
  rw [show decide (nth x 0 = (i : Int) + 1) = (nth x 0 == (i : Int) + 1) by rw [Bool.eq_iff_iff]; simp]
  generalize nth x 0 = x0 at *
  generalize nth x 1 = x1 at *
  have lx := Lays.of_cell c0
  have hb : inAll 0 9999 [x1] = inb 0 9999 x1 := by simp [inAll]
  cases h1 : (x0 == (i : Int) + 1)
  all_goals
    have HB := Lib.hid hb
    clear hb
    clear h
    go_enter Tryz.func63, Tryz.ntmps63
    go_wp2_with (go_at_call 56; refine (sheet_in_any 0 9999 _ [x1] _ (row_int1 _ _ _ (by simp))).mono ?_; rintro e w' ⟨rfl, X2, rfl⟩; rw [HB.out])
    go_ret
    exact ⟨by first | rfl | simp, exq⟩
set_option maxHeartbeats 1000000 in
theorem sheet_kinds_8_any (i : Nat) (x : List Int) (b o c : Nat) (vl : Value) (w : World) (h : IsRow (fun x : Int => [.int .i64 x]) 1 w (.slice (some ⟨b, o, none⟩) 2 c) x) (hl : x.length = 2) :
    Calls Tryz.prog 67 #[.int .i64 (i : Int), .slice (some ⟨b, o, none⟩) 2 c, vl] w fun e w' => e = .returned (.bool (judgeRow i x)) ∧ w.Exts w' := by
  rw [← hl] at h
  have c0 := row_nth h 0 (by omega)
  have c1 := row_nth h 1 (by omega)
  rw [hl] at h
  simp only [Nat.add_zero] at c0
  unfold judgeRow
  rw [show decide (nth x 0 = (i : Int)) = (nth x 0 == (i : Int)) by rw [Bool.eq_iff_iff]; simp]
  generalize nth x 0 = x0 at *
  generalize nth x 1 = x1 at *
  have lx := Lays.of_cell c0
  have hb : inAll 0 2 [x1] = inb 0 2 x1 := by simp [inAll]
  cases h1 : (x0 == (i : Int))
  all_goals
    have HB := Lib.hid hb
    clear hb
    clear h
    go_enter Tryz.func67, Tryz.ntmps67
    go_wp2_with (go_at_call 56; refine (sheet_in_any 0 2 _ [x1] _ (row_int1 _ _ _ (by simp))).mono ?_; rintro e w' ⟨rfl, X2, rfl⟩; rw [HB.out])
    go_ret
    exact ⟨by first | rfl | simp, exq⟩
end Go.Proofs.YtcickafaomfbmaaGreatDoor

/-
  Walks of package sheet: the rows of rides and of ice books.
-/
namespace Kr
set_option linter.unusedVariables false
theorem inAll_two {lo hi : Int} {x : List Int} (h : x.length = 2) : inAll lo hi x = (inb lo hi (nth x 0) && inb lo hi (nth x 1)) := by
  match x, h with
  | [a, b], _ => simp [inAll, nth]
end Kr
namespace Go.Proofs.YtcickafaomfbmaaGreatDoor
open Go.RowKit Kr
set_option linter.unusedSimpArgs false
set_option linter.unusedVariables false

/-- The row before, if there is one: its first two numbers are none below 0. -/
def LastAt (w : World) (n i : Nat) (vl : Value) (last : List Int) : Prop :=
  (i = 0 ∧ vl = .slice none 0 0) ∨ (0 < i ∧ ∃ b o c, vl = .slice (some ⟨b, o, none⟩) n c ∧ IsRow (fun x : Int => [.int .i64 x]) 1 w vl last ∧ last.length = n ∧ 0 ≤ nth last 0 ∧ 0 ≤ nth last 1)
theorem LastAt.mono {w w' : World} {n i : Nat} {vl : Value} {last : List Int} (h : LastAt w n i vl last) (hE : w.Exts w') : LastAt w' n i vl last := by
  rcases h with h | ⟨h0, b, o, c, h1, h2, h3⟩
  · exact .inl h
  · exact .inr ⟨h0, b, o, c, h1, h2.mono hE, h3⟩

set_option maxHeartbeats 2000000 in
theorem sheet_kinds_2_any (i : Nat) (x last : List Int) (b o c : Nat) (vl : Value) (w : World) (h : IsRow (fun x : Int => [.int .i64 x]) 1 w (.slice (some ⟨b, o, none⟩) 2 c) x) (hl : x.length = 2) (hlast : LastAt w 2 i vl last) (hi : i ≤ 1000) :
    Calls Tryz.prog 60 #[.int .i64 (i : Int), .slice (some ⟨b, o, none⟩) 2 c, vl] w fun e w' => e = .returned (.bool (rideRow i x last)) ∧ w.Exts w' := by
  have h' := h
  rw [← hl] at h'
  have c0 := row_nth h' 0 (by omega)
  have c1 := row_nth h' 1 (by omega)
  simp only [Nat.add_zero] at c0
  have lx := Lays.of_cell c0
  have hc2 : 2 ≤ c := by
    obtain ⟨_, _, _, _, e, hm, _⟩ := h.ex
    injection e with d1 d2 d3
    omega
  have hin := fun (W : World) (hE : w.Exts W) => sheet_in_any 0 86400000 _ x W (h.mono hE)
  have htwo := inAll_two (lo := 0) (hi := 86400000) hl
  unfold rideRow
  rcases Nat.eq_zero_or_pos i with h0 | h0
  · subst h0
    rw [if_pos rfl, ← htwo]
    generalize nth x 0 = x0 at *
    generalize nth x 1 = x1 at *
    generalize inAll 0 86400000 x = q at *
    clear h h' htwo hlast
    cases q
    all_goals
      have HIN := Lib.hid hin
      clear hin
      go_enter Tryz.func60, Tryz.ntmps60
      go_wp2_with fail
      refine wp_region_ext (by kernel_rfl) (by kernel_rfl) ?_
      repeat (go_big_quiet_step ((go_at_call 56; exact Calls.in_ext (HIN.out _ exq))))
      refine wpQuiet_nil ?_
      rintro _ ⟨X, rfl⟩
      go_wp2_with fail
      go_ret
      exact ⟨by first | rfl | simp, exq⟩
  · rw [if_neg (by omega)]
    have e0 : ((i : Int) == 0) = false := by simp; omega
    have e1 : ¬ (i : Int) = 0 := by omega
    have hri := fun (W : World) (hE : w.Exts W) (hp0 : 0 ≤ nth x 0) (hp1 : 0 ≤ nth x 1) => (show Calls Tryz.prog 61 #[vl, .slice (some ⟨b, o, none⟩) 2 c] W fun e w' => e = .returned (.bool (shLess last x)) ∧ W.Exts w' from by
      rcases hlast with ⟨hz, _⟩ | ⟨_, b', o', c', rfl, hr, hll, hq0, hq1⟩
      · omega
      · exact sheet_rises_any last x 2 _ _ _ _ _ _ W (hr.mono hE) (h.mono hE) hll hl (Nat.le_refl _) hq0 hq1 hp0 hp1)
    generalize nth x 0 = x0 at *
    generalize nth x 1 = x1 at *
    generalize shLess last x = s at *
    have hb0 : inAll 0 5 [x0] = inb 0 5 x0 := by simp [inAll]
    have hb1 : inAll 0 86400000 [x1] = inb 0 86400000 x1 := by simp [inAll]
    clear h h' htwo hin hlast
    cases ha0 : inb 0 5 x0
    · rw [ha0] at hb0
      have HB0 := Lib.hid hb0
      clear hb0
      clear hri hb1 ha0
      go_enter Tryz.func60, Tryz.ntmps60
      go_wp2_with (go_at_call 56; refine (sheet_in_any 0 5 _ [x0] _ (row_int1 _ _ _ (by simp))).mono ?_; rintro e w' ⟨rfl, X2, rfl⟩; rw [HB0.out])
      go_ret
      exact ⟨rfl, exq⟩
    cases ha1 : inb 0 86400000 x1
    · rw [ha0] at hb0
      rw [ha1] at hb1
      have HB0 := Lib.hid hb0
      clear hb0
      have HB1 := Lib.hid hb1
      clear hb1
      clear hri ha0 ha1
      go_enter Tryz.func60, Tryz.ntmps60
      go_wp2_with (first
        | (go_at_call 56; ((with_reducible refine (sheet_in_any 0 5 _ [x0] _ ?ha).mono ?_); (case ha => exact row_int1 _ _ _ (by simp)); rintro e w' ⟨rfl, X2, rfl⟩; rw [HB0.out]))
        | (go_at_call 56; ((with_reducible refine (sheet_in_any 0 86400000 _ [x1] _ ?hb).mono ?_); (case hb => exact row_int1 _ _ _ (by simp)); rintro e w' ⟨rfl, X3, rfl⟩; rw [HB1.out])))
      go_ret
      exact ⟨rfl, exq⟩
    have hp0 : 0 ≤ x0 := by unfold inb at ha0; simp at ha0; omega
    have hp1 : 0 ≤ x1 := by unfold inb at ha1; simp at ha1; omega
    rw [ha0] at hb0
    rw [ha1] at hb1
    have hri2 := fun W hE => hri W hE hp0 hp1
    have HB0 := Lib.hid hb0
    clear hb0
    have HB1 := Lib.hid hb1
    clear hb1
    have HRI := Lib.hid hri2
    clear hri2
    clear hri ha0 ha1 hp0 hp1
    rcases Nat.eq_or_lt_of_le h0 with hi1 | hi1
    · obtain rfl : i = 1 := by omega
      clear h0
      go_enter Tryz.func60, Tryz.ntmps60
      go_wp2_with (first
        | (go_at_call 56; ((with_reducible refine (sheet_in_any 0 5 _ [x0] _ ?ha).mono ?_); (case ha => exact row_int1 _ _ _ (by simp)); rintro e w' ⟨rfl, X2, rfl⟩; rw [HB0.out]))
        | (go_at_call 56; ((with_reducible refine (sheet_in_any 0 86400000 _ [x1] _ ?hb).mono ?_); (case hb => exact row_int1 _ _ _ (by simp)); rintro e w' ⟨rfl, X3, rfl⟩; rw [HB1.out])))
      go_ret
      exact ⟨rfl, exq⟩
    · have e2 : ((i : Int) == 1) = false := by simp; omega
      have e3 : ¬ (i : Int) = 1 := by omega
      rw [show decide (i = 1) = false by simp; omega]
      go_enter Tryz.func60, Tryz.ntmps60
      go_wp2_with (first
        | (go_at_call 56; ((with_reducible refine (sheet_in_any 0 5 _ [x0] _ ?ha).mono ?_); (case ha => exact row_int1 _ _ _ (by simp)); rintro e w' ⟨rfl, X2, rfl⟩; rw [HB0.out]))
        | (go_at_call 56; ((with_reducible refine (sheet_in_any 0 86400000 _ [x1] _ ?hb).mono ?_); (case hb => exact row_int1 _ _ _ (by simp)); rintro e w' ⟨rfl, X3, rfl⟩; rw [HB1.out]))
        | (go_at_call 61; refine (HRI.out _ exq).mono ?_; rintro e w' ⟨rfl, X4, rfl⟩))
      go_ret
      exact ⟨rfl, exq⟩
end Go.Proofs.YtcickafaomfbmaaGreatDoor

/-
  A region that draws its order and holds calls whose guards may be false: the law of XCallsK, where an operation that is not wanted is left out.
-/
namespace Go
open Go.RowKit

section
variable {P : Program} {md : Region.Mode} {l : List Oper} {n : Nat} {U : Nat → Bool} {w : World} {Q : Exit → Act → World → Prop} {g : Nat} {A : (Nat → Value) → Act} {Φ : Nat → Value → World → Prop} {kv : Nat → Option Value}

theorem HeadS.any (hkv : ∀ c v W u, Φ c v W → kv c = some u → v = u) (hD : Region.dstsB l = true) (hback : Region.backK md l = true) (hfed : Region.fedK md l U = true) (hgu : ∀ ν, Knows kv ν → ∀ i oi, l[i]? = some oi → U i = true → (Region.wanted oi (yielded l.toArray (A ν).tmps) = true ∨ (Region.wanted oi (yielded l.toArray (A ν).tmps) = false ∧ ∀ W, Φ i undef W)) ∧ ∀ gi pol, oi.guard = some (gi, pol) → ∃ e ∈ oi.after, Region.binds md e = true ∧ e.on = gi) (hp : ∀ i o, l[i]? = some o → i < n → U i = false → o.plainB = true) (hg : g = l.length - n) (hn : n ≤ l.length)
    (hmono : ∀ c v W W', Φ c v W → W.Exts W' → Φ c v W')
    (hcall : ∀ c oc, l[c]? = some oc → U c = true → ∀ ν, Knows kv ν → Region.wanted oc (yielded l.toArray (A ν).tmps) = true → ∀ W, w.Exts W → (∀ c', U c' = true → (∃ e ∈ oc.after, Region.binds md e = true ∧ e.on = c') → Φ c' (ν c') W) → oc.gives P (A ν).eval W fun v W' => W.Exts W' ∧ Φ c v W')
    (htail : ∀ ν, Knows kv ν → ∀ W, w.Exts W → (∀ c, c < n → U c = true → Φ c (ν c) W) → wpList P l.toArray Q (l.drop n) (A ν) W) :
    ∀ (f : Nat) (listed : Array Bool) (a : Act) (W : World) (ν : Nat → Value), Knows kv ν → listed.size = l.length → w.Exts W → (∀ c, c < l.length → U c = true → listed.getD c true = true → Φ c (ν c) W) →
      (∀ ν', Knows kv ν' → (∀ c, c < l.length → U c = true → listed.getD c true = true → ν' c = ν c) → HeadC P md l U n w A g ν' f listed a) → wpAny P md l.toArray Q (f + g) listed a W
  | 0, listed, a, W, ν, hkn, hsz, hE, hK, h => by
    obtain ⟨h1, rfl⟩ := h ν hkn (fun _ _ _ _ => rfl)
    rw [seqB_modU] at h1
    have hall : ∀ c, c < n → listed.getD c true = true := by
      intro c
      induction c using Nat.strongRecOn with
      | _ c ih =>
        intro hc
        cases hl : listed.getD c true with
        | true => rfl
        | false =>
          obtain ⟨o, ho⟩ : ∃ o, l[c]? = some o := ⟨_, List.getElem?_eq_getElem (by omega)⟩
          have := seqB_ready h1 c (mem_ready.2 ⟨hl, o, by simpa using ho, fun e he hb => by
            have hlt := backK_spec hback ho e he hb
            have := ih e.on hlt (by omega)
            rw [Array.getD_eq_getD_getElem?] at this ⊢
            rw [Array.getElem?_eq_getElem (by rw [hsz]; omega)] at this ⊢
            exact this⟩)
          omega
    have h2 := wpAny_of_seq (md := md) (Q' := Q) (l.drop n) n listed (A ν) W (fun j => by simp [List.getElem?_drop]) (by rw [List.length_drop, ← hg]; exact h1) (htail ν hkn W hE fun c hc hU => hK c (by omega) hU (hall c hc))
    rw [List.length_drop, ← hg] at h2
    rw [Nat.zero_add]; exact h2
  | f + 1, listed, a, W, ν, hkn, hsz, hE, hK, h => by
    rw [Nat.add_right_comm]
    have h0 := h ν hkn (fun _ _ _ _ => rfl)
    have hne := h0.1
    rw [ready_modU] at hne
    refine ⟨fun h0 => absurd h0 hne, fun i hi => ?_⟩
    obtain ⟨hun, oi, hoi, hwait⟩ := mem_ready.1 hi
    have hoi' : l[i]? = some oi := by simpa using hoi
    have hil : i < l.length := (List.getElem?_eq_some_iff.1 hoi').1
    have hin : i < listed.size := by rw [hsz]; exact hil
    have hW : ∃ X : Ext w, W = w.ext X := hE
    have hlt : i < n := (h0.2 i (by rw [ready_modU]; exact hi)).1
    cases hU : U i with
    | false =>
      have hset : ∀ ν', (modU l U ν').toArray[i]? = some oi := fun ν' => by rw [List.getElem?_toArray, modU_get, hoi', Option.map_some, hU]; rfl
      have each : ∀ ν', Knows kv ν' → (∀ c, c < l.length → U c = true → listed.getD c true = true → ν' c = ν c) → ∃ v, YieldsIn P (modU l U ν').toArray (fun W => ∃ X : Ext w, W = w.ext X) oi v a ∧ HeadC P md l U n w A g ν' f (listed.setIfInBounds i true) (a.put oi.dst v) := fun ν' hkn' hν' =>
        yieldsIn_of_qOp (hset ν') ((h ν' hkn' hν').2 i (by rw [ready_modU]; exact hi)).2
      have hpl := hp i oi hoi' hlt hU
      obtain ⟨v, hy, hv⟩ := each ν hkn (fun _ _ _ _ => rfl)
      refine wpOp_of_yields hoi (yielded_modU ν _) hpl hW hy ?_
      refine HeadS.any hkv hD hback hfed hgu hp hg hn hmono hcall htail f _ _ W ν hkn (by simpa using hsz) hE (fun c hc hUc hl => ?_) (fun ν' hkn' hν' => ?_)
      · by_cases hci : c = i
        · subst hci; rw [hU] at hUc; cases hUc
        · rw [getD_set_ne true (Ne.symm hci)] at hl; exact hK c hc hUc hl
      · have hag : ∀ c, c < l.length → U c = true → listed.getD c true = true → ν' c = ν c := fun c hc hUc hl => by
          by_cases hci : c = i
          · subst hci; rw [hU] at hUc; cases hUc
          · exact hν' c hc hUc (by rw [getD_set_ne true (Ne.symm hci)]; exact hl)
        obtain ⟨v', hy', hv'⟩ := each ν' hkn' hag
        have hvv : v = v' := by
          unfold YieldsIn at hy hy'
          rw [yielded_modU] at hy hy'
          rcases hy with ⟨hw1, hq1⟩ | ⟨hw1, e1⟩ <;> rcases hy' with ⟨hw2, hq2⟩ | ⟨hw2, e2⟩
          · exact quietUpon_same (fun _ _ _ => Oper.not_enter hpl) (hq1 W hW) (hq2 W hW)
          · rw [hw1] at hw2; cases hw2
          · rw [hw1] at hw2; cases hw2
          · rw [e1, e2]
        rw [hvv]; exact hv'
    | true =>
      have hset : ∀ ν', (modU l U ν').toArray[i]? = some (cOp oi (ν' i)) := fun ν' => by rw [List.getElem?_toArray, modU_get, hoi', Option.map_some, hU]; rfl
      have hfd := List.all_eq_true.1 hfed i (List.mem_range.2 hil)
      simp only [hU, hoi', Bool.not_true, Bool.false_or] at hfd
      split at hfd
      case h_2 => cases hfd
      rename_i ts hop
      simp only [List.all_eq_true, List.mem_range] at hfd
      obtain ⟨hwn, hgd⟩ := hgu ν hkn i oi hoi' hU
      have hwe : Region.wanted oi (yielded l.toArray a.tmps) = Region.wanted oi (yielded l.toArray (A ν).tmps) := by
        cases hgc : oi.guard with
        | none => unfold Region.wanted; rw [hgc]
        | some gp =>
          obtain ⟨gi, pol⟩ := gp
          obtain ⟨e2, he2, hb2, hon2⟩ := hgd gi pol hgc
          have hgl : gi < l.length := by have := backK_spec hback hoi' e2 he2 hb2; omega
          have hlist := hwait e2 he2 hb2
          rw [hon2, Array.getD_eq_getD_getElem?, Array.getElem?_eq_getElem (by rw [hsz]; exact hgl)] at hlist
          have hsame : yielded l.toArray a.tmps gi = yielded l.toArray (A ν).tmps gi := by
            unfold yielded
            obtain ⟨og, hog⟩ : ∃ og, l[gi]? = some og := ⟨_, List.getElem?_eq_getElem hgl⟩
            rw [List.getElem?_toArray, hog, Option.bind_some]
            cases hdg : og.dst with
            | none => rfl
            | some d =>
              rw [Option.bind_some, Option.bind_some]
              have : a.tmps[d]? = (A ν).tmps[d]? := by
                refine HeadAny.val (A := A ν) (fun _ _ h => h.2) (f + 1) _ _ d (fun j oj hj hl e => ?_) h0
                rw [List.getElem?_toArray, modU_get] at hj
                cases hlj : l[j]? with
                | none => rw [hlj] at hj; cases hj
                | some o' =>
                  rw [hlj] at hj
                  simp only [Option.map_some, Option.some.injEq] at hj
                  have e' : o'.dst = some d := by
                    rw [← hj] at e
                    split at e
                    · exact e
                    · exact e
                  obtain rfl := dstsB_spec hD hog hlj hdg e'
                  rw [Array.getD_eq_getD_getElem?, Array.getElem?_eq_getElem (by rw [hsz]; exact hgl)] at hl
                  simp only [Option.getD_some] at hlist hl
                  rw [hl] at hlist
                  cases hlist
              rw [this]
          unfold Region.wanted
          rw [hgc]
          dsimp only
          rw [hsame]
      have next : ∀ v W', (Region.wanted oi (yielded l.toArray a.tmps) = true ∨ (Region.wanted oi (yielded l.toArray a.tmps) = false ∧ v = undef)) → W.Exts W' → Φ i v W' → wpAny P md l.toArray Q (f + g) (listed.setIfInBounds i true) (a.put oi.dst v) W' := by
        intro v W' hcs hEW hΦ
        refine HeadS.any hkv hD hback hfed hgu hp hg hn hmono hcall htail f _ _ W' (updU ν i v) (hkn.upd fun u hc => hkv _ _ _ _ hΦ hc) (by simpa using hsz) (hE.trans hEW) (fun c' hc' hUc hl => ?_) (fun ν' hkn' hν' => ?_)
        · unfold updU
          by_cases hci : c' = i
          · rw [if_pos hci, hci]; exact hΦ
          · rw [if_neg hci]
            rw [getD_set_ne true (Ne.symm hci)] at hl
            exact hmono _ _ _ _ (hK c' hc' hUc hl) hEW
        · have hag : ∀ c, c < l.length → U c = true → listed.getD c true = true → ν' c = ν c := fun c hc hUc hl => by
            have hci : c ≠ i := fun e => by rw [e, hun] at hl; cases hl
            have h5 := hν' c hc hUc (by rw [getD_set_ne true (Ne.symm hci)]; exact hl)
            rw [h5]; unfold updU; rw [if_neg hci]
          have hvi : ν' i = v := by
            have h5 := hν' i hil hU (getD_set_same true hin)
            rw [h5]; unfold updU; rw [if_pos rfl]
          obtain ⟨u, hy, hu⟩ := yieldsIn_of_qOp (hset ν') ((h ν' hkn' hag).2 i (by rw [ready_modU]; exact hi)).2
          have huv : u = v := by
            unfold YieldsIn at hy
            rcases hy with ⟨hw, hq⟩ | ⟨hw, hu⟩
            · have h6 := hq W hW
              simp only [Oper.quietAt, cOp, execOp, Sem.run_pure, Oper.quietUpon] at h6
              rw [← h6.2]; exact hvi
            · rw [yielded_modU] at hw
              rw [show Region.wanted (cOp oi (ν' i)) (yielded l.toArray a.tmps) = Region.wanted oi (yielded l.toArray a.tmps) from rfl] at hw
              rcases hcs with hcs | ⟨_, hcs⟩
              · rw [hcs] at hw; cases hw
              · rw [hu, hcs]
          rw [huv] at hu
          exact hu
      rcases hwn with hwn | ⟨hwn, hund⟩
      · have hwa := hwe.trans hwn
        have hgv := hcall i oi hoi' hU ν hkn hwn W hE (fun c' hUc ⟨e, he, hb, hon⟩ => by
          have hlist := hwait e he hb
          rw [hon] at hlist
          have hc' : c' < l.length := by have := backK_spec hback hoi' e he hb; omega
          refine hK c' hc' hUc ?_
          rw [Array.getD_eq_getD_getElem?] at hlist ⊢
          rw [Array.getElem?_eq_getElem (by rw [hsz]; exact hc')] at hlist ⊢
          exact hlist)
        have hops : ∀ d ∈ ts, a.tmps[d]? = (A ν).tmps[d]? := fun d hd => by
          refine HeadAny.val (A := A ν) (fun _ _ h => h.2) (f + 1) _ _ d (fun j oj hj hl e => ?_) h0
          rw [List.getElem?_toArray, modU_get] at hj
          cases hlj : l[j]? with
          | none => rw [hlj] at hj; cases hj
          | some o' =>
            rw [hlj] at hj
            simp only [Option.map_some, Option.some.injEq] at hj
            have e' : o'.dst = some d := by
              rw [← hj] at e
              split at e
              · exact e
              · exact e
            have hjl : j < l.length := (List.getElem?_eq_some_iff.1 hlj).1
            have h3 := hfd d hd j hjl
            rw [hlj] at h3
            simp only [Option.bind_some, e', ne_eq, not_true_eq_false, decide_false, Bool.false_or, Array.any_eq_true'] at h3
            obtain ⟨e2, he2, h4⟩ := h3
            simp only [Bool.and_eq_true, beq_iff_eq] at h4
            have hlist := hwait e2 he2 h4.1
            rw [h4.2] at hlist
            rw [Array.getD_eq_getD_getElem?, Array.getElem?_eq_getElem (by rw [hsz]; exact hjl)] at hlist hl
            simp only [Option.getD_some] at hlist hl
            rw [hl] at hlist
            cases hlist
        have hgv2 := gives_congrK hop hops hgv
        unfold wpOp
        simp only [hoi]
        rw [if_pos hwa]
        refine .inl ?_
        unfold Oper.wp
        rcases hgv2 with ⟨fn, args, hrun, hc⟩ | ⟨v, W', hrun, hEW, hΦ⟩
        · rw [hrun, Oper.upon_enter]
          refine hc.mono ?_
          rintro e W' ⟨v, rfl, hEW, hΦ⟩
          exact next v W' (.inl hwa) hEW hΦ
        · rw [hrun, Oper.upon_value]
          exact next v W' (.inl hwa) hEW hΦ
      · have hwa := hwe.trans hwn
        unfold wpOp
        simp only [hoi]
        rw [if_neg (by rw [hwa]; simp)]
        exact next undef W (.inr ⟨hwa, rfl⟩) (World.Exts.refl W) (hund W)
end

theorem wpAny_callsS {P : Program} {l : List Oper} {w : World} {Q : Exit → Act → World → Prop} {a : Act} (n : Nat) (U : Nat → Bool) (A : (Nat → Value) → Act) (Φ : Nat → Value → World → Prop) (kv : Nat → Option Value) (hkv : ∀ c v W u, Φ c v W → kv c = some u → v = u)
    (hB : ∀ ν, Region.lexTailB .any (modU l U ν).toArray n = true) (hD : Region.dstsB l = true) (hback : Region.backK .any l = true) (hfed : Region.fedK .any l U = true) (hgu : ∀ ν, Knows kv ν → ∀ i oi, l[i]? = some oi → U i = true → (Region.wanted oi (yielded l.toArray (A ν).tmps) = true ∨ (Region.wanted oi (yielded l.toArray (A ν).tmps) = false ∧ ∀ W, Φ i undef W)) ∧ ∀ gi pol, oi.guard = some (gi, pol) → ∃ e ∈ oi.after, Region.binds .any e = true ∧ e.on = gi) (hp : ∀ i o, l[i]? = some o → i < n → U i = false → o.plainB = true)
    (hmono : ∀ c v W W', Φ c v W → W.Exts W' → Φ c v W')
    (hwalk : ∀ ν, Knows kv ν → ∀ (L : Act → Prop), L (A ν) → wpQuiet P (modU l U ν).toArray (fun W => ∃ X : Ext w, W = w.ext X) L ((modU l U ν).take n) a)
    (hcall : ∀ c oc, l[c]? = some oc → U c = true → ∀ ν, Knows kv ν → Region.wanted oc (yielded l.toArray (A ν).tmps) = true → ∀ W, w.Exts W → (∀ c', U c' = true → (∃ e ∈ oc.after, Region.binds .any e = true ∧ e.on = c') → Φ c' (ν c') W) → oc.gives P (A ν).eval W fun v W' => W.Exts W' ∧ Φ c v W')
    (htail : ∀ ν, Knows kv ν → ∀ W, w.Exts W → (∀ c, c < n → U c = true → Φ c (ν c) W) → wpList P l.toArray Q (l.drop n) (A ν) W) :
    wpAny P .any l.toArray Q l.toArray.size (Array.replicate l.toArray.size false) a { w with drawn := w.drawn + 1 } := by
  have hB0 := hB (fun _ => undef)
  simp only [Region.lexTailB, Bool.and_eq_true, decide_eq_true_eq] at hB0
  have hn' : n < l.length := by simpa [modU_len] using hB0.1.1.1.2
  have key := HeadS.any (md := .any) (P := P) (w := w) (A := A) (Q := Q) (g := l.length - n) (n := n) hkv hD hback hfed hgu hp rfl (by omega) hmono hcall htail n (Array.replicate l.toArray.size false) a { w with drawn := w.drawn + 1 } (fun c => (kv c).getD undef) (fun c u (hc : kv c = some u) => by dsimp only; rw [hc]; rfl) (by simp) ⟨⟨w.drew, (Below.refl _ _).drew⟩, rfl⟩
    (fun c hc _ hl => by rw [getD_replicate_lt (by simpa using hc)] at hl; cases hl) (fun ν hkn _ => ?_)
  · rw [show n + (l.length - n) = l.toArray.size by simp; omega] at key
    exact key
  · have hBp := hB ν
    simp only [Region.lexTailB, Bool.and_eq_true, decide_eq_true_eq] at hBp
    obtain ⟨⟨⟨⟨hsel, hn⟩, hs⟩, hc⟩, hlex⟩ := hBp
    have htl : ((modU l U ν).take n).length = n := by rw [List.length_take, modU_len]; omega
    have hgl : (modU l U ν).toArray.size - n = l.length - n := by simp [modU_len]
    have inv0 : HeadInv .any (modU l U ν).toArray n (Array.replicate l.toArray.size false) :=
      ⟨by simp [modU_len], fun j oj _ hl => (by rw [getD_replicate_false] at hl; cases hl), fun t _ ht => getD_in (by simpa [modU_len] using ht) (getD_replicate_false _ _)⟩
    have H := HeadAny.lex (md := .any) (g := l.length - n) hsel hs hc hn ((modU l U ν).take n) 0 _ a (fun j hj => by rw [htl] at hj; simp [hj]) (by simpa using htl) inv0 (by rw [htl]; rw [hgl] at hlex; simpa [modU_len] using hlex) (hwalk ν hkn (fun a' => a' = A ν) rfl)
    rw [htl] at H
    exact H

theorem wp_region_callsS {P : Program} {id : Nat} {Q : Exit → Act → World → Prop} {a : Act} {w : World} {l : List Oper} (n : Nat) (U : Nat → Bool) (Φ : Nat → Value → World → Prop) (kv : Nat → Option Value) (hm : P.follows .mixedOrders = true)
    (hB : ∀ ν, Region.lexTailB .any (modU l U ν).toArray n = true) (hD : Region.dstsB l = true) (hback : Region.backK .any l = true) (hfed : Region.fedK .any l U = true) (hgf : Region.guardFedB .any l U = true) (hp : ((List.range n).all fun i => U i || match l[i]? with | some o => o.plainB | none => true) = true)
    (hmono : ∀ c v W W', Φ c v W → W.Exts W' → Φ c v W') (hkv : ∀ c v W u, Φ c v W → kv c = some u → v = u)
    (h : ∃ A : (Nat → Value) → Act, (∀ ν, Knows kv ν → ∀ i oi, l[i]? = some oi → U i = true → Region.wanted oi (yielded l.toArray (A ν).tmps) = true ∨ (Region.wanted oi (yielded l.toArray (A ν).tmps) = false ∧ ∀ W, Φ i undef W)) ∧ (∀ ν, Knows kv ν → ∀ (L : Act → Prop), L (A ν) → wpQuiet P l.toArray (fun W => ∃ X : Ext w, W = w.ext X) L (modTo U ν 0 n l) a) ∧
      (∀ c oc, l[c]? = some oc → U c = true → ∀ ν, Knows kv ν → Region.wanted oc (yielded l.toArray (A ν).tmps) = true → ∀ W, w.Exts W → (∀ c', U c' = true → (∃ e ∈ oc.after, Region.binds .any e = true ∧ e.on = c') → Φ c' (ν c') W) → oc.gives P (A ν).eval W fun v W' => W.Exts W' ∧ Φ c v W') ∧
      (∀ ν, Knows kv ν → ∀ W, w.Exts W → (∀ c, c < n → U c = true → Φ c (ν c) W) → wpList P l.toArray Q (l.drop n) (A ν) W)) : (Code.region id l.toArray true).wp P Q a w :=
  let ⟨A, hwant, hwalk, hcall, htail⟩ := h
  wp_region_any hm (wpAny_callsS n U A Φ kv hkv hB hD hback hfed (fun ν hkn i oi hi hU => ⟨hwant ν hkn i oi hi hU, guardFedB_spec hgf hi hU⟩) (fun i o hi hin hU => by
    have h1 := List.all_eq_true.1 hp i (List.mem_range.2 hin)
    simpa [hU, hi] using h1) hmono (fun ν hkn L hL => by
      have h1 := hwalk ν hkn L hL
      rw [← modTo_eq] at h1
      exact wpQuiet_ops (fun tmps => (yielded_modU ν tmps).symm) _ _ h1) hcall htail)
end Go

/-
  A slice written out.
-/
namespace Go
open Go.RowKit
/-- A slice written out, whose block was laid at some time before, and lies so still but for stores into older blocks. -/
theorem row_lit {α : Type} {enc : α → List Value} {k : Nat} (w : World) (cs : Array Value) (t : TypeId) (xs : List α) (n m : Nat) (hn : n = w.heap.size) (hm : m = xs.length) (hcs : cs.toList = xs.flatMap enc) (henc : ∀ y ∈ xs, (enc y).length = k) (hl : xs.length ≤ 1000000000) :
    (w.alloc (.cells cs t)).ownsRow w.heap.size t k (.slice (some ⟨n, 0, none⟩) m m) xs.length (xs.flatMap enc) ∧ IsRow enc k (w.alloc (.cells cs t)) (.slice (some ⟨n, 0, none⟩) m m) xs := by
  subst hn hm
  have hown := World.ownsRow_lit (e := t) (size := k) w cs xs.length (Nat.le_refl _) (by unfold maxLen; omega) (by rw [← Array.length_toList, hcs, flat_len xs henc])
  rw [hcs] at hown
  exact ⟨hown, IsRow.of_owns hown henc⟩
end Go
