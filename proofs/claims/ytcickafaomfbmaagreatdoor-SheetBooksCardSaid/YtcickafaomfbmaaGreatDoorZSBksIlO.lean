/-
  Several texts in one: see the heads of its parts.
-/

import Derived.Test.YtcickafaomfbmaaGreatDoorZSBksIgK
import Derived.Test.YtcickafaomfbmaaGreatDoorZSBksJb
import Derived.Test.YtcickafaomfbmaaGreatDoorZSBksCallsK
import Derived.Test.YtcickafaomfbmaaGreatDoorZSBksSort
import Derived.Test.YtcickafaomfbmaaGreatDoorZSBksShelfP
import Derived.Test.YtcickafaomfbmaaGreatDoorZSBksSoT
import Derived.Test.YtcickafaomfbmaaGreatDoorZSBksJdk
import Derived.Shelf.SlSortCmp.NoneTotal
import Derived.Test.YtcickafaomfbmaaGreatDoorZSBksIsT
/-
  Walks of package ice: how thick ice has to be in an hour.
-/
namespace Go.Proofs.YtcickafaomfbmaaGreatDoor
open Go.RowKit Kr
set_option linter.unusedSimpArgs false
set_option linter.unusedVariables false

/-- The table of limits, as it is laid. -/
structure LimsAt (w : World) : Prop where
  c0 : w.cell? ⟨1, 0, none⟩ = some (.func (.func 260) #[] #[])
  c1 : w.cell? ⟨1, 1, none⟩ = some (.func (.func 261) #[] #[])
  c2 : w.cell? ⟨1, 2, none⟩ = some (.func (.func 262) #[] #[])
  c3 : w.cell? ⟨1, 3, none⟩ = some (.func (.func 263) #[] #[])
theorem LimsAt.mono {w w' : World} (h : LimsAt w) (hE : w.Exts w') : LimsAt w' := ⟨hE.cell h.c0, hE.cell h.c1, hE.cell h.c2, hE.cell h.c3⟩

theorem ice_limits_1_any (h : Kr.Hour) (w : World) : Calls Tryz.prog 260 #[.agg #[.int .i64 h.melt.lo, .int .i64 h.melt.hi, .int .i64 h.runs, .int .i64 h.crew, .bool h.cold]] w fun e w' => e = .returned (.bool true) ∧ w.Exts w' := by
  go_enter Tryz.func260, Tryz.ntmps260
  go_wp2_with fail
  go_ret
  exact ⟨rfl, exq⟩
theorem ice_limits_3_any (h : Kr.Hour) (w : World) : Calls Tryz.prog 262 #[.agg #[.int .i64 h.melt.lo, .int .i64 h.melt.hi, .int .i64 h.runs, .int .i64 h.crew, .bool h.cold]] w fun e w' => e = .returned (.bool (decide (0 < h.runs))) ∧ w.Exts w' := by
  go_enter Tryz.func262, Tryz.ntmps262
  go_wp2_with fail
  go_ret
  exact ⟨rfl, exq⟩
theorem ice_limits_2_any (c : Kr.Cover) (a b d : Value) (w : World) : Calls Tryz.prog 261 #[.agg #[(⟨a, b, d⟩ : CoverV).t, (⟨a, b, d⟩ : CoverV).b, (⟨a, b, d⟩ : CoverV).h, .int .i64 c.wear.lo, .int .i64 c.wear.hi, .int .i64 c.layer.lo, .int .i64 c.layer.hi, .int .i64 c.rate, .int .i64 c.limit, .int .i64 c.base]] w fun e w' => e = .returned (.int .i64 c.base) ∧ w.Exts w' := by
  go_enter Tryz.func261, Tryz.ntmps261
  go_wp2_with fail
  go_ret
  exact ⟨rfl, exq⟩
theorem ice_limits_4_any (c : Kr.Cover) (a b d : Value) (w : World) : Calls Tryz.prog 263 #[.agg #[(⟨a, b, d⟩ : CoverV).t, (⟨a, b, d⟩ : CoverV).b, (⟨a, b, d⟩ : CoverV).h, .int .i64 c.wear.lo, .int .i64 c.wear.hi, .int .i64 c.layer.lo, .int .i64 c.layer.hi, .int .i64 c.rate, .int .i64 c.limit, .int .i64 c.base]] w fun e w' => e = .returned (.int .i64 c.limit) ∧ w.Exts w' := by
  go_enter Tryz.func263, Tryz.ntmps263
  go_wp2_with fail
  go_ret
  exact ⟨rfl, exq⟩

theorem ice_worst_any (s t : Kr.Span) (w : World) (hw : -4611686018427387904 ≤ s.lo - t.hi ∧ s.lo - t.hi ≤ 4611686018427387904) : Calls Tryz.prog 54 #[.agg #[.int .i64 s.lo, .int .i64 s.hi], .agg #[.int .i64 t.lo, .int .i64 t.hi]] w fun e w' => e = .returned (.int .i64 (s.lo - t.hi)) ∧ w.Exts w' := by
  obtain ⟨h1, h2⟩ := hw
  go_enter Tryz.func54, Tryz.ntmps54
  go_wp2_with fail
  go_ret
  exact ⟨rfl, exq⟩

set_option maxHeartbeats 1000000 in
theorem ice_greatest_any (m : Int) (l : List Int) (v : Value) (w : World) (h : IsRow (fun x : Int => [.int .i64 x]) 1 w v l) : Calls Tryz.prog 134 #[.int .i64 m, v] w fun e w' => e = .returned (.int .i64 (l.foldl max m)) ∧ w.Exts w' := by
  obtain ⟨p, b, o, cap, rfl, hm, hp, hc⟩ := h.ex
  have HP := Lib.hid hp
  clear hp
  have HC := Lib.hid hc
  clear hc
  clear h
  go_enter Tryz.func134, Tryz.ntmps134
  go_wp2_with fail
  go_loopw [0, 9] (fun a i wr => ∃ k : Nat, k ≤ l.length ∧ i = .int .i64 k ∧ a = .int .i64 ((l.take k).foldl max m) ∧ w.Exts wr) (fun _ i _ => l.length - (intOf i).toNat)
  case atStart => exact ⟨0, Nat.zero_le _, rfl, rfl, exq⟩
  case round =>
    obtain ⟨k, hk, rfl, rfl, X, rfl⟩ := hrel
    rcases Nat.lt_or_ge k l.length with hlt | hge
    · obtain ⟨rfl, hlay⟩ := HP.out (by omega)
      obtain ⟨x, hx⟩ := some_of_lt hlt
      have hcs := HC.out k x hx
      have c0 := hcs 0 _ rfl
      simp only [Nat.mul_one, Nat.add_zero] at c0
      have hnx : max ((l.take k).foldl max m) x = (l.take (k + 1)).foldl max m := by rw [take_snoc hx, List.foldl_append]; rfl
      have HN := Lib.hid hnx
      clear hnx
      generalize (l.take k).foldl max m = A at *
      clear hcs hx
      go_wp2_with fail
      go_roundw
      case rel => exact ⟨k + 1, by omega, by go_num, by rw [← HN.out], exq⟩
      case measure => simp [intOf]; omega
    · have hkn : k = l.length := by omega
      rw [hkn, List.take_length]
      clear HP HC
      go_wp2_with fail
      go_ret
      exact ⟨rfl, exq⟩

theorem index_lim0 (a b c d : Value) (W : World) : Sem.run Tryz.prog (Instr.index 216 (.agg #[a, b, c, d]) (.int .i64 0)) W = .ok (.agg #[a, b]) W := by kernel_rfl
theorem index_lim1 (a b c d : Value) (W : World) : Sem.run Tryz.prog (Instr.index 216 (.agg #[a, b, c, d]) (.int .i64 1)) W = .ok (.agg #[c, d]) W := by kernel_rfl
attribute [local go_sem] index_lim0 index_lim1
/-- How thick ice has to be in an hour. -/
def asksR (c : Kr.Cover) (h : Kr.Hour) : Int := if 0 < h.runs then max (max 0 c.base) c.limit else max 0 c.base
def askTo (c : Kr.Cover) (h : Kr.Hour) : Nat → Int
  | 0 => 0
  | 1 => max 0 c.base
  | _ => asksR c h
theorem askTo_yes {c : Kr.Cover} {h : Kr.Hour} (hr : 0 < h.runs) : askTo c h 2 = max (askTo c h 1) c.limit := by unfold askTo asksR; exact if_pos hr
theorem askTo_no {c : Kr.Cover} {h : Kr.Hour} (hr : h.runs ≤ 0) : askTo c h 2 = askTo c h 1 := by unfold askTo asksR; exact if_neg (by omega)
/-- What the region of one limit leaves. -/
def AskOne (rb : Nat) (m a : Int) (c : Nat) (W : World) (v : Value) : Prop :=
  (c = 4 → v = .pointer (some ⟨rb, 0, none⟩)) ∧ (c = 7 → v = .int .i64 a) ∧ (c = 8 → IsRow (fun x : Int => [.int .i64 x]) 1 W v [a]) ∧ (c = 9 → v = .int .i64 (max m a))
theorem AskOne.mono {rb : Nat} {m a : Int} {c : Nat} {W W' : World} {v : Value} (h : AskOne rb m a c W v) (hE : W.Exts W') : AskOne rb m a c W' v :=
  ⟨h.1, h.2.1, fun e => (h.2.2.1 e).mono hE, h.2.2.2⟩

set_option maxRecDepth 4000 in
set_option maxHeartbeats 4000000 in
theorem rink_asks_any (rb : Nat) (c : Kr.Cover) (v : CoverV) (h : Kr.Hour) (w : World) (hr : LaysAs w rb (.cells #[v.t, v.b, v.h, .int .i64 c.wear.lo, .int .i64 c.wear.hi, .int .i64 c.layer.lo, .int .i64 c.layer.hi, .int .i64 c.rate, .int .i64 c.limit, .int .i64 c.base] 156)) (hl : LimsAt w) :
    Calls Tryz.prog 104 #[.pointer (some ⟨rb, 0, none⟩), .agg #[.int .i64 h.melt.lo, .int .i64 h.melt.hi, .int .i64 h.runs, .int .i64 h.crew, .bool h.cold]] w fun e w' => e = .returned (.int .i64 (asksR c h)) ∧ w.Exts w' := by
  have r0 := LaysAs.cell hr 0 _ rfl
  have r1 := LaysAs.cell hr 1 _ rfl
  have r2 := LaysAs.cell hr 2 _ rfl
  have r3 := LaysAs.cell hr 3 _ rfl
  have r4 := LaysAs.cell hr 4 _ rfl
  have r5 := LaysAs.cell hr 5 _ rfl
  have r6 := LaysAs.cell hr 6 _ rfl
  have r7 := LaysAs.cell hr 7 _ rfl
  have r8 := LaysAs.cell hr 8 _ rfl
  have r9 := LaysAs.cell hr 9 _ rfl
  have nr := Lays.of_cell r0
  clear hr
  obtain ⟨l0, l1, l2, l3⟩ := hl
  have nl := Lays.of_cell l0
  obtain ⟨vt, vb, vh⟩ := v
  dsimp only at r0 r1 r2
  go_enter Tryz.func104, Tryz.ntmps104
  go_wp2_with fail
  go_loopw [5, 9] (fun a i wr => ∃ k : Nat, k ≤ 2 ∧ i = .int .i64 k ∧ a = .int .i64 (askTo c h k) ∧ (w.alloc (.cells #[.int .i64 h.melt.lo, .int .i64 h.melt.hi, .int .i64 h.runs, .int .i64 h.crew, .bool h.cold] 75)).Exts wr) (fun _ i _ => 2 - (intOf i).toNat)
  case atStart => exact ⟨0, by omega, rfl, rfl, exq⟩
  case round =>
    obtain ⟨k, hk, rfl, rfl, X, rfl⟩ := hrel
    rcases (by omega : k = 0 ∨ k = 1 ∨ k = 2) with rfl | rfl | rfl
    · go_wp2_with (go_at_call 260; refine (ice_limits_1_any h _).mono ?_; rintro e w' ⟨rfl, X2, rfl⟩)
      refine wp_region_callsK 10 (fun i => i == 4 || i == 7 || i == 8 || i == 9) (fun c' v W => AskOne rb 0 c.base c' W v) (fun c' => if c' = 4 then some (.pointer (some ⟨rb, 0, none⟩)) else none) (by kernel_rfl) (fun ν => by kernel_rfl) (by kernel_rfl) (by kernel_rfl) (by kernel_rfl) (by kernel_rfl) (by kernel_rfl) ?mono ?known ?_
      rotate_left 2
      apply Exists.intro
      refine ⟨fun ν hkn => ?want, fun ν hkn L hL => ?walk, fun c oc hc hU ν hkn W hE hΦ => ?calls, fun ν hkn W hE hΦ => ?tail⟩
      case walk =>
        repeat (first
          | (refine modTo_free rfl ?_; go_big_quiet_step (fail))
          | (refine modTo_call rfl (hkn _ _ rfl) ?_; go_big_quiet_step (fail))
          | (refine modTo_call rfl rfl ?_; go_big_quiet_step (fail)))
        refine modTo_end ?_
        exact hL
      case want =>
        intro i oi hi hU
        simp at hU
        rcases hU with ((rfl | rfl) | rfl) | rfl
        all_goals
          simp only [List.getElem?_cons_succ, List.getElem?_cons_zero, Option.some.injEq] at hi
          subst hi
          rfl
      case mono => exact fun c v W W' h hE => h.mono hE
      case known =>
        intro c' v W u h hk
        split at hk
        · cases hk; exact h.1 (by assumption)
        · cases hk
      case calls =>
        simp at hU
        rcases hU with ((rfl | rfl) | rfl) | rfl
        · simp only [List.getElem?_cons_succ, List.getElem?_cons_zero, Option.some.injEq] at hc
          subst hc
          exact .inr ⟨.pointer (some ⟨rb, 0, none⟩), W, by kernel_rfl, World.Exts.refl _, fun _ => rfl, fun e => (by cases e), fun e => (by cases e), fun e => (by cases e)⟩
        · simp only [List.getElem?_cons_succ, List.getElem?_cons_zero, Option.some.injEq] at hc
          subst hc
          refine gives_val rfl rfl rfl (enters_of Tryz.func261 (by kernel_rfl) rfl) ?_ rfl
          refine (ice_limits_2_any c vt vb vh W).mono ?_
          rintro e W' ⟨rfl, h2⟩
          exact ⟨_, rfl, h2, fun e => (by cases e), fun _ => rfl, fun e => (by cases e), fun e => (by cases e)⟩
        · simp only [List.getElem?_cons_succ, List.getElem?_cons_zero, Option.some.injEq] at hc
          subst hc
          have h7 := (hΦ 7 rfl ⟨⟨7, .data⟩, by simp, rfl, rfl⟩).2.1 rfl
          clear hkn
          generalize ν 7 = v7 at *
          subst h7
          exact .inr ⟨.slice (some ⟨W.heap.size, 0, none⟩) 1 1, W.alloc (.cells #[.int .i64 c.base] 3), by kernel_rfl, exq, fun e => (by cases e), fun e => (by cases e), fun _ => row_int1 _ _ _ (by simp), fun e => (by cases e)⟩
        · simp only [List.getElem?_cons_succ, List.getElem?_cons_zero, Option.some.injEq] at hc
          subst hc
          have h8 := (hΦ 8 rfl ⟨⟨8, .data⟩, by simp, rfl, rfl⟩).2.2.1 rfl
          clear hkn
          generalize ν 8 = v8 at *
          refine Oper.gives_fn rfl rfl rfl (enters_of Tryz.func134 (by kernel_rfl) rfl) ?_ rfl
          refine (ice_greatest_any 0 [c.base] v8 W h8).mono ?_
          rintro e W' ⟨rfl, h2⟩
          exact ⟨_, rfl, h2, fun e => (by cases e), fun e => (by cases e), fun e => (by cases e), fun _ => rfl⟩
      case tail =>
        have e9 := (hΦ 9 (by decide) rfl).2.2.2 rfl
        simp only [List.drop_succ_cons, List.drop_zero]
        clear hkn hΦ
        generalize ν 4 = n4
        generalize ν 7 = n7
        generalize ν 8 = n8
        generalize ν 9 = n9 at e9 ⊢
        subst e9
        obtain ⟨XJ, rfl⟩ := hE
        go_wp2_with fail
        go_roundw
        case rel => exact ⟨1, by omega, by go_num, rfl, exq⟩
        case measure => simp [intOf]
    · rcases Int.lt_or_le 0 h.runs with hru | hru
      · have hend := askTo_yes (c := c) hru
        generalize askTo c h 1 = m at hend ⊢
        have hrd : decide (0 < h.runs) = true := decide_eq_true hru
        have HEND := Lib.hid hend
        clear hend
        have HRD := Lib.hid hrd
        clear hrd
        go_wp2_with (go_at_call 262; refine (ice_limits_3_any h _).mono ?_; rw [HRD.out]; rintro e w' ⟨rfl, X2, rfl⟩)
        refine wp_region_callsK 10 (fun i => i == 4 || i == 7 || i == 8 || i == 9) (fun c' v W => AskOne rb m c.limit c' W v) (fun c' => if c' = 4 then some (.pointer (some ⟨rb, 0, none⟩)) else none) (by kernel_rfl) (fun ν => by kernel_rfl) (by kernel_rfl) (by kernel_rfl) (by kernel_rfl) (by kernel_rfl) (by kernel_rfl) ?mono ?known ?_
        rotate_left 2
        apply Exists.intro
        refine ⟨fun ν hkn => ?want, fun ν hkn L hL => ?walk, fun c oc hc hU ν hkn W hE hΦ => ?calls, fun ν hkn W hE hΦ => ?tail⟩
        case walk =>
          repeat (first
            | (refine modTo_free rfl ?_; go_big_quiet_step (fail))
            | (refine modTo_call rfl (hkn _ _ rfl) ?_; go_big_quiet_step (fail))
            | (refine modTo_call rfl rfl ?_; go_big_quiet_step (fail)))
          refine modTo_end ?_
          exact hL
        case want =>
          intro i oi hi hU
          simp at hU
          rcases hU with ((rfl | rfl) | rfl) | rfl
          all_goals
            simp only [List.getElem?_cons_succ, List.getElem?_cons_zero, Option.some.injEq] at hi
            subst hi
            rfl
        case mono => exact fun c v W W' h hE => h.mono hE
        case known =>
          intro c' v W u h hk
          split at hk
          · cases hk; exact h.1 (by assumption)
          · cases hk
        case calls =>
          simp at hU
          rcases hU with ((rfl | rfl) | rfl) | rfl
          · simp only [List.getElem?_cons_succ, List.getElem?_cons_zero, Option.some.injEq] at hc
            subst hc
            exact .inr ⟨.pointer (some ⟨rb, 0, none⟩), W, by kernel_rfl, World.Exts.refl _, fun _ => rfl, fun e => (by cases e), fun e => (by cases e), fun e => (by cases e)⟩
          · simp only [List.getElem?_cons_succ, List.getElem?_cons_zero, Option.some.injEq] at hc
            subst hc
            refine gives_val rfl rfl rfl (enters_of Tryz.func263 (by kernel_rfl) rfl) ?_ rfl
            refine (ice_limits_4_any c vt vb vh W).mono ?_
            rintro e W' ⟨rfl, h2⟩
            exact ⟨_, rfl, h2, fun e => (by cases e), fun _ => rfl, fun e => (by cases e), fun e => (by cases e)⟩
          · simp only [List.getElem?_cons_succ, List.getElem?_cons_zero, Option.some.injEq] at hc
            subst hc
            have h7 := (hΦ 7 rfl ⟨⟨7, .data⟩, by simp, rfl, rfl⟩).2.1 rfl
            clear hkn
            generalize ν 7 = v7 at *
            subst h7
            exact .inr ⟨.slice (some ⟨W.heap.size, 0, none⟩) 1 1, W.alloc (.cells #[.int .i64 c.limit] 3), by kernel_rfl, exq, fun e => (by cases e), fun e => (by cases e), fun _ => row_int1 _ _ _ (by simp), fun e => (by cases e)⟩
          · simp only [List.getElem?_cons_succ, List.getElem?_cons_zero, Option.some.injEq] at hc
            subst hc
            have h8 := (hΦ 8 rfl ⟨⟨8, .data⟩, by simp, rfl, rfl⟩).2.2.1 rfl
            clear hkn
            generalize ν 8 = v8 at *
            refine Oper.gives_fn rfl rfl rfl (enters_of Tryz.func134 (by kernel_rfl) rfl) ?_ rfl
            refine (ice_greatest_any m [c.limit] v8 W h8).mono ?_
            rintro e W' ⟨rfl, h2⟩
            exact ⟨_, rfl, h2, fun e => (by cases e), fun e => (by cases e), fun e => (by cases e), fun _ => rfl⟩
        case tail =>
          have e9 := (hΦ 9 (by decide) rfl).2.2.2 rfl
          simp only [List.drop_succ_cons, List.drop_zero]
          clear hkn hΦ
          generalize ν 4 = n4
          generalize ν 7 = n7
          generalize ν 8 = n8
          generalize ν 9 = n9 at e9 ⊢
          subst e9
          obtain ⟨XJ, rfl⟩ := hE
          go_wp2_with fail
          go_roundw
          case rel => exact ⟨2, by omega, by go_num, by rw [HEND.out], exq⟩
          case measure => simp [intOf]
      · have hend := askTo_no (c := c) hru
        generalize askTo c h 1 = m at hend ⊢
        have hrd : decide (0 < h.runs) = false := decide_eq_false (by omega)
        have HEND := Lib.hid hend
        clear hend
        have HRD := Lib.hid hrd
        clear hrd
        go_wp2_with (go_at_call 262; refine (ice_limits_3_any h _).mono ?_; rw [HRD.out]; rintro e w' ⟨rfl, X2, rfl⟩)
        go_roundw
        case rel => exact ⟨2, by omega, by go_num, by rw [HEND.out], exq⟩
        case measure => simp [intOf]
    · go_wp2_with fail
      go_ret
      exact ⟨rfl, exq⟩
end Go.Proofs.YtcickafaomfbmaaGreatDoor

/-
  Walks: how lists of numbers compare, with nothing made; what is too thin, sorted: the library's slices.SortFunc over pairs.
-/
namespace Go.Proofs.YtcickafaomfbmaaGreatDoor
open Go.RowKit Go.Shelf Kr
set_option linter.unusedSimpArgs false
set_option linter.unusedVariables false

theorem cmp_isNaN_same (x : Int) (w : World) : Calls Tryz.prog 177 #[.int .i64 x] w fun e w' => e = .returned (.bool false) ∧ w' = w := by
  go_enter Tryz.func177, Tryz.ntmps177
  go_wp2_with fail
  go_ret
  exact ⟨by simp, rfl⟩
theorem cmp_Compare_same (x y : Nat) (w : World) : Calls Tryz.prog 137 #[.int .i64 (x : Int), .int .i64 (y : Int)] w fun e w' => e = .returned (.int .i64 (if x = y then 0 else if x < y then -1 else 1)) ∧ w' = w := by
  rcases Nat.lt_trichotomy x y with h | h | h
  · have hv : (if x = y then (0 : Int) else if x < y then -1 else 1) = -1 := by rw [if_neg (by omega), if_pos h]
    rw [hv]
    clear hv
    go_enter Tryz.func137, Tryz.ntmps137
    go_wp2_with (go_at_call 177; refine (cmp_isNaN_same _ _).mono ?_; rintro e w' ⟨rfl, rfl⟩)
    go_ret
    exact ⟨rfl, rfl⟩
  · subst h
    rw [if_pos rfl]
    go_enter Tryz.func137, Tryz.ntmps137
    go_wp2_with (go_at_call 177; refine (cmp_isNaN_same _ _).mono ?_; rintro e w' ⟨rfl, rfl⟩)
    go_ret
    exact ⟨rfl, rfl⟩
  · have hv : (if x = y then (0 : Int) else if x < y then -1 else 1) = 1 := by rw [if_neg (by omega), if_neg (by omega)]
    rw [hv]
    clear hv
    go_enter Tryz.func137, Tryz.ntmps137
    go_wp2_with (go_at_call 177; refine (cmp_isNaN_same _ _).mono ?_; rintro e w' ⟨rfl, rfl⟩)
    go_ret
    exact ⟨rfl, rfl⟩

set_option maxRecDepth 4000 in
set_option maxHeartbeats 1000000 in
theorem Compare_int_same (a b : List Nat) (va vb : Value) (w : World) (ha : IsRow (fun x : Nat => [.int .i64 (x : Int)]) 1 w va a) (hb : IsRow (fun x : Nat => [.int .i64 (x : Int)]) 1 w vb b) :
    Calls Tryz.prog 107 #[va, vb] w fun e w' => e = .returned (.int .i64 (compareN a b)) ∧ w' = w := by
  obtain ⟨p1, b1, o1, cap1, rfl, hm1, hp1, hc1⟩ := ha.ex
  obtain ⟨p2, b2, o2, cap2, rfl, hm2, hp2, hc2⟩ := hb.ex
  have HP1 := Lib.hid hp1
  clear hp1
  have HC1 := Lib.hid hc1
  clear hc1
  have HP2 := Lib.hid hp2
  clear hp2
  have HC2 := Lib.hid hc2
  clear hc2
  clear ha hb
  go_enter Tryz.func107, Tryz.ntmps107
  go_wp2_with fail
  go_loopw [11] (fun i wr => ∃ k : Nat, k ≤ a.length ∧ i = .int .i64 k ∧ Hid (compareN a b = compareN (a.drop k) (b.drop k)) ∧ wr = w) (fun i _ => a.length - (intOf i).toNat)
  case atStart => exact ⟨0, Nat.zero_le _, rfl, Lib.hid rfl, rfl⟩
  case round =>
    obtain ⟨k, hk, rfl, HK, rfl⟩ := hrel
    by_cases hlt : k < a.length
    · obtain ⟨rfl, hl1⟩ := HP1.out (by omega)
      obtain ⟨x, hx⟩ := some_of_lt hlt
      have hcs := HC1.out k x hx
      have c0 := hcs 0 _ rfl
      simp only [Nat.mul_one, Nat.add_zero] at c0
      rcases Nat.lt_or_ge k b.length with h2 | h2
      · obtain ⟨rfl, hl2⟩ := HP2.out (by omega)
        obtain ⟨y, hy⟩ := some_of_lt h2
        have hds := HC2.out k y hy 0 _ rfl
        simp only [Nat.mul_one, Nat.add_zero] at hds
        have hst := compareN_step hx hy
        rcases Nat.lt_trichotomy x y with h | h | h
        · have hfin : compareN a b = -1 := by rw [HK.out, hst, if_neg (by omega), if_pos h]
          have hv : (if x = y then (0 : Int) else if x < y then -1 else 1) = -1 := by rw [if_neg (by omega), if_pos h]
          have HF := Lib.hid hfin
          clear hfin
          have HV := Lib.hid hv
          clear hv
          clear hx hy hcs hst
          go_wp2_with (go_at_call 137; refine (cmp_Compare_same x y _).mono ?_; rw [HV.out]; rintro e w' ⟨rfl, rfl⟩)
          go_ret
          exact ⟨by rw [HF.out]; rfl, rfl⟩
        · have hnx : compareN a b = compareN (a.drop (k + 1)) (b.drop (k + 1)) := by rw [HK.out, hst, if_pos h]
          have hv : (if x = y then (0 : Int) else if x < y then -1 else 1) = 0 := by rw [if_pos h]
          have HN := Lib.hid hnx
          clear hnx
          have HV := Lib.hid hv
          clear hv
          clear hx hy hcs hst h
          go_wp2_with (go_at_call 137; refine (cmp_Compare_same x y _).mono ?_; rw [HV.out]; rintro e w' ⟨rfl, rfl⟩)
          go_roundw
          case rel => exact ⟨k + 1, by omega, by go_num, Lib.hid HN.out, by first | rfl | trivial⟩
          case measure => simp [intOf]; omega
        · have hfin : compareN a b = 1 := by rw [HK.out, hst, if_neg (by omega), if_neg (by omega)]
          have hv : (if x = y then (0 : Int) else if x < y then -1 else 1) = 1 := by rw [if_neg (by omega), if_neg (by omega)]
          have HF := Lib.hid hfin
          clear hfin
          have HV := Lib.hid hv
          clear hv
          clear hx hy hcs hst
          go_wp2_with (go_at_call 137; refine (cmp_Compare_same x y _).mono ?_; rw [HV.out]; rintro e w' ⟨rfl, rfl⟩)
          go_ret
          exact ⟨by rw [HF.out]; rfl, rfl⟩
      · have hfin : compareN a b = 1 := by rw [HK.out]; exact compareN_left hlt h2
        have HF := Lib.hid hfin
        clear hfin
        clear hx hcs
        go_wp2_with fail
        go_ret
        exact ⟨by rw [HF.out]; rfl, rfl⟩
    · have hfin : compareN a b = if k < b.length then -1 else 0 := by rw [HK.out]; exact compareN_end (by omega)
      rcases Nat.lt_or_ge k b.length with h2 | h2
      · rw [if_pos h2] at hfin
        have HF := Lib.hid hfin
        clear hfin
        go_wp2_with fail
        go_ret
        exact ⟨by rw [HF.out]; rfl, rfl⟩
      · rw [if_neg (by omega)] at hfin
        have HF := Lib.hid hfin
        clear hfin
        go_wp2_with fail
        go_ret
        exact ⟨by rw [HF.out]; rfl, rfl⟩

/-- A pair, as the sort knows it. -/
abbrev PairN := Nat × Nat
def encP (p : PairN) : List Value := [.int .i64 (p.1 : Int), .int .i64 (p.2 : Int)]
def cmpP (x y : PairN) : Int := compareN [x.1, x.2] [y.1, y.2]
def pairCs (l : List PairN) : List Value := l.flatMap encP
theorem elem_Pair : ElemOf Tryz.prog 71 171 (.agg #[.int .i64 0, .int .i64 0]) 2 16 := ⟨Tryz.underlying71, by kernel_rfl, rfl, by decide, by decide⟩
theorem cmpP_val (x y : PairN) : cmpP x y = if x.1 = y.1 then (if x.2 = y.2 then 0 else if x.2 < y.2 then -1 else 1) else if x.1 < y.1 then -1 else 1 := rfl
theorem ltP (x y : PairN) : ltOf cmpP x y = decide (x.1 < y.1 ∨ (x.1 = y.1 ∧ x.2 < y.2)) := by
  unfold ltOf
  rw [cmpP_val, Bool.eq_iff_iff]
  simp
  split <;> (try split) <;> (try split) <;> omega
theorem swoP : Sort.SWO (ltOf cmpP) where
  irrefl x := by rw [ltP]; simp
  trans x y z h1 h2 := by rw [ltP] at *; simp at *; omega
  ntrans x y z h1 h2 := by rw [ltP] at *; simp at *; omega
theorem one_Pair (p : PairN) : ∀ u ∈ encP p, u.oneCell' = true := by intro u hu; simp [encP] at hu; rcases hu with rfl | rfl <;> rfl

theorem row_pair (w : World) (a b : Nat) (n : Nat) (t : TypeId) (hn : n = w.heap.size) : IsRow (fun x : Nat => [.int .i64 (x : Int)]) 1 (w.alloc (.cells #[.int .i64 (a : Int), .int .i64 (b : Int)] t)) (.slice (some ⟨n, 0, none⟩) 2 2) [a, b] := by
  subst hn
  refine ⟨some ⟨w.heap.size, 0, none⟩, w.heap.size, 0, 2, rfl, by simp, fun _ => ⟨rfl, lays_new _ _⟩, fun i x h j u hj => ?_⟩
  rcases j with _ | j <;> simp at hj
  subst hj
  rcases i with _ | _ | i <;> simp at h
  all_goals
    subst h
    rw [World.cell?_alloc_new]
    rfl
theorem grow_none (w : World) : Sort.grow (w.drewN 0) #[] = w := by rw [Sort.grow_empty]; rfl
theorem sort_more (w : World) (q n : Nat) (os os' : Array Obj) : Sort.grow ((Sort.grow (w.drewN q) os).drewN n) os' = Sort.grow (w.drewN (q + n)) (os ++ os') := by
  rw [← World.drewN_drewN, ← Sort.grow_grow]; rfl
set_option maxRecDepth 4000 in
set_option maxHeartbeats 1000000 in
theorem rink_thin_1_any (x y : PairN) (W : World) : Calls Tryz.prog 106 #[.agg (encP x).toArray, .agg (encP y).toArray] W fun e w' => e = .returned (.int .i64 (cmpP x y)) ∧ ∃ q os', w' = Sort.grow (W.drewN q) os' := by
  obtain ⟨a, b⟩ := x
  obtain ⟨c, d⟩ := y
  unfold encP
  dsimp only
  by_cases hxy : a = c ∧ b = d
  · obtain ⟨rfl, rfl⟩ := hxy
    have hv : cmpP (a, b) (a, b) = 0 := by rw [cmpP_val]; simp
    rw [hv]
    clear hv
    have heq := fun (W : World) => run_equalIn_pair (P := Tryz.prog) W 9998 171 3 Tryz.underlying171 Tryz.underlying3 Tryz.sizeOf3 a b a b
    simp only [Nat.reduceAdd, beq_self_eq_true, Bool.and_self] at heq
    go_enter Tryz.func106, Tryz.ntmps106
    go_wp2_with fail
    go_ret
    exact ⟨rfl, 0, _, by rw [Sort.alloc_eq_grow, Sort.alloc_eq_grow, Sort.grow_grow]; rfl⟩
  · have hv : ((a : Int) == (c : Int) && (b : Int) == (d : Int)) = false := by
      rw [Bool.and_eq_false_iff]
      simp only [beq_eq_false_iff_ne, ne_eq, Int.natCast_inj]
      omega
    have heq := fun (W : World) => run_equalIn_pair (P := Tryz.prog) W 9998 171 3 Tryz.underlying171 Tryz.underlying3 Tryz.sizeOf3 a b c d
    simp only [Nat.reduceAdd, hv] at heq
    go_enter Tryz.func106, Tryz.ntmps106
    go_wp2_with fail
    have hmix : (Tryz.prog).follows .mixedOrders = true := by kernel_rfl
    have hr1 : ∀ n os, IsRow (fun x : Nat => [.int .i64 (x : Int)]) 1 (Sort.grow (((W.alloc (.cells #[.int .i64 (a : Int), .int .i64 (b : Int)] 171)).alloc (.cells #[.int .i64 (c : Int), .int .i64 (d : Int)] 171)).drewN n) os) (.slice (some ⟨W.heap.size, 0, none⟩) 2 2) [a, b] := fun n os =>
      ((row_pair W a b W.heap.size 171 rfl).alloc _).mono (exts_grow exq n os)
    have hr2 : ∀ n os, IsRow (fun x : Nat => [.int .i64 (x : Int)]) 1 (Sort.grow (((W.alloc (.cells #[.int .i64 (a : Int), .int .i64 (b : Int)] 171)).alloc (.cells #[.int .i64 (c : Int), .int .i64 (d : Int)] 171)).drewN n) os) (.slice (some ⟨W.heap.size + 1, 0, none⟩) 2 2) [c, d] := fun n os =>
      (row_pair (W.alloc (.cells #[.int .i64 (a : Int), .int .i64 (b : Int)] 171)) c d (W.heap.size + 1) 171 (by simp)).mono (exts_grow exq n os)
    have hgo : ∃ q os', (W.alloc (.cells #[.int .i64 (a : Int), .int .i64 (b : Int)] 171)).alloc (.cells #[.int .i64 (c : Int), .int .i64 (d : Int)] 171) = Sort.grow (W.drewN q) os' := ⟨0, _, by rw [Sort.alloc_eq_grow, Sort.alloc_eq_grow, Sort.grow_grow]; rfl⟩
    generalize (W.alloc (.cells #[.int .i64 (a : Int), .int .i64 (b : Int)] 171)).alloc (.cells #[.int .i64 (c : Int), .int .i64 (d : Int)] 171) = V at *
    have HR1 := Lib.hid hr1
    clear hr1
    have HR2 := Lib.hid hr2
    clear hr2
    have HGO := Lib.hid hgo
    clear hgo
    clear heq
    have hcall : ∀ n os, Calls Tryz.prog 107 #[.slice (some ⟨W.heap.size, 0, none⟩) 2 2, .slice (some ⟨W.heap.size + 1, 0, none⟩) 2 2] (Sort.grow (V.drewN n) os) fun e w' => e = .returned (.int .i64 (cmpP (a, b) (c, d))) ∧ ∃ q os', w' = Sort.grow ((Sort.grow (V.drewN n) os).drewN q) os' := fun n os =>
      (Compare_int_same [a, b] [c, d] _ _ _ (HR1.out n os) (HR2.out n os)).mono (by rintro e w' ⟨rfl, rfl⟩; exact ⟨rfl, 0, #[], (grow_none _).symm⟩)
    go_quiet_grown ((go_at_call 107; refine Calls.grown_of (hcall _ _)))
    obtain ⟨q, os', hV⟩ := HGO.out
    subst hV
    go_wp2_with fail
    go_ret
    exact ⟨rfl, _, _, by rw [sort_more]⟩
theorem rink_thin_1_lays (blk off size : Nat) (w : World) : CmpLays Tryz.prog 106 #[] encP 2 cmpP blk off size w := fun _ _ _ _ x y => rink_thin_1_any x y _

theorem sort_grown {α : Type} [Inhabited α] {enc : α → List Value} {k g : Nat} {W : World} (m : Nat) (d' : Array α) (os : Array Obj) : W.grownBy (Proofs.sortWorldK enc k W g 0 m d' os) (some g) := by
  refine ⟨rfl, rfl, rfl, by simp [Proofs.sortWorldK, Sort.putRowK, Sort.putRow, Sort.mapBlock, Sort.ahead], fun i hi hne => ?_⟩
  unfold Proofs.sortWorldK
  rw [Sort.heap_grow_old _ _ (by simp [Sort.putRowK, Sort.putRow, Sort.mapBlock, Sort.ahead]; exact hi)]
  have hne : ¬ g = i := fun e => hne (by rw [e])
  simp only [Sort.putRowK, Sort.putRow, Sort.mapBlock, Sort.ahead, Array.getElem?_modify, if_neg hne]
/-- What slices.SortFunc leaves of a slice of pairs that is owned. -/
def SortedP (w : World) (base : Nat) (v : Value) (l : List PairN) (e : Ending) (w' : World) : Prop :=
  e = .returned (.tuple #[]) ∧ ∃ l', l'.Perm l ∧ w'.ownsRow base 171 2 v l.length (pairCs l') ∧ w.grownBy w' v.ownBlock
theorem sort_pairs (base : Nat) (v : Value) (l : List PairN) (w : World) (h : w.ownsRow base 171 2 v l.length (pairCs l)) (hlen : l.length ≤ 1000000000000) :
    Calls Tryz.prog 105 #[v, .func (.func 106) #[] #[]] w (SortedP w base v l) := by
  have eg : ∀ args w, (callFunc 106 args).run Tryz.prog w = .ok (.enter 106 args) w := enters_of Tryz.func106 (by kernel_rfl) rfl
  rcases owns_cases h with ⟨rfl, h0⟩ | ⟨g, cap, rfl, hb, hg⟩
  · have hl : l = [] := List.eq_nil_of_length_eq_zero h0
    subst hl
    have hcon := AnyF.slices_SortFunc_none (ρ := Tryz.sortPair_ren) { Tryz.sortPair with } none 0 (.func (.func 106) #[] #[]) w
    refine Calls.mono hcon ?_
    rintro e w' ⟨rfl, rfl⟩
    exact ⟨rfl, [], .refl _, h, ⟨rfl, rfl, rfl, Nat.le_refl _, fun _ _ _ => rfl⟩⟩
  · unfold pairCs at h
    have hcon := AnyQ.slices_SortFunc Tryz.sortPair 2 Tryz.isAgg171 Tryz.sizeOf171 encP (fun _ => rfl) (fun x u hu => one_Pair x u hu) cmpP swoP 106 #[] g 0 cap l.toArray w eg (rink_thin_1_lays g 0 _ w) (sort_holds (fun _ => rfl) (by decide) h) hg (by simp; omega)
    change Calls Tryz.prog 105 #[.slice (some ⟨g, 0, none⟩) l.length cap, .func (.func 106) #[] #[]] w _ at hcon
    refine Calls.mono hcon ?_
    rintro e w' ⟨rfl, d', n, os, hp, hs, rfl⟩
    obtain ⟨hps, _, hperm⟩ := hp
    have hds : d'.size = l.length := by simpa using hps
    refine ⟨rfl, d'.toList, ?_, ?_, sort_grown _ _ _⟩
    · have e1 : d'.extract 0 l.toArray.size = d' := by rw [Array.extract_eq_self_of_le]; simp [hds]
      have e2 : l.toArray.extract 0 l.toArray.size = l.toArray := by rw [Array.extract_eq_self_of_le]; simp
      rw [e1, e2] at hperm
      simpa using hperm
    · unfold pairCs
      exact sort_left (enc := encP) (k := 2) (fun _ => rfl) (by decide) h n d' os hds
end Go.Proofs.YtcickafaomfbmaaGreatDoor

/-
  Walks of package ice: what is too thin: a range over the iterator in a loop.
-/
namespace Go
open Go.RowKit
/-- A function that held ranges over functions leaves: their marks go. -/
theorem leaves_marks {P : Program} {F : Fence} {n : Nat} {fn : Func} {tmps : Array Value} {R : Ending → World → Prop} : ∀ (Ds : List Nat) (w : World), Ds.Nodup → (∀ D ∈ Ds, w.heap[D]? = some (.deferred (some []))) →
    (∀ w', (∀ A : World, A.Exts w → (∀ D ∈ Ds, A.heap.size ≤ D) → A.Exts w') → ∃ v, (results fn tmps).run P w' = .ok v w' ∧ R (.returned v) w') → LeavesInM F n P fn tmps R (Ds.map fun D => { target := .collected D, args := #[] }) .returning w
  | [], w, _, _, H => H w fun A hA _ => hA
  | D :: Ds, w, hn, hm, H => by
    have hD := hm D (List.mem_cons_self ..)
    rw [List.nodup_cons] at hn
    refine ⟨by simp, .inl ⟨D, w.putObj D (.deferred none), rfl, run_takeDeferred hD, leaves_marks Ds _ hn.2 (fun D' h => ?_) fun w' hw' => H w' fun A hA hB => hw' A ?_ fun D' h => hB D' (List.mem_cons_of_mem _ h)⟩⟩
    · rw [World.putObj_heap_other (fun e => hn.1 (by subst e; exact h))]
      exact hm D' (List.mem_cons_of_mem _ h)
    · have hb := hA.below
      have h1 := hB D (List.mem_cons_self ..)
      exact .of ⟨hb.os, hb.tape, hb.output, by simpa using hb.size, fun k hk => (World.putObj_heap_other (by omega)).trans (hb.block k hk)⟩
end Go
namespace Go.Proofs.YtcickafaomfbmaaGreatDoor
open Go.RowKit Go.Shelf Kr
set_option linter.unusedSimpArgs false
set_option linter.unusedVariables false
attribute [local go_sem] Oper.semAt_some

/-- What thin's loop keeps: its list in a box, the marks of the ranges that are over. -/
structure ThinAt (V W : World) (n : Nat) (Ds : List Nat) : Prop where
  below : Below V.heap.size V W
  box : ∃ (l : List PairN) (v : Value), l.length ≤ n ∧ LaysAs W V.heap.size (.cells [v].toArray 71 (0, 0)) ∧ W.ownsRow (V.heap.size + 1) 171 2 v l.length (pairCs l)
  marks : ∀ D ∈ Ds, V.heap.size ≤ D ∧ W.heap[D]? = some (.deferred (some []))
  apart : Ds.Nodup
theorem ownsRow_turned {W W' : World} {base size n : Nat} {e : TypeId} {v : Value} {xs : List Value} {row : Option Nat} (h : W.ownsRow base e size v n xs) (hg : W.grownBy W' row) (hr : ∀ r, row = some r → ∃ o : Obj, W.heap[r]? = some o ∧ ∀ cs fr, o ≠ .cells cs e fr) : W'.ownsRow base e size v n xs := by
  refine ⟨h.1, ?_⟩
  rcases h.2 with h1 | ⟨g, cap, cur, hv, hb, hc, h2⟩
  · exact .inl h1
  · refine .inr ⟨g, cap, cur, hv, hb, (hg.block g (Array.getElem?_eq_some_iff.1 hc).1 (fun e => ?_)).trans hc, h2⟩
    obtain ⟨o, h3, h4⟩ := hr g e.symm
    rw [hc] at h3
    cases h3
    exact h4 _ _ rfl
theorem ownBlock_at {W : World} {base size n : Nat} {e : TypeId} {v : Value} {xs : List Value} (h : W.ownsRow base e size v n xs) {b : Nat} (hb : v.ownBlock = some b) : base ≤ b ∧ ∃ cs, W.heap[b]? = some (.cells cs e (0, 0)) := by
  rcases h.2 with ⟨rfl, _⟩ | ⟨g, cap, cur, rfl, h1, hc, _⟩
  · cases hb
  · cases hb
    exact ⟨h1, cur, hc⟩
theorem laysAs_grown {B f : Nat} {W W' : World} {row : Option Nat} {o : Obj} (h : LaysAs W f o) (hf : f < B) (hg : W.grownBy W' row) (hr : ∀ r, row = some r → B ≤ r) : LaysAs W' f o := block_grown h hf hg hr
theorem block_turned {base k : Nat} {W W' : World} {v : Value} {t : TypeId} {o : Obj} (h : LaysAs W k o) (hob : ∀ b, v.ownBlock = some b → base ≤ b ∧ ∃ cs, W.heap[b]? = some (.cells cs t (0, 0))) (hg : W.grownBy W' v.ownBlock) (ho : ∀ cs fr, o ≠ .cells cs t fr) : LaysAs W' k o := by
  unfold LaysAs at *
  refine (hg.block k (Array.getElem?_eq_some_iff.1 h).1 fun e => ?_).trans h
  obtain ⟨_, cs, hc⟩ := hob k e.symm
  rw [h] at hc
  cases hc
  exact ho _ _ rfl
theorem ThinAt.more {V W : World} {n m : Nat} {Ds : List Nat} (h : ThinAt V W n Ds) (hm : n ≤ m) : ThinAt V W m Ds := by
  obtain ⟨l, v, h1, h2⟩ := h.box
  exact ⟨h.below, ⟨l, v, Nat.le_trans h1 hm, h2⟩, h.marks, h.apart⟩
theorem ThinAt.exts {V W W' : World} {n : Nat} {Ds : List Nat} (h : ThinAt V W n Ds) (hE : W.Exts W') : ThinAt V W' n Ds := by
  obtain ⟨l, v, h1, h2, h3⟩ := h.box
  have hb := hE.below
  exact ⟨h.below.trans (hb.mono h.below.size), ⟨l, v, h1, h2.exts hE, ownsRow_exts h3 hE⟩, fun D hD => ⟨(h.marks D hD).1, (hb.block D (Array.getElem?_eq_some_iff.1 (h.marks D hD).2).1).trans (h.marks D hD).2⟩, h.apart⟩
theorem ThinAt.own {V W W' : World} {n B : Nat} {Ds : List Nat} {row : Option Nat} (h : ThinAt V W n Ds) (hg : W.grownBy W' row) (hB : V.heap.size < B) (hDs : ∀ D ∈ Ds, D < B) (hr : ∀ r, row = some r → B ≤ r ∧ ∃ o : Obj, W.heap[r]? = some o ∧ (o.isCells = false ∨ ∃ cs fr, o = .cells cs 28 fr)) : ThinAt V W' n Ds := by
  obtain ⟨l, v, h1, h2, h3⟩ := h.box
  refine ⟨below_grown h.below hg (fun r e => by have := (hr r e).1; omega), ⟨l, v, h1, block_grown h2 hB hg (fun r e => (hr r e).1), ownsRow_turned h3 hg fun r e => ?_⟩, fun D hD => ⟨(h.marks D hD).1, block_grown (h.marks D hD).2 (hDs D hD) hg (fun r e => (hr r e).1)⟩, h.apart⟩
  obtain ⟨_, o, h4, h5⟩ := hr r e
  refine ⟨o, h4, fun cs fr e2 => ?_⟩
  subst e2
  rcases h5 with h5 | ⟨cs', fr', h5⟩
  · cases h5
  · cases h5
theorem ThinAt.push {V W : World} {n D : Nat} {Ds : List Nat} (h : ThinAt V W n Ds) (h1 : V.heap.size ≤ D) (h2 : W.heap[D]? = some (.deferred (some []))) (h3 : ∀ D' ∈ Ds, D' < D) : ThinAt V W n (D :: Ds) := by
  refine ⟨h.below, h.box, fun D' hD' => ?_, List.nodup_cons.2 ⟨fun hD => Nat.lt_irrefl _ (h3 D hD), h.apart⟩⟩
  rcases List.mem_cons.1 hD' with e | hD'
  · subst e
    exact ⟨h1, h2⟩
  · exact h.marks D' hD'
/-- A pair more, and the list put into its box. -/
theorem ThinAt.grow {V W w1 : World} {n : Nat} {Ds : List Nat} {l : List PairN} {v v' : Value} {tmp : Obj} (x : PairN) (h : ThinAt V W n Ds) (hln : l.length ≤ n) (hbx : LaysAs W V.heap.size (.cells [v].toArray 71 (0, 0))) (hrow : W.ownsRow (V.heap.size + 1) 171 2 v l.length (pairCs l))
    (hown : w1.ownsRow (V.heap.size + 1) 171 2 v' (l.length + 1) (pairCs l ++ encP x)) (hgrow : (W.alloc tmp).grownBy w1 v.ownBlock) :
    LaysAs w1 V.heap.size (.cells [v].toArray 71 (0, 0)) ∧ KeepsOthers W (w1.setCell ⟨V.heap.size, 0, none⟩ v') ∧ KeepsT V V.heap.size 171 W (w1.setCell ⟨V.heap.size, 0, none⟩ v') ∧ ThinAt V (w1.setCell ⟨V.heap.size, 0, none⟩ v') (n + 1) Ds := by
  have hob := fun b e => ownBlock_at hrow (b := b) e
  have hal : ∀ k o, W.heap[k]? = some o → (W.alloc tmp).heap[k]? = some o := fun k o hk => (Below.heap_alloc W tmp k (Array.getElem?_eq_some_iff.1 hk).1).trans hk
  have hkeep : ∀ (k : Nat) (o : Obj), W.heap[k]? = some o → (∀ cs, o ≠ .cells cs 171 (0, 0)) → w1.heap[k]? = some o := fun k o hk hne => by
    have h1 := hal k o hk
    refine (hgrow.block k (Array.getElem?_eq_some_iff.1 h1).1 fun e => ?_).trans h1
    obtain ⟨_, cs, hc⟩ := hob k e.symm
    rw [hk] at hc
    cases hc
    exact hne cs rfl
  have hB1 : Below V.heap.size V w1 := below_grown (h.below.alloc h.below.size _) hgrow fun r e => by have := (hob r e).1; omega
  have hl1 : LaysAs w1 V.heap.size (.cells [v].toArray 71 (0, 0)) := hkeep _ _ hbx fun cs e => by cases e
  refine ⟨hl1, ((KeepsOthers.alloc W tmp).trans (KeepsOthers.of_grownBy hgrow fun j o e ho => ?_)).trans (KeepsOthers.setCell _ _ _), ⟨⟨?_, ?_, ?_, ?_, fun k hk => ?_⟩, fun k cs t fr h1 h2 h3 => ?_⟩, ⟨hB1.setCell (by dsimp only; omega) _, ⟨l ++ [x], v', by rw [List.length_append, List.length_singleton]; omega, LaysAs.set (cs := [v]) hl1 (i := 0) v', ?_⟩, fun D hD => ⟨(h.marks D hD).1, ?_⟩, h.apart⟩⟩
  · obtain ⟨_, cs, hc⟩ := hob j e
    rw [hal _ _ hc] at ho
    cases ho
    rfl
  · exact hgrow.os
  · exact hgrow.tape
  · exact hgrow.output
  · have := hgrow.size; simp at this ⊢; omega
  · have hkW : k < W.heap.size := Nat.lt_of_lt_of_le hk h.below.size
    rw [World.heap_set_other _ _ _ (by dsimp only; omega), hgrow.block k (by simp; omega) (fun e => by have := (hob k e.symm).1; omega), Below.heap_alloc W tmp k hkW]
  · rw [World.heap_set_other _ _ _ (by dsimp only; exact h1)]
    exact hkeep _ _ h3 fun cs' e => by cases e; exact h2 rfl
  · have := World.ownsRow.set hown (p := ⟨V.heap.size, 0, none⟩) (by dsimp only; omega) v'
    rw [List.length_append, List.length_singleton]
    unfold pairCs at this ⊢
    rw [List.flatMap_append]
    simpa using this
  · rw [World.heap_set_other _ _ _ (by dsimp only; have := (h.marks D hD).2; intro e; subst e; unfold LaysAs at hbx; rw [hbx] at this; cases this)]
    exact hkeep _ _ (h.marks D hD).2 fun cs e => by cases e
def markOf (D : Nat) : Deferred := { target := .collected D, args := #[] }

set_option maxRecDepth 100000 in
set_option maxHeartbeats 4000000 in
theorem rink_thin_in (rb : Nat) (c : Kr.Cover) (v : CoverV) (ps : List (List Int × Value)) (pv : Value) (w : World) (h : CoverAt w c v) (hp : ListsAt w pv ps) (hr : LaysAs w rb (.cells #[v.t, v.b, v.h, .int .i64 c.wear.lo, .int .i64 c.wear.hi, .int .i64 c.layer.lo, .int .i64 c.layer.hi, .int .i64 c.rate, .int .i64 c.limit, .int .i64 c.base] 156)) (hl0 : LimsAt w) (hf : CoverFacts c) (hpl : ps.length = c.hours.length) (hpf : ∀ x ∈ ps, x.1.length ≤ 1000) :
    CallsIn Fence.wide 3 Tryz.prog 53 #[.pointer (some ⟨rb, 0, none⟩), pv, .func (.func 54) #[] #[]] w fun e w' => ∃ q m k, e = .returned (.slice q m k) ∧ w.Exts w' := by
  obtain ⟨qp, cp, rfl⟩ := hp.row.len
  obtain ⟨i9, hii, hz0, hz1, hz2⟩ := info_parts elem_Pair.inf
  refine callsIn_of_wp_marks Tryz.func53 rfl trivial ?_ rfl
  simp only [Tryz.ntmps53, List.size_toArray, List.length_cons, List.length_nil, Nat.reduceAdd, Nat.reduceSub, Array.replicate_succ, Array.replicate_zero, List.push_toArray, List.append_toArray, List.nil_append, List.cons_append]
  have r1 := LaysAs.cell hr 1 _ rfl
  have r2 := LaysAs.cell hr 2 _ rfl
  have nr := Lays.of_cell r1
  obtain ⟨qb, cb, hqb⟩ := h.bd.len
  rw [hqb] at r1
  obtain ⟨qh, hb, ho, ch, hqh, hhm, hhq, hhc⟩ := h.hr.ex
  rw [hqh] at r2
  have hbn := hf.beds
  have hf1 := hf.t1.2
  have hbl : (c.beds.length : Int) ≤ 12 := by omega
  have HBN := Lib.hid hbn
  clear hbn
  have HPL := Lib.hid hpl
  clear hpl
  have HPF := Lib.hid hpf
  clear hpf
  gi_wp2
  have hEV : w.Exts ((w.alloc (.cells #[.pointer (some ⟨rb, 0, none⟩)] 101)).alloc (.cells #[.func (.func 54) #[] #[]] 136)) := exq
  have k3 : ((w.alloc (.cells #[.pointer (some ⟨rb, 0, none⟩)] 101)).alloc (.cells #[.func (.func 54) #[] #[]] 136)).cell? ⟨w.heap.size, 0, none⟩ = some (.pointer (some ⟨rb, 0, none⟩)) := by simp [go_sem]
  have k5 : ((w.alloc (.cells #[.pointer (some ⟨rb, 0, none⟩)] 101)).alloc (.cells #[.func (.func 54) #[] #[]] 136)).cell? ⟨w.heap.size + 1, 0, none⟩ = some (.func (.func 54) #[] #[]) := by simp [go_sem]
  have hVs : ((w.alloc (.cells #[.pointer (some ⟨rb, 0, none⟩)] 101)).alloc (.cells #[.func (.func 54) #[] #[]] 136)).heap.size = w.heap.size + 1 + 1 := by simp
  generalize (w.alloc (.cells #[.pointer (some ⟨rb, 0, none⟩)] 101)).alloc (.cells #[.func (.func 54) #[] #[]] 136) = V at *
  have hT0 : ThinAt V (V.alloc (.cells #[.slice none 0 0] 71)) 0 [] := ⟨World.Exts.below exq, ⟨[], .slice none 0 0, Nat.le_refl _, LaysAs.new V _, World.ownsRow_nil _ _ _ _⟩, fun D hD => (by cases hD), List.nodup_nil⟩
  have HT0 := Lib.hid hT0
  clear hT0
  refine wpIn_loop (fun a W => ∃ (k : Nat) (u8 u18 u19 u20 u21 u22 u23 u60 : Value) (Ds : List Nat), k ≤ c.beds.length ∧ a = { tmps := #[.pointer (some ⟨rb, 0, none⟩), .slice qp ps.length cp, .func (.func 54) #[] #[], .pointer (some ⟨w.heap.size, 0, none⟩), undef, .pointer (some ⟨w.heap.size + 1, 0, none⟩), .slice none 0 0, .pointer (some ⟨w.heap.size + 1 + 1, 0, none⟩), u8, undef, undef, .pointer (some ⟨rb, 0, none⟩), .pointer (some ⟨rb, 0, none⟩), .pointer (some ⟨rb, 0, none⟩), .pointer (some ⟨rb, 1, none⟩), .slice qb c.beds.length cb, .int .i64 c.beds.length, .int .i64 k, u18, u19, u20, u21, u22, u23, undef, undef, undef, undef, undef, undef, undef, undef, undef, undef, undef, undef, undef, undef, undef, undef, undef, undef, undef, undef, undef, undef, undef, undef, undef, undef, undef, undef, undef, undef, undef, undef, undef, undef, undef, undef, u60, undef, undef, undef], defers := (Ds.map markOf) } ∧ Hid (ThinAt V W (13 * k) Ds)) (fun a _ => c.beds.length - (intOf (a.tmps.getD 17 undef)).toNat) ?start ?round
  case start => exact ⟨0, _, _, _, _, _, _, _, _, [], Nat.zero_le _, rfl, HT0⟩
  case round =>
    clear HT0
    rintro a W ⟨k, u8, u18, u19, u20, u21, u22, u23, u60, Ds, hk, rfl, HT⟩
    obtain ⟨X, rfl⟩ : ∃ X : Ext V, W = V.ext X := ⟨⟨W, HT.out.below⟩, rfl⟩
    rcases Nat.lt_or_ge k c.beds.length with hlt | hge
    · have w1 : (k : Int) < (c.beds.length : Int) := by omega
      have n3 := Lays.of_cell k3
      have n5 := Lays.of_cell k5
      gi_wp2
      refine wpIn_scope ?_
      gi_wp2
      refine wpIn_label ?_
      gi_wp2_with (refine ⟨trivial, ?_⟩; gi_at_call 39; refine (callsIn_wide.2 (rink_days_any _ _ _ _ ⟨_, _, _, rfl⟩)).mono ?_; rintro e w' ⟨rfl, rfl⟩)
      have hXs : V.heap.size < (V.ext X).heap.size := by
        obtain ⟨l, v, h1, h2, h3⟩ := HT.out.box
        exact h2.lt
      have hDs : ∀ D ∈ Ds, D < (V.ext X).heap.size := fun D hD => (Array.getElem?_eq_some_iff.1 (HT.out.marks D hD).2).1
      have hsq := rink_days_1_stops 2 rb ((V.ext X).heap.size + 1) ((V.ext X).heap.size + 1 + 1 + 1) ((V.ext X).heap.size + 1 + 1) V.heap.size 171 c v ps (.slice qp ps.length cp) k V (((((V.ext X).alloc (.cells #[.int .i64 k] 3)).alloc (.cells #[.pointer (some ⟨rb, 0, none⟩)] 101)).alloc (.cells #[.slice qp ps.length cp] 31)).alloc (.cells #[.int .i64 k] 3))
        exq (h.mono hEV) (hp.mono hEV) (hr.exts hEV) (LaysAs.exts (laysAs_size ((V.ext X).alloc (.cells #[.int .i64 k] 3)) (.cells #[.pointer (some ⟨rb, 0, none⟩)] 101) (by simp)) exq) (laysAs_size _ _ (by simp)) (LaysAs.exts (laysAs_size (((V.ext X).alloc (.cells #[.int .i64 k] 3)).alloc (.cells #[.pointer (some ⟨rb, 0, none⟩)] 101)) (.cells #[.slice qp ps.length cp] 31) (by simp)) exq)
        (by omega) (by omega) (by omega) (by simp; omega) rfl hf hlt HPL.out HPF.out
      have hTW : ThinAt V (((((V.ext X).alloc (.cells #[.int .i64 k] 3)).alloc (.cells #[.pointer (some ⟨rb, 0, none⟩)] 101)).alloc (.cells #[.slice qp ps.length cp] 31)).alloc (.cells #[.int .i64 k] 3)) (13 * k) Ds := HT.out.exts exq
      have hib : LaysAs (((((V.ext X).alloc (.cells #[.int .i64 k] 3)).alloc (.cells #[.pointer (some ⟨rb, 0, none⟩)] 101)).alloc (.cells #[.slice qp ps.length cp] 31)).alloc (.cells #[.int .i64 k] 3)) (V.ext X).heap.size (.cells [.int .i64 k].toArray 3 (0, 0)) := LaysAs.exts (LaysAs.new (V.ext X) _) exq
      obtain ⟨W0, hW0⟩ : ∃ W0, ((((V.ext X).alloc (.cells #[.int .i64 k] 3)).alloc (.cells #[.pointer (some ⟨rb, 0, none⟩)] 101)).alloc (.cells #[.slice qp ps.length cp] 31)).alloc (.cells #[.int .i64 k] 3) = W0 := ⟨_, rfl⟩
      have hs0 : (V.ext X).heap.size + 1 + 1 + 1 + 1 = W0.heap.size := by rw [← hW0]; simp
      rw [hW0] at hsq hTW hib ⊢
      clear hW0 HT
      have HSQ := Lib.hid hsq
      clear hsq
      obtain ⟨ib, hibe⟩ : ∃ ib, (V.ext X).heap.size = ib := ⟨_, rfl⟩
      rw [hibe] at hDs hs0 hib hXs ⊢
      have hDs0 : ∀ D ∈ Ds, D < W0.heap.size := fun D hD => by have := hDs D hD; omega
      refine wpIn_range_turns2 28 (by omega) (α := HourB c) (gf := 84) rfl (enters_of Tryz.func84 (by kernel_rfl) rfl) (e1 := fun x : HourB c => .int .i64 x.1) (e2 := fun x : HourB c => .agg #[.int .i64 (thickAt c (ps.map Prod.fst) k x.1).lo, .int .i64 (thickAt c (ps.map Prod.fst) k x.1).hi]) (fun x => rfl) (by rw [← hibe]; exact HSQ.out) (fun h k => h.trans k) (fun W l o o' hl ho h1 _ => KeepsT.put W l o o' (by omega) ho h1)
        (fun (pre : List (HourB c)) W => ThinAt V W (13 * k + pre.length) Ds ∧ LaysAs W ib (.cells [.int .i64 k].toArray 3 (0, 0)) ∧ W0.heap.size ≤ W.heap.size)
        (fun _ _ _ => False)
        (fun s W W' row ⟨h1, h2, h3⟩ hg hrw => ⟨h1.own hg (by omega) hDs0 hrw, laysAs_grown h2 (show ib < W0.heap.size by omega) hg (fun r e => (hrw r e).1), Nat.le_trans h3 hg.size⟩)
        (fun cd s W W' row hF _ _ => hF)
        ⟨hTW, hib, Nat.le_refl _⟩ 9 10 (fun x : HourB c => [.int .i64 (thickAt c (ps.map Prod.fst) k x.1).lo, .int .i64 (thickAt c (ps.map Prod.fst) k x.1).hi]) ?assign ?body ?done (fun D cd pre W _ _ hF _ => hF.elim)
      case assign =>
        rintro l pre x W K ⟨h1, h2, h3⟩ hK
        gi_wp2
        exact hK W.heap.size _ ((KeepsOthers.alloc _ _).from _) (KeepsT.of_exts h1.below.size ((World.Exts.refl W).alloc _)) ⟨h1.exts exq, LaysAs.exts h2 exq, by simp; omega⟩ h3 (World.alloc_heap_new W _)
      case body =>
        rintro l pre x Bx W hl ⟨hT, hib2, hsz⟩ hBx hbx hlen
        have hx2 := x.2
        obtain ⟨tlo, htlo⟩ : ∃ z, (thickAt c (ps.map Prod.fst) k x.1).lo = z := ⟨_, rfl⟩
        obtain ⟨thi, hthi⟩ : ∃ z, (thickAt c (ps.map Prod.fst) k x.1).hi = z := ⟨_, rfl⟩
        have htb := thickAt_bd hf (ps.map Prod.fst) hlt hx2
        rw [htlo, hthi] at hbx htb
        obtain ⟨htb1, htb2, htb3, htb4⟩ := htb
        obtain ⟨j, hj⟩ : ∃ j, x.1 = j := ⟨_, rfl⟩
        rw [hj] at hx2 htb2 htb4 ⊢
        have hj8 : j ≤ 8 := by have := hf.hours.2; omega
        obtain ⟨XW, rfl⟩ : ∃ X : Ext V, W = V.ext X := ⟨⟨W, hT.below⟩, rfl⟩
        have x0 := cells_block (cs := [.int .i64 tlo, .int .i64 thi]) hbx 0 _ rfl
        have x1 := cells_block (cs := [.int .i64 tlo, .int .i64 thi]) hbx 1 _ rfl
        have nx := Lays.of_cell x0
        have i0 := LaysAs.cell hib2 0 _ rfl
        have ni := Lays.of_cell i0
        have n3 := Lays.of_cell k3
        have n5 := Lays.of_cell k5
        have e2 := hEV.cell r2
        have ne := Lays.of_cell e2
        have hLoss := fun (hjl : j < c.hours.length) (W : World) (hE : w.Exts W) => rink_loss_any rb c v k j W (h.mono hE) (hr.exts hE) hf hlt hjl
        have hAsks := fun (y : Kr.Hour) (W : World) (hE : w.Exts W) => rink_asks_any rb c v y W (hr.exts hE) (hl0.mono hE)
        dsimp only [Act.put]
        simp only [List.setIfInBounds_toArray, List.set_cons_succ, List.set_cons_zero]
        clear htlo hthi
        have HT := Lib.hid hT
        clear hT
        have HLOSS := Lib.hid hLoss
        clear hLoss
        have HASKS := Lib.hid hAsks
        clear hAsks
        rcases Nat.lt_or_ge j c.hours.length with hjl | hjl
        · obtain ⟨rfl, hlay2⟩ := hhq (by omega)
          obtain ⟨y, hy⟩ := some_of_lt hjl
          have hcs := hhc j y hy
          have y0 := hEV.cell (hcs 0 _ rfl)
          have y1 := hEV.cell (hcs 1 _ rfl)
          have y2 := hEV.cell (hcs 2 _ rfl)
          have y3 := hEV.cell (hcs 3 _ rfl)
          have y4 := hEV.cell (hcs 4 _ rfl)
          simp only [Nat.add_zero] at y0
          have ny := Lays.of_cell y0
          have hLs := HLOSS.out hjl
          have hlb := lossAt_bd hf hlt hjl
          obtain ⟨llo, hllo⟩ : ∃ z, (lossAt c k j).lo = z := ⟨_, rfl⟩
          obtain ⟨lhi, hlhi⟩ : ∃ z, (lossAt c k j).hi = z := ⟨_, rfl⟩
          rw [hllo, hlhi] at hLs hlb
          have hWo := fun (W : World) => ice_worst_any ⟨tlo, thi⟩ ⟨llo, lhi⟩ W (by dsimp only; omega)
          obtain ⟨ak, hak⟩ : ∃ z, asksR c y = z := ⟨_, rfl⟩
          have hAs := HASKS.out y
          rw [hak] at hAs
          have hjn : ¬ (j : Int) = (c.hours.length : Int) := by omega
          have hjd : decide ((j : Int) = (c.hours.length : Int)) = false := decide_eq_false hjn
          have hje : ((j : Int) == (c.hours.length : Int)) = false := beq_eq_false_iff_ne.2 hjn
          have w2 : (j : Int) < (c.hours.length : Int) := by omega
          have HLS := Lib.hid hLs
          clear hLs
          have HWO := Lib.hid hWo
          clear hWo
          have HAS := Lib.hid hAs
          clear hAs
          clear hlb hcs hy hllo hlhi hak
          gi_wp2
          refine wpIn_region_ext_round (by kernel_rfl) (by kernel_rfl) (by kernel_rfl) ?_
          repeat (go_big_quiet_step (first
            | (go_at_call 85; exact Calls.in_ext_eq (HLS.out _ (hEV.trans exq)) rfl)
            | (go_at_call 54; exact Calls.in_ext_eq (HWO.out _) rfl)
            | (go_at_call 104; exact Calls.in_ext_eq (HAS.out _ (hEV.trans exq)) rfl)))
          refine wpQuiet_nil ?_
          rintro _ ⟨X9, rfl⟩
          rcases Int.lt_or_le (tlo - lhi) ak with hta | hta
          · have hT9 := HT.out.exts (W' := (V.ext XW).ext X9) exq
            have hib9 := LaysAs.exts (w' := (V.ext XW).ext X9) hib2 exq
            have hs9 : W0.heap.size ≤ ((V.ext XW).ext X9).heap.size := Nat.le_trans hsz (World.Exts.size exq)
            have hK9 : KeepsOthers (V.ext XW) ((V.ext XW).ext X9) := KeepsOthers.of_exts exq
            have hT92 : KeepsT V V.heap.size 171 (V.ext XW) ((V.ext XW).ext X9) := KeepsT.of_exts HT.out.below.size exq
            obtain ⟨l, v9, hln, hbx9, hrow⟩ := hT9.box
            have l0 := LaysAs.cell hbx9 0 _ rfl
            have f0 := laysAs_frozen (i := 0) hbx9
            rw [hVs] at l0 f0
            have nl := Lays.of_cell l0
            have hnew : ∀ (i : Nat) (u : Value), ([.int .i64 (j : Int), .int .i64 (k : Int)] : List Value)[i]? = some u → (((V.ext XW).ext X9).alloc (.cells #[.int .i64 (j : Int), .int .i64 (k : Int)] 171)).cell? ((⟨((V.ext XW).ext X9).heap.size, 0, none⟩ : Addr).add i) = some u := by
              intro i u hj
              rw [show (⟨((V.ext XW).ext X9).heap.size, 0, none⟩ : Addr).add i = ⟨((V.ext XW).ext X9).heap.size, i, none⟩ from by unfold Addr.add; split <;> simp_all]
              rw [World.cell?_alloc_new]
              simpa using hj
            have hone : ∀ u ∈ ([.int .i64 (j : Int), .int .i64 (k : Int)] : List Value), u.oneCell' = true := by intro u hu; simp at hu; rcases hu with rfl | rfl <;> rfl
            have hgr := fun (v' : Value) (w1 : World) => hT9.grow (w1 := w1) (v' := v') (tmp := .cells #[.int .i64 (j : Int), .int .i64 (k : Int)] 171) (j, k) hln hbx9 hrow
            have hb9 : V.heap.size + 1 ≤ (((V.ext XW).ext X9).alloc (.cells #[.int .i64 (j : Int), .int .i64 (k : Int)] 171)).heap.size := by have := hT9.below.size; simp; omega
            have hl9 : l.length ≤ 1000 := by omega
            have HT9 := Lib.hid hT9
            clear hT9
            have HGR := Lib.hid hgr
            clear hgr
            have HNEW := Lib.hid hnew
            clear hnew
            have HONE := Lib.hid hone
            clear hone
            have HROW := Lib.hid hrow
            clear hrow
            have HB9 := Lib.hid hb9
            clear hb9
            clear hbx9 HLS HWO HAS HLOSS HASKS
            gi_wp2_with (gi_at_builtin; refine wpListIn_append_own _ rfl _ _ 71 rfl (V.heap.size + 1) 171 i9 (.agg #[.int .i64 0, .int .i64 0]) 2 16 Tryz.underlying71 hii hz0 hz1 hz2 rfl (by decide) _ _ _ rfl (HROW.out.alloc _) ⟨((V.ext XW).ext X9).heap.size, 0, none⟩ 1 1 [.int .i64 (j : Int), .int .i64 (k : Int)] rfl rfl HNEW.out HONE.out (by unfold maxLen; omega) (by omega) HB9.out ?_; intro v' w1 hown' hgrow _; obtain ⟨g', cap', rfl⟩ := ownsRow_succ hown'; obtain ⟨hq1, hq2, hq3, hq4⟩ := HGR.out _ w1 hown' hgrow; have c1 := LaysAs.cell hq1 0 _ rfl; have f1 := laysAs_frozen (i := 0) hq1; rw [hVs] at c1 f1; have HQ2 := Lib.hid hq2; have HQ3 := Lib.hid hq3; have HQ4 := Lib.hid hq4; clear hq1 hq2 hq3 hq4 hown' hgrow)
            have hKT := hT92.trans HQ3.out
            rw [hVs] at HQ2 HQ4 hKT
            refine ⟨(hK9.trans HQ2.out).from _, ?_, HQ4.out.more (by rw [List.length_append, List.length_singleton]; omega), ?_, Nat.le_trans hs9 HQ2.out.size⟩
            · rw [hVs]
              exact hKT
            · exact hKT.lays hib2 (by omega) (by decide)
          · gi_wp2
            exact ⟨(KeepsOthers.of_exts exq).from _, KeepsT.of_exts HT.out.below.size exq, (HT.out.exts exq).more (by rw [List.length_append, List.length_singleton]; omega), LaysAs.exts hib2 exq, Nat.le_trans hsz (World.Exts.size exq)⟩
        · obtain rfl : j = c.hours.length := by omega
          gi_wp2
          refine wpIn_region_ext_round (by kernel_rfl) (by kernel_rfl) (by kernel_rfl) ?_
          repeat (go_big_quiet_step (fail))
          refine wpQuiet_nil ?_
          rintro _ ⟨X9, rfl⟩
          gi_wp2
          exact ⟨(KeepsOthers.of_exts exq).from _, KeepsT.of_exts HT.out.below.size exq, (HT.out.exts exq).more (by rw [List.length_append, List.length_singleton]; omega), LaysAs.exts hib2 exq, Nat.le_trans hsz (World.Exts.size exq)⟩
      case done =>
        rintro D xs W hD hS ⟨h1, h2, h3⟩ hdf
        have hxl : xs.length ≤ 13 := by
          have hS2 : xs.map Subtype.val = List.range (c.hours.length + 1) := hS
          have h4 := congrArg List.length hS2
          rw [List.length_map, List.length_range] at h4
          have h5 := hf.hours.2
          omega
        have hTD := (h1.more (show 13 * k + xs.length ≤ 13 * (k + 1) by omega)).push (by omega) hdf (fun D' hD' => by have := hDs D' hD'; omega)
        have HTD := Lib.hid hTD
        clear hTD
        clear h1 h2 h3 hdf hS
        dsimp only
        unfold Exit.noGoto
        gi_wp2
        exact ⟨⟨k + 1, _, _, _, _, _, _, _, _, D :: Ds, by omega, rfl, HTD⟩, by simp [intOf]; omega⟩
    · obtain ⟨l, v, hln, hbx, hrow⟩ := HT.out.box
      have hmk := HT.out.marks
      have hap := HT.out.apart
      have l0 := LaysAs.cell hbx 0 _ rfl
      rw [hVs] at l0
      have nl := Lays.of_cell l0
      have hnl : ¬ (k : Int) < (c.beds.length : Int) := by omega
      obtain ⟨q, cap, hv⟩ := owns_len hrow
      subst hv
      have hob := fun b e => ownBlock_at hrow (b := b) e
      have HROW := Lib.hid hrow
      clear hrow
      have HMK := Lib.hid hmk
      clear hmk
      have HAP := Lib.hid hap
      clear hap
      have HBX := Lib.hid hbx
      clear hbx
      have HOB := Lib.hid hob
      clear hob
      clear HT
      gi_wp2_with (refine ⟨trivial, ?_⟩; gi_at_call 105; refine (callsIn_wide.2 (sort_pairs (V.heap.size + 1) _ l _ HROW.out (by omega))).mono ?_; rintro e w' ⟨rfl, l', hperm, hown', hgrow⟩; have hbx2 := block_turned HBX.out HOB.out hgrow (fun cs fr e => (by cases e)); have hbelow := below_grown (X.le) hgrow (fun r e => (by have := (HOB.out r e).1; omega)); have m0 := LaysAs.cell hbx2 0 _ rfl; rw [hVs] at m0)
      refine leaves_marks Ds _ HAP.out (fun D hD => block_turned (HMK.out D hD).2 HOB.out hgrow (fun cs fr e => (by cases e))) fun w9 hw9 => ?_
      have hE9 : w.Exts w9 := hw9 w (hEV.trans (.of hbelow)) fun D hD => by have := (HMK.out D hD).1; omega
      exact ⟨.slice q l.length cap, by simp [results, Tryz.results53, go_sem], q, l.length, cap, rfl, hE9⟩
theorem rink_thin_any (rb : Nat) (c : Kr.Cover) (v : CoverV) (ps : List (List Int × Value)) (pv : Value) (w : World) (h : CoverAt w c v) (hp : ListsAt w pv ps) (hr : LaysAs w rb (.cells #[v.t, v.b, v.h, .int .i64 c.wear.lo, .int .i64 c.wear.hi, .int .i64 c.layer.lo, .int .i64 c.layer.hi, .int .i64 c.rate, .int .i64 c.limit, .int .i64 c.base] 156)) (hl0 : LimsAt w) (hf : CoverFacts c) (hpl : ps.length = c.hours.length) (hpf : ∀ x ∈ ps, x.1.length ≤ 1000) :
    Calls Tryz.prog 53 #[.pointer (some ⟨rb, 0, none⟩), pv, .func (.func 54) #[] #[]] w fun e w' => ∃ q m k, e = .returned (.slice q m k) ∧ w.Exts w' :=
  callsIn_wide.1 (rink_thin_in rb c v ps pv w h hp hr hl0 hf hpl hpf)
end Go.Proofs.YtcickafaomfbmaaGreatDoor
