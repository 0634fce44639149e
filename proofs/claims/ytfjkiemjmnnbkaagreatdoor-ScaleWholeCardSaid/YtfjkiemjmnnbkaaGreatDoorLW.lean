/-
  The law ScaleWhole: its walk.
-/
import Derived.Test.YtfjkiemjmnnbkaaGreatDoorAm
import Derived.Test.YtfjkiemjmnnbkaaGreatDoorRy
import Derived.Test.YtfjkiemjmnnbkaaGreatDoorWhole
import Derived.Test.YtfjkiemjmnnbkaaGreatDoorHp
import Derived.Deep.DeepCutAuto
namespace Go.Proofs.YtfjkiemjmnnbkaaGreatDoor
open Go.RowKit Kr
set_option linter.unusedSimpArgs false

theorem l04_told_any (a b : Bool) (w : World) : Calls Tryz.prog 50 #[.bool a, .bool b] w fun e w' => e = .returned (.int .u8 (toldR a b)) ∧ w.Exts w' := by
  cases a <;> cases b
  all_goals
    go_enter Tryz.func50, Tryz.ntmps50
    go_wp2_with fail
    go_ret
    exact ⟨rfl, exq⟩
theorem totAll_snoc {l : List Span} {o x : Span} {k : Nat} (hx : l[k]? = some x) : totAll o (l.take (k + 1)) = (totAll o (l.take k) && (decide (o.lo ≤ x.lo) && decide (x.hi ≤ o.hi))) := by
  unfold totAll; rw [take_snoc hx]; simp
theorem totSome_snoc {l : List Span} {o x : Span} {k : Nat} (hx : l[k]? = some x) : totSome o (l.take (k + 1)) = (totSome o (l.take k) || (decide (x.lo ≤ o.hi) && decide (o.lo ≤ x.hi))) := by
  unfold totSome; rw [take_snoc hx]; simp
theorem coldB_snoc {l : List Span} {m : Int} {x : Span} {k : Nat} (hx : l[k]? = some x) : coldB m (l.take (k + 1)) = (coldB m (l.take k) && decide (x.hi ≤ m)) := by
  unfold coldB; rw [take_snoc hx]; simp
theorem coolB_snoc {l : List Span} {m : Int} {x : Span} {k : Nat} (hx : l[k]? = some x) : coolB m (l.take (k + 1)) = (coolB m (l.take k) && decide (x.lo ≤ m)) := by
  unfold coolB; rw [take_snoc hx]; simp
theorem totals_ready {b : List Kr.Scale} {g : Gear} (h : check b g = 0) : totalsR b g = (totals b g, if totals b g = [] then 6 else 0) := by
  unfold totalsR
  rw [if_pos h]
  by_cases hn : totals b g = []
  · rw [if_pos (by simp [hn]), if_pos hn, hn]
  · rw [if_neg (by simpa using hn), if_neg hn]
theorem warm_ready {g : Gear} (h : bare g = true) : (warm g).2 = 0 := by unfold warm; rw [if_pos h]
theorem minOf5 (a b c d e : Int) : minOf [a, b, c, d, e] = min (min (min (min (min 2 a) b) c) d) e := rfl

set_option maxRecDepth 100000 in
set_option maxHeartbeats 4000000 in
theorem l04w_any (ts : List (Kr.Scale × Value)) (v : Value) (g : Gear) (lv rv sv : Value) (n : Norm) (w : World) (hrow : BayAt w v ts)
    (hl : IsRow (fun t : Kr.Load => [.int .i64 t.scale, .int .i64 t.shown]) 2 w lv g.loads) (hr : IsRow (fun x : Int => [.int .i64 x]) 1 w rv g.runners) (hs : IsRow (fun x : Int => [.int .i64 x]) 1 w sv g.strokes) (hwf : ∀ l ∈ g.loads, (Lit.int .i64 l.scale).wf = true) (hcd : CondsAt w) :
    Calls Tryz.prog 12 #[.agg #[v], .agg #[lv, .int .i64 g.added, .int .i64 g.base, .int .i64 g.jitter, rv, sv, .int .i64 g.spread, .bool g.stamp], .agg #[.int .i64 n.total.lo, .int .i64 n.total.hi, .int .i64 n.added, .int .i64 n.warm, .int .i64 n.hard.lo, .int .i64 n.hard.hi, .bool n.stamp]] w fun e w' => e = .returned (.bool true) ∧ w.Exts w' := by
  obtain ⟨q0, cp0, rfl⟩ := hrow.row.len
  obtain ⟨q1, cp1, rfl⟩ := hl.len
  obtain ⟨q2, cp2, rfl⟩ := hr.len
  obtain ⟨q3, cp3, rfl⟩ := hs.len
  have HB := Lib.hid hrow
  clear hrow
  have HL := Lib.hid hl
  clear hl
  have HR := Lib.hid hr
  clear hr
  have HS := Lib.hid hs
  clear hs
  have HWF := Lib.hid hwf
  clear hwf
  have HCD := Lib.hid hcd
  clear hcd
  cases hrd : readyB ts g
  case false =>
    as_aux_lemma =>
    have HRD := Lib.hid hrd
    clear hrd
    go_enter Tryz.func12, Tryz.ntmps12
    go_wp2_with (first
      | (go_at_call 21; refine (l04_alive_any _ (HCD.out.mono exq)).mono ?_; rintro e w' ⟨rfl, X0, rfl⟩)
      | (go_at_call 22; refine (l04_ready_any ts _ g _ _ _ _ (HB.out.mono exq) (HL.out.mono exq) (HR.out.mono exq) (HS.out.mono exq)).mono ?_; rintro e w' ⟨rfl, X1, rfl⟩; rw [HRD.out]))
    go_ret
    exact ⟨rfl, exq⟩
  obtain ⟨hgr, hck⟩ := ready_parts hrd
  have hgn := great_not hgr
  have hbare := gearOk_bare (check_zero hck).2
  have hga : GearAt w (g, .slice q1 g.loads.length cp1, .slice q2 g.runners.length cp2, .slice q3 g.strokes.length cp3) := ⟨HL.out, HR.out, HS.out, by dsimp only; omega, HWF.out⟩
  have HRD := Lib.hid hrd
  clear hrd
  have HGA := Lib.hid hga
  clear hga
  clear hgr hgn
  cases hn : normB n
  case false =>
    as_aux_lemma =>
    have HN := Lib.hid hn
    clear hn
    clear hck hbare
    go_enter Tryz.func12, Tryz.ntmps12
    go_wp2_with (first
      | (go_at_call 21; refine (l04_alive_any _ (HCD.out.mono exq)).mono ?_; rintro e w' ⟨rfl, X0, rfl⟩)
      | (go_at_call 22; refine (l04_ready_any ts _ g _ _ _ _ (HB.out.mono exq) (HL.out.mono exq) (HR.out.mono exq) (HS.out.mono exq)).mono ?_; rintro e w' ⟨rfl, X1, rfl⟩; rw [HRD.out])
      | (go_at_call 23; refine (r04_Norm_any n _).mono ?_; rintro e w' ⟨rfl, X2, rfl⟩; rw [HN.out]))
    go_ret
    exact ⟨rfl, exq⟩
  have htr := totals_ready hck
  have hwr := warm_ready hbare
  by_cases ht : totals (ts.map Prod.fst) g = []
  · --[C
    as_aux_lemma =>
    rw [ht, if_pos rfl] at htr
    have hj := judge_none hck hn ht
    have HN := Lib.hid hn
    clear hn
    have HT := Lib.hid htr
    clear htr
    have HJ := Lib.hid hj
    clear hj
    have HW := Lib.hid hwr
    clear hwr
    clear hck hbare ht
    rcases hard_bare (gearOk_bare (check_zero (ready_parts HRD.out).2).2) with ⟨hh0, hh1⟩ | hh
    · have HH := Lib.hid hh0
      clear hh0
      clear hh1
      go_enter Tryz.func12, Tryz.ntmps12
      go_wp2_with (first
        | (go_at_call 21; refine (l04_alive_any _ (HCD.out.mono exq)).mono ?_; rintro e w' ⟨rfl, X0, rfl⟩)
        | (go_at_call 22; refine (l04_ready_any ts _ g _ _ _ _ (HB.out.mono exq) (HL.out.mono exq) (HR.out.mono exq) (HS.out.mono exq)).mono ?_; rintro e w' ⟨rfl, X1, rfl⟩; rw [HRD.out])
        | (go_at_call 23; refine (r04_Norm_any n _).mono ?_; rintro e w' ⟨rfl, X2, rfl⟩; rw [HN.out])
        | (go_at_call 29; refine (scale_Totals_any ts _ g _ _ _ _ (HB.out.mono exq) (HGA.out.mono exq)).mono ?_; rw [HT.out]; rintro e w' ⟨vt, rfl, _, X3, rfl⟩)
        | (go_at_call 30; refine (scale_Warm_any g _ _ _ _ (HGA.out.mono exq)).mono ?_; rw [HW.out]; rintro e w' ⟨vw, rfl, _, X4, rfl⟩)
        | (go_at_call 31; refine (scale_Hard_any g _ _ _ _ (HGA.out.mono exq)).mono ?_; rw [HH.out]; rintro e w' ⟨rfl, X5, rfl⟩)
        | (go_at_call 32; refine (scale_Judge_any ts _ g _ _ _ n _ (HB.out.mono exq) (HGA.out.mono exq) (HCD.out.mono exq)).mono ?_; rw [HJ.out]; rintro e w' ⟨vj, rfl, _, X6, rfl⟩))
      go_ret
      exact ⟨rfl, exq⟩
    · have HH := Lib.hid hh
      clear hh
      go_enter Tryz.func12, Tryz.ntmps12
      go_wp2_with (first
        | (go_at_call 21; refine (l04_alive_any _ (HCD.out.mono exq)).mono ?_; rintro e w' ⟨rfl, X0, rfl⟩)
        | (go_at_call 22; refine (l04_ready_any ts _ g _ _ _ _ (HB.out.mono exq) (HL.out.mono exq) (HR.out.mono exq) (HS.out.mono exq)).mono ?_; rintro e w' ⟨rfl, X1, rfl⟩; rw [HRD.out])
        | (go_at_call 23; refine (r04_Norm_any n _).mono ?_; rintro e w' ⟨rfl, X2, rfl⟩; rw [HN.out])
        | (go_at_call 29; refine (scale_Totals_any ts _ g _ _ _ _ (HB.out.mono exq) (HGA.out.mono exq)).mono ?_; rw [HT.out]; rintro e w' ⟨vt, rfl, _, X3, rfl⟩)
        | (go_at_call 30; refine (scale_Warm_any g _ _ _ _ (HGA.out.mono exq)).mono ?_; rw [HW.out]; rintro e w' ⟨vw, rfl, _, X4, rfl⟩)
        | (go_at_call 31; refine (scale_Hard_any g _ _ _ _ (HGA.out.mono exq)).mono ?_; rw [HH.out]; rintro e w' ⟨rfl, X5, rfl⟩)
        | (go_at_call 32; refine (scale_Judge_any ts _ g _ _ _ n _ (HB.out.mono exq) (HGA.out.mono exq) (HCD.out.mono exq)).mono ?_; rw [HJ.out]; rintro e w' ⟨vj, rfl, _, X6, rfl⟩))
      go_ret
      exact ⟨rfl, exq⟩
  rw [if_neg ht] at htr
  rcases hard_bare hbare with ⟨hh0, hh1⟩ | hh
  case inr =>
    as_aux_lemma =>
    have hj := judge_bad hck hn ht (by rw [hh]; decide)
    rw [hh] at hj
    have HN := Lib.hid hn
    clear hn
    have HT := Lib.hid htr
    clear htr
    have HJ := Lib.hid hj
    clear hj
    have HW := Lib.hid hwr
    clear hwr
    have HH := Lib.hid hh
    clear hh
    clear hck hbare ht
    go_enter Tryz.func12, Tryz.ntmps12
    go_wp2_with (first
      | (go_at_call 21; refine (l04_alive_any _ (HCD.out.mono exq)).mono ?_; rintro e w' ⟨rfl, X0, rfl⟩)
      | (go_at_call 22; refine (l04_ready_any ts _ g _ _ _ _ (HB.out.mono exq) (HL.out.mono exq) (HR.out.mono exq) (HS.out.mono exq)).mono ?_; rintro e w' ⟨rfl, X1, rfl⟩; rw [HRD.out])
      | (go_at_call 23; refine (r04_Norm_any n _).mono ?_; rintro e w' ⟨rfl, X2, rfl⟩; rw [HN.out])
      | (go_at_call 29; refine (scale_Totals_any ts _ g _ _ _ _ (HB.out.mono exq) (HGA.out.mono exq)).mono ?_; rw [HT.out]; rintro e w' ⟨vt, rfl, _, X3, rfl⟩)
      | (go_at_call 30; refine (scale_Warm_any g _ _ _ _ (HGA.out.mono exq)).mono ?_; rw [HW.out]; rintro e w' ⟨vw, rfl, _, X4, rfl⟩)
      | (go_at_call 31; refine (scale_Hard_any g _ _ _ _ (HGA.out.mono exq)).mono ?_; rw [HH.out]; rintro e w' ⟨rfl, X5, rfl⟩)
      | (go_at_call 32; refine (scale_Judge_any ts _ g _ _ _ n _ (HB.out.mono exq) (HGA.out.mono exq) (HCD.out.mono exq)).mono ?_; rw [HJ.out]; rintro e w' ⟨vj, rfl, _, X6, rfl⟩))
    go_ret
    exact ⟨rfl, exq⟩
  have hj := judgeR_want hck hn ht hh0
  have hwant : wantR (ts.map Prod.fst) g n = [toldR (totAll n.total (totals (ts.map Prod.fst) g)) (totSome n.total (totals (ts.map Prod.fst) g)), toldR (decide (g.added ≤ n.added)) false, toldR (coldB n.warm (warm g).1) (coolB n.warm (warm g).1), hardTold g n, toldR (g.stamp || !n.stamp) false] := rfl
  have hrange := wantR_range (ts.map Prod.fst) g n
  have HN := Lib.hid hn
  clear hn
  have HT := Lib.hid htr
  clear htr
  have HJ := Lib.hid hj
  clear hj
  have HW := Lib.hid hwr
  clear hwr
  have HH := Lib.hid hh0
  clear hh0
  have HWANT := Lib.hid hwant
  clear hwant
  have HRANGE := Lib.hid hrange
  clear hrange
  clear hck hbare ht
  go_enter Tryz.func12, Tryz.ntmps12
  go_wp2_with (first
    | (go_at_call 21; refine (l04_alive_any _ (HCD.out.mono exq)).mono ?_; rintro e w' ⟨rfl, X0, rfl⟩)
    | (go_at_call 22; refine (l04_ready_any ts _ g _ _ _ _ (HB.out.mono exq) (HL.out.mono exq) (HR.out.mono exq) (HS.out.mono exq)).mono ?_; rintro e w' ⟨rfl, X1, rfl⟩; rw [HRD.out])
    | (go_at_call 23; refine (r04_Norm_any n _).mono ?_; rintro e w' ⟨rfl, X2, rfl⟩; rw [HN.out])
    | (go_at_call 29; refine (scale_Totals_any ts _ g _ _ _ _ (HB.out.mono exq) (HGA.out.mono exq)).mono ?_; rw [HT.out]; rintro e w' ⟨vt, rfl, ht, X3, rfl⟩; obtain ⟨qt, ct, rfl⟩ := ht.len; have HTT := Lib.hid ht; clear ht)
    | (go_at_call 30; refine (scale_Warm_any g _ _ _ _ (HGA.out.mono exq)).mono ?_; rw [HW.out]; rintro e w' ⟨vw, rfl, hw9, X4, rfl⟩; obtain ⟨qw, cw, rfl⟩ := hw9.len; have HWW := Lib.hid hw9; clear hw9)
    | (go_at_call 31; refine (scale_Hard_any g _ _ _ _ (HGA.out.mono exq)).mono ?_; rw [HH.out]; rintro e w' ⟨rfl, X5, rfl⟩)
    | (go_at_call 32; refine (scale_Judge_any ts _ g _ _ _ n _ (HB.out.mono exq) (HGA.out.mono exq) (HCD.out.mono exq)).mono ?_; rw [HJ.out]; rintro e w' ⟨vj, rfl, hj9, X6, rfl⟩; obtain ⟨qj, cj, rfl⟩ := hj9.len; have HJJ := Lib.hid hj9; clear hj9))
  generalize hBH : (World.ext _ X5).heap.size = bh
  generalize hV : World.ext _ X6 = V
  have hEV : w.Exts V := by rw [← hV]; exact exq
  have hTV := HTT.out.mono (w' := V) (by rw [← hV]; exact exq)
  have hWV := HWW.out.mono (w' := V) (by rw [← hV]; exact exq)
  have hJV := HJJ.out.mono (w' := V) (by rw [← hV]; exact exq)
  have b11 : V.cell? ⟨w.heap.size + 1, 1, none⟩ = some (.int .i64 g.added) := by rw [← hV]; simp [go_sem]
  have b17 : V.cell? ⟨w.heap.size + 1, 7, none⟩ = some (.bool g.stamp) := by rw [← hV]; simp [go_sem]
  have b20 : V.cell? ⟨w.heap.size + 1 + 1, 0, none⟩ = some (.int .i64 n.total.lo) := by rw [← hV]; simp [go_sem]
  have b21 : V.cell? ⟨w.heap.size + 1 + 1, 1, none⟩ = some (.int .i64 n.total.hi) := by rw [← hV]; simp [go_sem]
  have b22 : V.cell? ⟨w.heap.size + 1 + 1, 2, none⟩ = some (.int .i64 n.added) := by rw [← hV]; simp [go_sem]
  have b23 : V.cell? ⟨w.heap.size + 1 + 1, 3, none⟩ = some (.int .i64 n.warm) := by rw [← hV]; simp [go_sem]
  have b24 : V.cell? ⟨w.heap.size + 1 + 1, 4, none⟩ = some (.int .i64 n.hard.lo) := by rw [← hV]; simp [go_sem]
  have b25 : V.cell? ⟨w.heap.size + 1 + 1, 5, none⟩ = some (.int .i64 n.hard.hi) := by rw [← hV]; simp [go_sem]
  have b26 : V.cell? ⟨w.heap.size + 1 + 1, 6, none⟩ = some (.bool n.stamp) := by rw [← hV]; simp [go_sem]
  have d0 : V.cell? ⟨bh, 0, none⟩ = some (.int .i64 (hard g).1.lo) := by rw [← hV, ← hBH]; simp [go_sem]
  have d1 : V.cell? ⟨bh, 1, none⟩ = some (.int .i64 (hard g).1.hi) := by rw [← hV, ← hBH]; simp [go_sem]
  clear hV hBH
  have l1 := Lays.of_cell b11
  have l2 := Lays.of_cell b20
  have l3 := Lays.of_cell d0
  obtain ⟨qt', bt, ot, ct', e, hmt, hpt, hct⟩ := hTV.ex
  simp only [Value.slice.injEq] at e
  obtain ⟨rfl, -, rfl⟩ := e
  obtain ⟨qw', bw, ow, cw', e, hmw, hpw, hcw⟩ := hWV.ex
  simp only [Value.slice.injEq] at e
  obtain ⟨rfl, -, rfl⟩ := e
  have HPT := Lib.hid hpt
  clear hpt
  have HCT := Lib.hid hct
  clear hct
  have HPW := Lib.hid hpw
  clear hpw
  have HCW := Lib.hid hcw
  clear hcw
  have HJV := Lib.hid hJV
  clear hJV
  clear hTV hWV HTT HWW HJJ
  go_loopw [18, 19, 86] (fun al so i wr => ∃ (k : Nat) (ba bs : Bool), k ≤ (totals (ts.map Prod.fst) g).length ∧ i = .int .i64 k ∧ al = .bool ba ∧ so = .bool bs ∧ Hid (ba = totAll n.total ((totals (ts.map Prod.fst) g).take k)) ∧ Hid (bs = totSome n.total ((totals (ts.map Prod.fst) g).take k)) ∧ V.Exts wr) (fun _ _ i _ => (totals (ts.map Prod.fst) g).length - (intOf i).toNat)
  case atStart => exact ⟨0, true, false, Nat.zero_le _, rfl, rfl, rfl, Lib.hid rfl, Lib.hid rfl, exq⟩
  case round =>
    obtain ⟨k, ba, bs, hk, rfl, rfl, rfl, HA, HS2, hE⟩ := hrel
    obtain ⟨X7, rfl⟩ := hE
    by_cases hlt : k < (totals (ts.map Prod.fst) g).length
    · obtain ⟨rfl, hlay⟩ := HPT.out (by omega)
      obtain ⟨x, hx⟩ := some_of_lt hlt
      have hcs := HCT.out k x hx
      have c0 := hcs 0 _ rfl
      have c1 := hcs 1 _ rfl
      simp only [Nat.add_zero] at c0 c1
      have hna := totAll_snoc (o := n.total) hx
      have hns := totSome_snoc (o := n.total) hx
      rw [← HA.out] at hna
      rw [← HS2.out] at hns
      have HNA := Lib.hid hna
      clear hna
      have HNS := Lib.hid hns
      clear hns
      clear hx hcs
      have ca : (ba = false) ∨ (ba = true ∧ x.lo < n.total.lo) ∨ (ba = true ∧ n.total.lo ≤ x.lo ∧ n.total.hi < x.hi) ∨ (ba = true ∧ n.total.lo ≤ x.lo ∧ x.hi ≤ n.total.hi) := by cases ba <;> simp <;> omega
      have cb : (bs = true) ∨ (bs = false ∧ n.total.hi < x.lo) ∨ (bs = false ∧ x.lo ≤ n.total.hi ∧ x.hi < n.total.lo) ∨ (bs = false ∧ x.lo ≤ n.total.hi ∧ n.total.lo ≤ x.hi) := by cases bs <;> simp <;> omega
      rcases ca with rfl | ⟨rfl, h1⟩ | ⟨rfl, h1, h2⟩ | ⟨rfl, h1, h2⟩ <;> rcases cb with rfl | ⟨rfl, h3⟩ | ⟨rfl, h3, h4⟩ | ⟨rfl, h3, h4⟩
      all_goals (try (exfalso; omega))
      all_goals
        as_aux_lemma =>
        go_wp2_with fail
        go_roundw
        case rel => exact ⟨k + 1, _, _, by omega, by go_num, rfl, rfl, Lib.hid (by rw [HNA.out]; simp <;> omega), Lib.hid (by rw [HNS.out]; simp <;> omega), exq⟩
        case measure => simp [intOf]; omega
    · have hkn : k = (totals (ts.map Prod.fst) g).length := by omega
      have hA := HA.out
      have hS := HS2.out
      rw [hkn, List.take_length] at hA hS
      subst hA hS
      clear hkn HA HS2
      go_wp2_with fail
      go_loopw [22, 23, 127] (fun al so i wr => ∃ (k : Nat) (ba bs : Bool), k ≤ (warm g).1.length ∧ i = .int .i64 k ∧ al = .bool ba ∧ so = .bool bs ∧ Hid (ba = coldB n.warm ((warm g).1.take k)) ∧ Hid (bs = coolB n.warm ((warm g).1.take k)) ∧ V.Exts wr) (fun _ _ i _ => (warm g).1.length - (intOf i).toNat)
      case atStart => exact ⟨0, true, true, Nat.zero_le _, rfl, rfl, rfl, Lib.hid rfl, Lib.hid rfl, exq⟩
      case round =>
        obtain ⟨k2, ba, bs, hk2, rfl, rfl, rfl, HA, HS2, hE⟩ := hrel
        obtain ⟨X8, rfl⟩ := hE
        by_cases hlt2 : k2 < (warm g).1.length
        · obtain ⟨rfl, hlay⟩ := HPW.out (by omega)
          obtain ⟨x, hx⟩ := some_of_lt hlt2
          have hcs := HCW.out k2 x hx
          have c0 := hcs 0 _ rfl
          have c1 := hcs 1 _ rfl
          simp only [Nat.add_zero] at c0 c1
          have hna := coldB_snoc (m := n.warm) hx
          have hns := coolB_snoc (m := n.warm) hx
          rw [← HA.out] at hna
          rw [← HS2.out] at hns
          have HNA := Lib.hid hna
          clear hna
          have HNS := Lib.hid hns
          clear hns
          clear hx hcs
          have ca : (ba = false) ∨ (ba = true ∧ n.warm < x.hi) ∨ (ba = true ∧ x.hi ≤ n.warm) := by cases ba <;> simp <;> omega
          have cb : (bs = false) ∨ (bs = true ∧ n.warm < x.lo) ∨ (bs = true ∧ x.lo ≤ n.warm) := by cases bs <;> simp <;> omega
          rcases ca with rfl | ⟨rfl, h1⟩ | ⟨rfl, h1⟩ <;> rcases cb with rfl | ⟨rfl, h2⟩ | ⟨rfl, h2⟩
          all_goals
            as_aux_lemma =>
            go_wp2_with fail
            refine wp_region_ext (by kernel_rfl) (by kernel_rfl) ?_
            repeat (go_big_quiet_step (fail))
            refine wpQuiet_nil ?_
            rintro _ ⟨X, rfl⟩
            go_wp2_with fail
            go_roundw
            case rel => exact ⟨k2 + 1, _, _, by omega, by go_num, rfl, rfl, Lib.hid (by rw [HNA.out]; simp <;> omega), Lib.hid (by rw [HNS.out]; simp <;> omega), exq⟩
            case measure => simp [intOf]; omega
        · have hkn : k2 = (warm g).1.length := by omega
          have hA := HA.out
          have hS := HS2.out
          rw [hkn, List.take_length] at hA hS
          subst hA hS
          clear hkn HA HS2
          have hht : hardTold g n = toldR (decide (n.hard.lo ≤ (hard g).1.lo) && decide ((hard g).1.hi ≤ n.hard.hi)) (decide ((hard g).1.lo ≤ n.hard.hi) && decide (n.hard.lo ≤ (hard g).1.hi)) := rfl
          have HHT := Lib.hid hht
          clear hht
          go_upto_region 30 with (fail)
          go_cut [26] (fun c wx => c = .int .u8 (hardTold g n) ∧ V.Exts wx)
          case first =>
            rcases Int.lt_or_le (hard g).1.lo n.hard.lo with h1 | h1 <;> rcases Int.lt_or_le n.hard.hi (hard g).1.lo with h2 | h2
            all_goals (try (exfalso; omega))
            all_goals
              go_wp2_with (go_at_call 50; refine (l04_told_any _ _ _).mono ?_; rintro e w' ⟨rfl, X9, rfl⟩)
              go_meet
              exact ⟨congrArg (Value.int .u8) (by rw [HHT.out]; congr 1 <;> (rw [Bool.eq_iff_iff]; simp <;> omega)), exq⟩
          case rest =>
          obtain ⟨rfl, hE9⟩ := hcut
          obtain ⟨X9, rfl⟩ := hE9
          go_upto_region 31 with (fail)
          go_cut [27] (fun c wx => (∃ q, c = .slice (some ⟨q, 0, none⟩) 5 5) ∧ Hid (IsRow (fun x : Int => [.int .u8 x]) 1 wx c (wantR (ts.map Prod.fst) g n)) ∧ V.Exts wx)
          case first =>
            rcases Bool.eq_false_or_eq_true g.stamp with hst | hst
            all_goals
              rw [hst] at b17
              have HST := Lib.hid hst
              clear hst
              refine wp_region_ext_tail 25 (by kernel_rfl) (by kernel_rfl) ?_
              simp only [List.take_succ_cons, List.take_zero, List.drop_succ_cons, List.drop_zero]
              repeat (go_big_quiet_step ((go_at_call 50; exact Calls.in_ext (l04_told_any _ _ _))))
              refine wpQuiet_nil ?_
              rintro _ ⟨X, rfl⟩
              go_wp2_with fail
              go_meet
              refine ⟨⟨_, rfl⟩, Lib.hid ?_, exq⟩
              rw [HWANT.out, HST.out]
              simp only [Bool.true_or, Bool.false_or]
              exact row_five _ _ _ _ _ _ _ rfl
          case rest =>
          obtain ⟨⟨q9, rfl⟩, HW9, hE9⟩ := hcut
          obtain ⟨X10, rfl⟩ := hE9
          obtain ⟨q9', b9, o9, c9, e, hm9, hp9, hc9⟩ := HW9.out.ex
          rw [show (wantR (ts.map Prod.fst) g n).length = 5 from rfl] at e
          simp only [Value.slice.injEq] at e
          obtain ⟨rfl, -, rfl⟩ := e
          have hlen5 : (wantR (ts.map Prod.fst) g n).length = 5 := rfl
          obtain ⟨e9, hl9⟩ := hp9 (by rw [hlen5]; omega)
          simp only [Option.some.injEq, Addr.mk.injEq] at e9
          obtain ⟨rfl, rfl, -⟩ := e9
          have HC9 := Lib.hid hc9
          clear hc9
          have H5 := Lib.hid hlen5
          clear hlen5
          clear hm9 hp9
          generalize wantR (ts.map Prod.fst) g n = W5 at *
          go_wp2_with fail
          go_loopw [28, 206] (fun c i wr => ∃ k : Nat, k ≤ 5 ∧ i = .int .i64 k ∧ c = .int .u8 (minOf (W5.take k)) ∧ (World.ext _ X10).Exts wr) (fun _ i _ => 5 - (intOf i).toNat)
          case atStart => exact ⟨0, by omega, rfl, rfl, exq⟩
          case round =>
            obtain ⟨k, hk, rfl, rfl, hE⟩ := hrel
            obtain ⟨X11, rfl⟩ := hE
            by_cases hlt3 : k < 5
            · obtain ⟨x, hx⟩ := some_of_lt (xs := W5) (k := k) (by rw [H5.out]; exact hlt3)
              have c0 := HC9.out k x hx 0 _ rfl
              simp only [Nat.mul_one, Nat.add_zero, Nat.zero_add] at c0
              have hnx : minOf (W5.take (k + 1)) = min (minOf (W5.take k)) x := by rw [take_snoc hx]; unfold minOf; rw [List.foldl_append]; rfl
              generalize minOf (W5.take k) = m at *
              have HNX := Lib.hid hnx
              clear hnx
              clear hx
              go_wp2_with fail
              go_roundw
              case rel => exact ⟨k + 1, by omega, by go_num, by rw [HNX.out], exq⟩
              case measure => simp [intOf]; omega
            · have hkn : k = 5 := by omega
              subst hkn
              rw [show W5.take 5 = W5 from List.take_of_length_le (by rw [H5.out]; omega)]
              go_wp2_with (go_at_call 49; refine (r04_SameBytes_any W5 _ _ _ (HJV.out.mono exq) (HW9.out.mono exq)).mono ?_; rintro e w' ⟨rfl, X12, rfl⟩)
              go_ret
              exact ⟨by simp, (exf hEV)⟩
end Go.Proofs.YtfjkiemjmnnbkaaGreatDoor
