/-
  Several texts in one: see the heads of its parts.
-/

import Derived.Test.YtcickafaomfbmaaGreatDoorZSJesIuQ
import Derived.Test.YtcickafaomfbmaaGreatDoorZSJesJdk
import Derived.Test.YtcickafaomfbmaaGreatDoorZSJesJb
import Derived.Test.YtcickafaomfbmaaGreatDoorZSJesTm
import Derived.Test.YtcickafaomfbmaaGreatDoorZSJesTq
/-
  Walks of the reference of sheets: an inspection.
-/
namespace Go.Proofs.YtcickafaomfbmaaGreatDoor
open Go.RowKit Kr
set_option linter.unusedSimpArgs false
set_option linter.unusedVariables false

def idxTo (l : List Int) (k : Nat) : List (List Int) := (List.range k).map fun i : Nat => [(i : Int), l.getD i 0]
theorem idxTo_succ {l : List Int} {k : Nat} {x : Int} (h : l[k]? = some x) : idxTo l (k + 1) = idxTo l k ++ [[(k : Int), x]] := by
  unfold idxTo
  rw [List.range_succ, List.map_append, List.map_singleton, getD_of h]
theorem judge_len (b : List Kr.Scale) (g : Gear) (n : Norm) : (judgeR b g n).1.1.length ≤ 5 := by
  unfold judgeR
  split
  · exact Nat.zero_le _
  split
  · exact Nat.zero_le _
  split
  · exact Nat.zero_le _
  split
  · exact Nat.zero_le _
  · exact Nat.le_refl 5
theorem judge_range (b : List Kr.Scale) (g : Gear) (n : Norm) : (∀ x ∈ (judgeR b g n).1.1, 0 ≤ x ∧ x ≤ 2) ∧ 0 ≤ (judgeR b g n).1.2 ∧ (judgeR b g n).1.2 ≤ 2 := by
  obtain ⟨J, hJ⟩ : ∃ J, judgeR b g n = J := ⟨_, rfl⟩
  rw [hJ]
  unfold judgeR at hJ
  split at hJ
  · subst hJ; exact ⟨(fun x hx => (by cases hx)), Int.le_refl 0, (show (0 : Int) ≤ 2 by decide)⟩
  split at hJ
  · subst hJ; exact ⟨(fun x hx => (by cases hx)), Int.le_refl 0, (show (0 : Int) ≤ 2 by decide)⟩
  split at hJ
  · subst hJ; exact ⟨(fun x hx => (by cases hx)), Int.le_refl 0, (show (0 : Int) ≤ 2 by decide)⟩
  split at hJ
  · subst hJ; exact ⟨(fun x hx => (by cases hx)), Int.le_refl 0, (show (0 : Int) ≤ 2 by decide)⟩
  · subst hJ
    have q1 := knownR_range (totals b g) n.total
    have q2 := sureR_range (decide (g.added ≤ n.added))
    have q3 := warmOf_range g n.warm
    have q4 := knownR_range [(hard g).1] n.hard
    have q5 := sureR_range (g.stamp || !n.stamp)
    unfold partsJ
    dsimp only
    generalize knownR (totals b g) n.total = a1 at *
    generalize sureR (decide (g.added ≤ n.added)) = a2 at *
    generalize warmOf g n.warm = a3 at *
    generalize knownR [(hard g).1] n.hard = a4 at *
    generalize sureR (g.stamp || !n.stamp) = a5 at *
    have hm : minOf [a1, a2, a3, a4, a5] = min (min (min (min (min 2 a1) a2) a3) a4) a5 := rfl
    rw [hm]
    refine ⟨fun x hx => ?_, by omega, by omega⟩
    simp at hx
    rcases hx with rfl | rfl | rfl | rfl | rfl <;> assumption
theorem row_twoL (w : World) (a b : Int) (n : Nat) (hn : n = w.heap.size) : IsRow (fun x : Int => [.int .i64 x]) 1 (w.alloc (.cells #[.int .i64 a, .int .i64 b] 3)) (.slice (some ⟨n, 0, none⟩) 2 2) [a, b] := by
  subst hn
  refine ⟨some ⟨w.heap.size, 0, none⟩, w.heap.size, 0, 2, rfl, by simp, fun _ => ⟨rfl, lays_new _ _⟩, fun i x h j u hj => ?_⟩
  rcases j with _ | j <;> simp at hj
  subst hj
  rcases i with _ | _ | i <;> simp at h
  all_goals
    subst h
    rw [World.cell?_alloc_new]
    rfl
end Go.Proofs.YtcickafaomfbmaaGreatDoor

/-
  Walks of package sheet: an inspection.
-/
namespace Go.Proofs.YtcickafaomfbmaaGreatDoor
open Go.RowKit Kr
set_option linter.unusedSimpArgs false
set_option linter.unusedVariables false

theorem judge_some {b : List Kr.Scale} {g : Gear} {n : Norm} (h : (judgeR b g n).2 = 0) : (judgeR b g n).1.1.length = 5 := by
  obtain ⟨J, hJ⟩ : ∃ J, judgeR b g n = J := ⟨_, rfl⟩
  rw [hJ] at h ⊢
  unfold judgeR at hJ
  split at hJ
  · rename_i h1; subst hJ; exact absurd h h1
  split at hJ
  · subst hJ; exact absurd h (by decide)
  split at hJ
  · subst hJ; exact absurd h (by decide)
  split at hJ
  · rename_i h1; subst hJ; exact absurd h h1
  · subst hJ; rfl

set_option maxHeartbeats 1000000 in
theorem clone_nil (b o n c : Nat) (W : World) : (Sem.run Tryz.prog (binOp BinOp.eql 59 (.slice (some ⟨b, o, none⟩) n c) (.slice none 0 0))) W = .ok (.bool false) W := by kernel_rfl
attribute [local go_sem] clone_nil
set_option maxRecDepth 4000 in
theorem Clone_uint8_any (l : List Int) (v : Value) (w : World) (h : IsRow (fun x : Int => [.int .u8 x]) 1 w v l) (h0 : 0 < l.length) (hn : l.length ≤ 1000) :
    Calls Tryz.prog 45 #[v] w fun e w' => ∃ v', e = .returned v' ∧ w'.ownsRow w.heap.size 5 1 v' l.length (l.flatMap fun x => [.int .u8 x]) ∧ w.Exts w' := by
  obtain ⟨q, b, o, cap, rfl, hm, hq, hc⟩ := h.ex
  obtain ⟨rfl, hlay⟩ := hq h0
  have hr := h
  clear h hq hc
  have HR := Lib.hid hr
  clear hr
  go_enter Tryz.func45, Tryz.ntmps45
  go_wp2_with (at_builtin; refine wpList_append_row (.tmp 5) (.tmp 6) elem_u8 rfl rfl rfl (ownsRow_new _ _ _ (by simp)) rfl (HR.out.mono exq) (fun _ _ => rfl) (fun _ _ u hu => by simp at hu; subst hu; rfl) (by omega) (by simp) ?_)
  intro v' w' hown' happ
  obtain ⟨X, rfl⟩ := happ.exts w exq (by simp)
  obtain ⟨q2, c2, e2⟩ := owns_len hown'
  subst e2
  have HO := Lib.hid hown'
  clear hown'
  clear happ
  go_wp2_with fail
  go_ret
  exact ⟨_, rfl, by simpa using HO.out, exq⟩

set_option maxRecDepth 4000 in
set_option maxHeartbeats 8000000 in
theorem sheet_OfJudge_any (ts : List (Kr.Scale × Value)) (v : Value) (g : Gear) (lv rv sv : Value) (n : Norm) (w : World) (hb : BayAt w v ts) (hg : GearAt w (g, lv, rv, sv)) (hcd : CondsAt w) :
    Calls Tryz.prog 18 #[.agg #[v], .agg #[lv, .int .i64 g.added, .int .i64 g.base, .int .i64 g.jitter, rv, sv, .int .i64 g.spread, .bool g.stamp], .agg #[.int .i64 n.total.lo, .int .i64 n.total.hi, .int .i64 n.added, .int .i64 n.warm, .int .i64 n.hard.lo, .int .i64 n.hard.hi, .bool n.stamp]] w (SheetIs w (if (judgeR (ts.map Prod.fst) g n).2 = 0 then 4 else 0) (if (judgeR (ts.map Prod.fst) g n).2 = 0 then idxTo ((judgeR (ts.map Prod.fst) g n).1.1 ++ [(judgeR (ts.map Prod.fst) g n).1.2]) ((judgeR (ts.map Prod.fst) g n).1.1.length + 1) else []) (judgeR (ts.map Prod.fst) g n).2) := by
  have hj := fun (W : World) (hE : w.Exts W) => scale_Judge_any ts v g lv rv sv n W (hb.mono hE) (hg.mono hE) (hcd.mono hE)
  have hl5 := judge_len (ts.map Prod.fst) g n
  have hso := fun h => judge_some (b := ts.map Prod.fst) (g := g) (n := n) h
  have hrg := judge_range (ts.map Prod.fst) g n
  generalize judgeR (ts.map Prod.fst) g n = J at hj hl5 hrg hso ⊢
  obtain ⟨⟨jl, whole⟩, err⟩ := J
  dsimp only at hj hl5 hrg hso ⊢
  obtain ⟨p, cap, hv⟩ := hb.row.len
  subst hv
  have hl1 := hg.l
  have hl2 := hg.r
  have hl3 := hg.s
  dsimp only at hl1 hl2 hl3
  obtain ⟨p1, cap1, rfl⟩ := hl1.len
  obtain ⟨p2, cap2, rfl⟩ := hl2.len
  obtain ⟨p3, cap3, rfl⟩ := hl3.len
  have HG := Lib.hid hg
  clear hg
  clear hb hl1 hl2 hl3 hcd
  have HJ := Lib.hid hj
  clear hj
  by_cases h0 : err = 0
  · subst h0
    have hj5 := hso rfl
    rw [if_pos rfl, if_pos rfl]
    obtain ⟨hrg1, hrg2, hrg3⟩ := hrg
    have hrgL : ∀ x ∈ jl ++ [whole], 0 ≤ x ∧ x ≤ 2 := fun x hx => by
      rcases List.mem_append.1 hx with hx | hx
      · exact hrg1 x hx
      · rw [List.mem_singleton.1 hx]; exact ⟨hrg2, hrg3⟩
    clear hso hrg1
    have HJ5 := Lib.hid hj5
    clear hj5
    have HRG := Lib.hid hrgL
    clear hrgL
    go_enter Tryz.func18, Tryz.ntmps18
    go_wp2_with (first
      | (go_at_call 17; refine (HJ.out _ exq).mono ?_; rintro e w' ⟨vp, rfl, hvp, X1, rfl⟩; obtain ⟨qj, cj, rfl⟩ := hvp.len; have HVP := Lib.hid hvp; clear hvp)
      | (go_at_call 45; refine (Clone_uint8_any jl _ _ (HVP.out.mono exq) (by have := HJ5.out; omega) (by omega)).mono ?_; rintro e w' ⟨vc, rfl, hvc, X2, rfl⟩; obtain ⟨qc, cc, hcv⟩ := owns_len hvc; subst hcv; have HVC := Lib.hid hvc; clear hvc)
      | (at_builtin; refine wpList_append1W (.tmp 28) (.tmp 30) elem_u8 rfl rfl rfl (ownsRow_exts HVC.out exq) [.int .u8 whole] _ (by simp) rfl rfl ?h1 ?h2 ?h4 ?h3 ?_))
    case h1 => intro u hu; simp at hu; subst hu; rfl
    case h2 => omega
    try (case h4 => decide)
    case h3 => exact World.Exts.size exq
    intro v' w' hown' happ
    obtain ⟨X5, rfl⟩ := happ.exts ((World.ext _ X1).alloc (.cells #[.int .u8 4, .slice none 0 0] 36)) exq (by simp)
    have hLr : IsRow (fun x : Int => [.int .u8 x]) 1 (World.ext _ X5) v' (jl ++ [whole]) := IsRow.of_owns (by simpa using hown') (fun _ _ => rfl)
    have hLb : ∀ b, v'.ownBlock = some b → (World.ext _ X1).heap.size + 1 ≤ b ∧ b < (World.ext _ X5).heap.size := fun b e => by
      have h1 := hown'.lt b e
      simpa using h1
    obtain ⟨qL, cL, hqL⟩ := hLr.len
    rw [List.length_append, List.length_singleton] at hqL
    subst hqL
    have z1 := World.size_ext_le _ X1
    simp at z1
    have hb5 : (World.ext _ X1).heap.size + 1 ≤ (World.ext _ X5).heap.size := by
      obtain ⟨_, lb, lo, lc, elr, hlm, hlq, hlc⟩ := hLr.ex
      rw [List.length_append, List.length_singleton] at elr hlq
      obtain ⟨e1, hlay⟩ := hlq (by omega)
      subst e1
      cases elr
      have := hLb lb rfl
      omega
    have HB5 := Lib.hid hb5
    clear hb5
    have HLR := Lib.hid hLr
    clear hLr
    have HLB := Lib.hid hLb
    clear hLb
    clear happ hown' HVC HVP
    go_wp2_with fail
    go_loopw [12, 13, 33] (fun _ _ t wr => ∃ (k : Nat) (v : Value) (rs : List (List Int × Value)), k ≤ jl.length + 1 ∧ t = .int .i64 k ∧ Hid (rs.map Prod.fst = idxTo (jl ++ [whole]) k) ∧ (World.ext _ X1).Exts wr ∧ Hid (LaysAs wr (World.ext _ X1).heap.size (.cells [.int .u8 4, v].toArray 36 (0, 0))) ∧ Hid (OwnLists wr (World.ext _ X5).heap.size v rs) ∧ Hid (IsRow (fun x : Int => [.int .u8 x]) 1 wr (.slice qL (jl.length + 1) cL) (jl ++ [whole]))) (fun _ _ t _ => jl.length + 1 - (intOf t).toNat)
    case atStart => exact ⟨0, .slice none 0 0, [], Nat.zero_le _, rfl, rfl, exq, Lib.hid (LaysAs.exts (laysAs_size (World.ext _ X1) _ rfl) exq), Lib.hid (OwnLists.none _ _ (Nat.le_refl _)), HLR⟩
    case round =>
      clear HLR
      obtain ⟨k, v, rs, hk, rfl, HRS, hE, HL, HO, HLR⟩ := hrel
      obtain ⟨X3, rfl⟩ := hE
      obtain ⟨qv, cv, hqv⟩ := owns_len HO.out.own
      subst hqv
      have l0 := LaysAs.cell HL.out 0 _ rfl
      have l1 := LaysAs.cell HL.out 1 _ rfl
      have nl := Lays.of_cell l0
      have f1 := laysAs_frz (i := 1) HL.out
      have hrl : rs.length = k := by
        have h1 := congrArg List.length HRS.out
        rwa [List.length_map, idxTo, List.length_map, List.length_range] at h1
      rcases Nat.lt_or_ge k (jl.length + 1) with hlt | hge
      · obtain ⟨_, lb, lo, lc, elr, hlm, hlq, hlc⟩ := HLR.out.ex
        rw [List.length_append, List.length_singleton] at elr hlq
        obtain ⟨e1, hlay⟩ := hlq (by omega)
        subst e1
        cases elr
        obtain ⟨x, hx⟩ := some_of_lt (show k < (jl ++ [whole]).length by simp; omega)
        have p0 := hlc k x hx 0 _ rfl
        simp only [Nat.mul_one, Nat.add_zero] at p0
        have hxr := HRG.out x (List.mem_of_getElem? hx)
        have hnx := idxTo_succ hx
        have hob : ∀ b, (Value.slice qv rs.length cv).ownBlock = some b → b < (World.ext _ X3).heap.size := fun b e => (HO.out.own.lt b e).2
        have hrl2 : rs.length ≤ 1000 := by omega
        have hlb := HLB.out lb rfl
        have w1 : (k : Int) < (jl.length : Int) + 1 := by omega
        have HLBB := Lib.hid hlb
        clear hlb
        have HNX := Lib.hid hnx
        clear hnx
        have HOB := Lib.hid hob
        clear hob
        clear hx hlq hlc hrl
        go_wp2_with (at_builtin; refine wpList_append1W (.tmp 39) (.tmp 44) elem_Slint rfl rfl rfl (ownsRow_exts HO.out.own exq) [.slice (some ⟨_, 0, none⟩) 2 2] _ (by simp) rfl rfl ?i1 ?i2 ?i4 ?i3 ?_)
        case i1 => intro u hu; simp at hu; subst hu; rfl
        case i2 => omega
        try (case i4 => decide)
        case i3 => exact Nat.le_trans HO.out.base_le (World.Exts.size exq)
        intro v' w' hown' happ
        have hE8 := happ.exts (World.ext _ X1) exq (by have := HLBB.out; omega)
        have hrow2 := row_twoL (World.ext _ X3) k x _ rfl
        have hOL := OwnLists.add (HO.out.exts exq) hown' happ hrow2 (fun b e => by
          have hb : (World.ext _ X3).heap.size = b := by simpa [Value.ownBlock] using e
          subst hb
          refine ⟨HO.out.base_le, by simp, fun e2 => ?_⟩
          have := HOB.out _ e2
          omega) happ.size
        have hLS := LaysAs.appended (HL.out.exts exq) happ (fun e => by have h1 := (HO.out.own.lt _ e).1; have h2 := HLBB.out; omega)
        have hLR := row_appended (HLR.out.mono exq) happ (fun b e e2 => by have h1 := (HO.out.own.lt _ e2).1; have h2 := (HLB.out b e).2; omega)
        obtain ⟨q', c', hv'⟩ := owns_len hown'
        subst hv'
        clear l0 l1 nl f1
        obtain ⟨X7, rfl⟩ := hE8
        have l1 := LaysAs.cell hLS.1 1 _ rfl
        have nl := Lays.of_cell l1
        have f1 := laysAs_frz (i := 1) hLS.1
        have HOL := Lib.hid hOL
        clear hOL
        have HLS := Lib.hid hLS
        clear hLS
        have HLR2 := Lib.hid hLR
        clear hLR
        clear happ hown' hrow2
        go_wp2_with fail
        go_roundw
        case rel => exact ⟨k + 1, _, _, by omega, by go_num, Lib.hid (by rw [List.map_append, HRS.out, HNX.out]; rfl), exq, Lib.hid (LaysAs.set (cs := [.int .u8 4, _]) HLS.out.1 (i := 1) _), Lib.hid (HOL.out.put (by dsimp only; have := HLBB.out; omega) _), Lib.hid (row_set HLR2.out (fun b e => by have := (HLB.out b e).1; dsimp only; omega) _)⟩
        case measure => simp [intOf]; omega
      · have hkn : k = jl.length + 1 := by omega
        have hnl : ¬ k < jl.length + 1 := by omega
        have hb5 : (World.ext _ X1).heap.size + 1 ≤ (World.ext _ X5).heap.size := HB5.out
        have hrs := HRS.out
        rw [hkn] at hrs
        have HRS2 := Lib.hid hrs
        clear hrs
        clear hkn hrl HRS hge hk
        go_wp2_with fail
        refine bodyPost_ret (v := .tuple #[.agg #[.int .u8 4, .slice qv rs.length cv], .int .i64 0]) (by simp [results, Tryz.results18, go_sem]) rfl ?_
        exact ⟨_, _, rfl, ((HO.out.put (by dsimp only; omega) _).put (by dsimp only; omega) _).lists, HRS2.out, exq⟩
  · rw [if_neg h0, if_neg h0]
    have e1 : (err != 0) = true := by simpa using h0
    have e2 : decide (err = 0) = false := by simpa using h0
    go_enter Tryz.func18, Tryz.ntmps18
    go_wp2_with (go_at_call 17; refine (HJ.out _ exq).mono ?_; rintro e w' ⟨vp, rfl, hvp, X1, rfl⟩; obtain ⟨qj, cj, rfl⟩ := hvp.len; clear hvp)
    refine bodyPost_ret (v := .tuple #[.agg #[.int .u8 0, .slice none 0 0], .int .i64 err]) (by simp [results, Tryz.results18, go_sem]) rfl ?_
    exact ⟨_, [], rfl, lists_none _, rfl, exq⟩
end Go.Proofs.YtcickafaomfbmaaGreatDoor

/-
  A row of stores into one box, as one word; rows that lie beside three boxes.
-/
namespace Go
open Go.RowKit
set_option linter.unusedVariables false
end Go
