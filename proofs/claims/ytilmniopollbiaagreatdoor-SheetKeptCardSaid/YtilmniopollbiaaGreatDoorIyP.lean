/-
  Several texts in one: see the heads of its parts.
-/
import Derived.Test.YtilmniopollbiaaGreatDoorIuQ
import Derived.Test.YtilmniopollbiaaGreatDoorJdk
import Derived.Test.YtilmniopollbiaaGreatDoorJb
import Derived.Test.YtilmniopollbiaaGreatDoorTm
import Derived.Test.YtilmniopollbiaaGreatDoorTp

/-
  Walks of the reference of sheets: an inspection.
-/
namespace Go.Proofs.YtilmniopollbiaaGreatDoor
open Go.RowKit Kr
set_option linter.unusedSimpArgs false
set_option linter.unusedVariables false

def idxTo (l : List Int) (k : Nat) : List (List Int) := (List.range k).map fun i : Nat => [(i : Int), l.getD i 0]
theorem idxTo_succ {l : List Int} {k : Nat} {x : Int} (h : l[k]? = some x) : idxTo l (k + 1) = idxTo l k ++ [[(k : Int), x]] := by
  unfold idxTo
  rw [List.range_succ, List.map_append, List.map_singleton, getD_of h]
theorem judge_len (b : List Kr.Scale) (g : Gear) (n : Norm) : (judgeR b g n).1.1.length ≤ 5 := by
  unfold judgeR
  split
  · exact Nat.zero_le _
  split
  · exact Nat.zero_le _
  split
  · exact Nat.zero_le _
  split
  · exact Nat.zero_le _
  · exact Nat.le_refl 5
theorem judge_range (b : List Kr.Scale) (g : Gear) (n : Norm) : (∀ x ∈ (judgeR b g n).1.1, 0 ≤ x ∧ x ≤ 2) ∧ 0 ≤ (judgeR b g n).1.2 ∧ (judgeR b g n).1.2 ≤ 2 := by
  obtain ⟨J, hJ⟩ : ∃ J, judgeR b g n = J := ⟨_, rfl⟩
  rw [hJ]
  unfold judgeR at hJ
  split at hJ
  · subst hJ; exact ⟨(fun x hx => (by cases hx)), Int.le_refl 0, (show (0 : Int) ≤ 2 by decide)⟩
  split at hJ
  · subst hJ; exact ⟨(fun x hx => (by cases hx)), Int.le_refl 0, (show (0 : Int) ≤ 2 by decide)⟩
  split at hJ
  · subst hJ; exact ⟨(fun x hx => (by cases hx)), Int.le_refl 0, (show (0 : Int) ≤ 2 by decide)⟩
  split at hJ
  · subst hJ; exact ⟨(fun x hx => (by cases hx)), Int.le_refl 0, (show (0 : Int) ≤ 2 by decide)⟩
  · subst hJ
    have q1 := knownR_range (totals b g) n.total
    have q2 := sureR_range (decide (g.added ≤ n.added))
    have q3 := warmOf_range g n.warm
    have q4 := knownR_range [(hard g).1] n.hard
    have q5 := sureR_range (g.stamp || !n.stamp)
    unfold partsJ
    dsimp only
    generalize knownR (totals b g) n.total = a1 at *
    generalize sureR (decide (g.added ≤ n.added)) = a2 at *
    generalize warmOf g n.warm = a3 at *
    generalize knownR [(hard g).1] n.hard = a4 at *
    generalize sureR (g.stamp || !n.stamp) = a5 at *
    have hm : minOf [a1, a2, a3, a4, a5] = min (min (min (min (min 2 a1) a2) a3) a4) a5 := rfl
    rw [hm]
    refine ⟨fun x hx => ?_, by omega, by omega⟩
    simp at hx
    rcases hx with rfl | rfl | rfl | rfl | rfl <;> assumption
theorem row_twoL (w : World) (a b : Int) (n : Nat) (hn : n = w.heap.size) : IsRow (fun x : Int => [.int .i64 x]) 1 (w.alloc (.cells #[.int .i64 a, .int .i64 b] 3)) (.slice (some ⟨n, 0, none⟩) 2 2) [a, b] := by
  subst hn
  refine ⟨some ⟨w.heap.size, 0, none⟩, w.heap.size, 0, 2, rfl, by simp, fun _ => ⟨rfl, lays_new _ _⟩, fun i x h j u hj => ?_⟩
  rcases j with _ | j <;> simp at hj
  subst hj
  rcases i with _ | _ | i <;> simp at h
  all_goals
    subst h
    rw [World.cell?_alloc_new]
    rfl
/-- What is known of the two slices that are written out in a region. -/
def RowPh (base : Nat) (a b : Int) (c : Nat) (v : Value) (W : World) : Prop :=
  (c = 8 → ∃ pp, v = .slice (some ⟨pp, 0, none⟩) 2 2 ∧ base ≤ pp ∧ pp < W.heap.size ∧ IsRow (fun x : Int => [.int .i64 x]) 1 W v [a, b]) ∧
  (c = 9 → ∃ qq pp, v = .slice (some ⟨qq, 0, none⟩) 1 1 ∧ W.cell? ⟨qq, 0, none⟩ = some (.slice (some ⟨pp, 0, none⟩) 2 2) ∧ base ≤ pp ∧ pp < W.heap.size ∧ IsRow (fun x : Int => [.int .i64 x]) 1 W (.slice (some ⟨pp, 0, none⟩) 2 2) [a, b])
theorem RowPh.mono {base : Nat} {a b : Int} {c : Nat} {v : Value} {W W' : World} (h : RowPh base a b c v W) (hE : W.Exts W') : RowPh base a b c v W' :=
  ⟨fun e => by obtain ⟨pp, h1, h2, h3, h4⟩ := h.1 e; exact ⟨pp, h1, h2, Nat.lt_of_lt_of_le h3 hE.size, h4.mono hE⟩, fun e => by obtain ⟨qq, pp, h1, h2, h3, h4, h5⟩ := h.2 e; exact ⟨qq, pp, h1, hE.cell h2, h3, Nat.lt_of_lt_of_le h4 hE.size, h5.mono hE⟩⟩

set_option maxRecDepth 4000 in
set_option maxHeartbeats 8000000 in
theorem r11_OfJudge_any (ts : List (Kr.Scale × Value)) (v : Value) (g : Gear) (lv rv sv : Value) (n : Norm) (w : World) (hb : BayAt w v ts) (hg : GearAt w (g, lv, rv, sv)) :
    Calls Tryz.prog 16 #[.agg #[v], .agg #[lv, .int .i64 g.added, .int .i64 g.base, .int .i64 g.jitter, rv, sv, .int .i64 g.spread, .bool g.stamp], .agg #[.int .i64 n.total.lo, .int .i64 n.total.hi, .int .i64 n.added, .int .i64 n.warm, .int .i64 n.hard.lo, .int .i64 n.hard.hi, .bool n.stamp]] w (SheetIs w (if (judgeR (ts.map Prod.fst) g n).2 = 0 then 4 else 0) (if (judgeR (ts.map Prod.fst) g n).2 = 0 then idxTo ((judgeR (ts.map Prod.fst) g n).1.1 ++ [(judgeR (ts.map Prod.fst) g n).1.2]) ((judgeR (ts.map Prod.fst) g n).1.1.length + 1) else []) (judgeR (ts.map Prod.fst) g n).2) := by
  have hj := fun (W : World) (hE : w.Exts W) => r04_Judge_any ts v g lv rv sv n W (hb.mono hE) (hg.mono hE)
  have hl5 := judge_len (ts.map Prod.fst) g n
  have hrg := judge_range (ts.map Prod.fst) g n

  generalize judgeR (ts.map Prod.fst) g n = J at hj hl5 hrg ⊢
  obtain ⟨⟨jl, whole⟩, err⟩ := J
  dsimp only at hj hl5 hrg ⊢
  obtain ⟨p, cap, hv⟩ := hb.row.len
  subst hv
  have hl1 := hg.l
  have hl2 := hg.r
  have hl3 := hg.s
  dsimp only at hl1 hl2 hl3
  obtain ⟨p1, cap1, rfl⟩ := hl1.len
  obtain ⟨p2, cap2, rfl⟩ := hl2.len
  obtain ⟨p3, cap3, rfl⟩ := hl3.len
  have HG := Lib.hid hg
  clear hg
  clear hb hl1 hl2 hl3
  have HJ := Lib.hid hj
  clear hj
  by_cases h0 : err = 0
  · subst h0
    rw [if_pos rfl, if_pos rfl]
    go_enter Tryz.func16, Tryz.ntmps16
    go_wp2_with (go_at_call 52; refine (HJ.out _ exq).mono ?_; rintro e w' ⟨vp, rfl, hvp, X1, rfl⟩; obtain ⟨qj, jb, jo, cj, rfl, hjm, hjq, hjc⟩ := hvp.ex; have HJQ := Lib.hid hjq; have HJC := Lib.hid hjc; clear hvp hjq hjc)
    obtain ⟨hrg1, hrg2, hrg3⟩ := hrg
    have HRG := Lib.hid hrg1
    clear hrg1
    have z1 := World.size_ext_le _ X1
    simp at z1
    go_loopw [12] (fun t wr => ∃ (k : Nat) (v : Value) (rs : List (List Int × Value)), k ≤ jl.length ∧ t = .int .i64 k ∧ Hid (rs.map Prod.fst = idxTo (jl ++ [whole]) k) ∧ (World.ext _ X1).Exts wr ∧ Hid (LaysAs wr (World.ext _ X1).heap.size (.cells [.int .u8 4, v].toArray 48 (0, 0))) ∧ Hid (OwnLists wr ((World.ext _ X1).heap.size + 1) v rs)) (fun t _ => jl.length - (intOf t).toNat)
    case atStart => exact ⟨0, .slice none 0 0, [], Nat.zero_le _, rfl, rfl, exq, Lib.hid (laysAs_size _ _ rfl), Lib.hid (OwnLists.none _ _ (by simp))⟩
    case round =>
      obtain ⟨k, v, rs, hk, rfl, HRS, hE, HL, HO⟩ := hrel
      obtain ⟨X3, rfl⟩ := hE
      obtain ⟨qv, cv, hqv⟩ := owns_len HO.out.own
      subst hqv
      have l0 := LaysAs.cell HL.out 0 _ rfl
      have l1 := LaysAs.cell HL.out 1 _ rfl
      have nl := Lays.of_cell l0
      have f1 := laysAs_frz (i := 1) HL.out
      have hrl : rs.length = k := by
        have h1 := congrArg List.length HRS.out
        rwa [List.length_map, idxTo, List.length_map, List.length_range] at h1
      rcases Nat.lt_or_ge k jl.length with hlt | hge
      · obtain ⟨rfl, hlay⟩ := HJQ.out (by omega)
        obtain ⟨x, hx⟩ := some_of_lt hlt
        have p0 := HJC.out k x hx 0 _ rfl
        simp only [Nat.mul_one, Nat.add_zero] at p0
        have hxr := HRG.out x (List.mem_of_getElem? hx)
        have hnx := idxTo_succ (show (jl ++ [whole])[k]? = some x by rw [List.getElem?_append_left hlt]; exact hx)
        have HNX := Lib.hid hnx
        clear hnx
        clear hx
        have HRLEN := Lib.hid hrl
        clear hrl
        go_wp2_with fail
        refine wp_region_calls 10 (fun i => i == 8 || i == 9) (fun c v W => RowPh (World.ext _ X3).heap.size k x c v W) (by kernel_rfl) (fun ν => by kernel_rfl) (by kernel_rfl) (by kernel_rfl) (by kernel_rfl) (by kernel_rfl) ?mono ?_
        rotate_left 1
        apply Exists.intro
        refine ⟨fun ν L hL => ?_, fun c oc hc hU ν W hE hΦ => ?_, fun ν W hE hΦ => ?_⟩
        · simp only [modU, cOp, List.mapIdx_cons, List.mapIdx_nil, Nat.zero_add, Nat.reduceAdd, Nat.reduceBEq, Bool.or_false, Bool.false_or, Bool.or_true, Bool.true_or, Bool.or_self, Bool.false_eq_true, if_false, if_true, List.take_succ_cons, List.take_zero]
          repeat (go_big_quiet_step (fail))
          exact wpQuiet_nil hL
        case mono => exact fun c v W W' h hE => h.mono hE
        · simp at hU
          have hbW : (World.ext _ X3).heap.size ≤ W.heap.size := hE.size
          rcases hU with rfl | rfl
          · simp only [List.getElem?_cons_succ, List.getElem?_cons_zero, Option.some.injEq] at hc
            subst hc
            exact .inr ⟨.slice (some ⟨W.heap.size, 0, none⟩) 2 2, W.alloc (.cells #[.int .i64 k, .int .i64 x] 3), by kernel_rfl, exq, fun _ => ⟨_, rfl, hbW, by simp, row_twoL W _ _ _ rfl⟩, fun e => (by cases e)⟩
          · simp only [List.getElem?_cons_succ, List.getElem?_cons_zero, Option.some.injEq] at hc
            subst hc
            obtain ⟨pp, h1, h2, h3, h4⟩ := (hΦ 8 rfl ⟨⟨8, .data⟩, by simp, rfl, rfl⟩).1 rfl
            generalize ν 8 = v8 at *
            subst h1
            exact .inr ⟨.slice (some ⟨W.heap.size, 0, none⟩) 1 1, W.alloc (.cells #[.slice (some ⟨pp, 0, none⟩) 2 2] 36), by kernel_rfl, exq, fun e => (by cases e), fun _ => ⟨_, pp, rfl, by simp, h2, by simp; omega, h4.mono exq⟩⟩
        · obtain ⟨qq, pp, h1, h2, h3, h4, h5⟩ := (hΦ 9 (by decide) rfl).2 rfl
          simp only [List.drop_succ_cons, List.drop_zero]
          generalize ν 8 = v8
          generalize ν 9 = v9 at h1 ⊢
          subst h1
          clear hΦ
          go_wp2_with (at_builtin; refine wpList_appendG (.tmp 33) (.tmp 41) elem_Slint rfl rfl W (World.Exts.refl W) rfl (ownsRow_exts HO.out.own hE) [.slice (some ⟨pp, 0, none⟩) 2 2] qq rfl ?hc rfl ?h1 ?h2 (by decide) (Nat.le_trans HO.out.base_le hE.size) ?_)
          case hc => (intro j u hj; match j, hj with | 0, hj => (simp at hj; subst hj; exact h2))
          case h1 => intro u hu; simp at hu; subst hu; rfl
          case h2 => (have := HRLEN.out; omega)
          intro v' w' hown' happ
          have hX1W : (World.ext _ X1).Exts W := World.Exts.trans exq hE
          have hE8 := happ.exts (World.ext _ X1) hX1W (by omega)
          have hOL := OwnLists.add (HO.out.exts hE) hown' happ h5 (fun b e => by
            have hb : pp = b := by simpa [Value.ownBlock] using e
            subst hb
            refine ⟨Nat.le_trans HO.out.base_le h3, h4, fun e2 => ?_⟩
            have := (HO.out.own.lt _ e2).2
            omega) happ.size
          have hLS := LaysAs.appended (HL.out.exts hE) happ (fun e => by have := (HO.out.own.lt _ e).1; omega)
          obtain ⟨q', c', hv'⟩ := owns_len hown'
          subst hv'
          clear l0 l1 nl f1
          obtain ⟨X7, rfl⟩ := hE8
          have l1 := LaysAs.cell hLS.1 1 _ rfl
          have nl := Lays.of_cell l1
          have f1 := laysAs_frz (i := 1) hLS.1
          have HOL := Lib.hid hOL
          clear hOL
          have HLS := Lib.hid hLS
          clear hLS
          clear happ hown' h2 h3 h4 h5 hE hX1W
          go_wp2_with fail
          go_roundw
          case rel => exact ⟨k + 1, _, _, by omega, by go_num, Lib.hid (by rw [List.map_append, HRS.out, HNX.out]; rfl), exq, Lib.hid (LaysAs.set (cs := [.int .u8 4, _]) HLS.out.1 (i := 1) _), Lib.hid (HOL.out.put (by dsimp only; omega) _)⟩
          case measure => simp [intOf]; omega
      · have hkn : k = jl.length := by omega
        have hnx := idxTo_succ (show (jl ++ [whole])[k]? = some whole by rw [hkn]; simp)
        have hnl : ¬ k < jl.length := by omega
        rw [hkn] at hnx
        have hrs := HRS.out
        rw [hkn] at hrs
        have hob : ∀ b, (Value.slice qv rs.length cv).ownBlock = some b → b < (World.ext _ X3).heap.size := fun b e => (HO.out.own.lt b e).2
        have hrl2 : rs.length ≤ 1000 := by omega
        have HNX := Lib.hid hnx
        clear hnx
        have HRS2 := Lib.hid hrs
        clear hrs
        have HOB := Lib.hid hob
        clear hob
        clear hkn hrl HRS hge hk
        go_wp2_with (at_builtin; refine wpList_append1W (.tmp 45) (.tmp 51) elem_Slint rfl rfl rfl (ownsRow_exts HO.out.own exq) [.slice (some ⟨_, 0, none⟩) 2 2] _ (by simp) rfl rfl ?i1 ?i2 ?i4 ?i3 ?_)
        case i1 => intro u hu; simp at hu; subst hu; rfl
        case i2 => omega
        try (case i4 => decide)
        case i3 => exact Nat.le_trans HO.out.base_le (World.Exts.size exq)
        intro v' w' hown' happ
        have hE8 := happ.exts (World.ext _ X1) exq (by omega)
        have hrow2 := row_twoL (World.ext _ X3) jl.length whole _ rfl
        have hOL := OwnLists.add (HO.out.exts exq) hown' happ hrow2 (fun b e => by
          have hb : (World.ext _ X3).heap.size = b := by simpa [Value.ownBlock] using e
          subst hb
          refine ⟨HO.out.base_le, by simp, fun e2 => ?_⟩
          have := HOB.out _ e2
          omega) happ.size
        have hLS := LaysAs.appended (HL.out.exts exq) happ (fun e => by have := (HO.out.own.lt _ e).1; omega)
        obtain ⟨q', c', hv'⟩ := owns_len hown'
        subst hv'
        clear l0 l1 nl f1
        obtain ⟨X7, rfl⟩ := hE8
        have l0 := LaysAs.cell hLS.1 0 _ rfl
        have l1 := LaysAs.cell hLS.1 1 _ rfl
        have nl := Lays.of_cell l1
        have f1 := laysAs_frz (i := 1) hLS.1
        have HOL := Lib.hid hOL
        clear hOL
        clear happ hown' hrow2 hLS
        go_wp2_with fail
        refine bodyPost_ret (v := .tuple #[.agg #[.int .u8 4, .slice q' (rs.length + 1) c'], .int .i64 0]) (by simp [results, Tryz.results16, go_sem]) rfl ?_
        exact ⟨_, _, rfl, (((HOL.out.put (by dsimp only; omega) _).put (by dsimp only; omega) _).put (by dsimp only; omega) _).lists, by rw [List.map_append, HRS2.out, HNX.out]; rfl, exq⟩
  · rw [if_neg h0, if_neg h0]
    have e1 : (err != 0) = true := by simpa using h0
    have e2 : decide (err = 0) = false := by simpa using h0
    go_enter Tryz.func16, Tryz.ntmps16
    go_wp2_with (go_at_call 52; refine (HJ.out _ exq).mono ?_; rintro e w' ⟨vp, rfl, hvp, X1, rfl⟩; obtain ⟨qj, cj, rfl⟩ := hvp.len; clear hvp)
    refine bodyPost_ret (v := .tuple #[.agg #[.int .u8 0, .slice none 0 0], .int .i64 err]) (by simp [results, Tryz.results16, go_sem]) rfl ?_
    exact ⟨_, [], rfl, lists_none _, rfl, exq⟩
end Go.Proofs.YtilmniopollbiaaGreatDoor

/-
  Walks of package sheet: an inspection.
-/
namespace Go.Proofs.YtilmniopollbiaaGreatDoor
open Go.RowKit Kr
set_option linter.unusedSimpArgs false
set_option linter.unusedVariables false

theorem judge_some {b : List Kr.Scale} {g : Gear} {n : Norm} (h : (judgeR b g n).2 = 0) : (judgeR b g n).1.1.length = 5 := by
  obtain ⟨J, hJ⟩ : ∃ J, judgeR b g n = J := ⟨_, rfl⟩
  rw [hJ] at h ⊢
  unfold judgeR at hJ
  split at hJ
  · rename_i h1; subst hJ; exact absurd h h1
  split at hJ
  · subst hJ; exact absurd h (by decide)
  split at hJ
  · subst hJ; exact absurd h (by decide)
  split at hJ
  · rename_i h1; subst hJ; exact absurd h h1
  · subst hJ; rfl

set_option maxHeartbeats 1000000 in
theorem clone_nil (b o n c : Nat) (W : World) : (Sem.run Tryz.prog (binOp BinOp.eql 88 (.slice (some ⟨b, o, none⟩) n c) (.slice none 0 0))) W = .ok (.bool false) W := by kernel_rfl
attribute [local go_sem] clone_nil
set_option maxRecDepth 4000 in
theorem Clone_uint8_any (l : List Int) (v : Value) (w : World) (h : IsRow (fun x : Int => [.int .u8 x]) 1 w v l) (h0 : 0 < l.length) (hn : l.length ≤ 1000) :
    Calls Tryz.prog 51 #[v] w fun e w' => ∃ v', e = .returned v' ∧ w'.ownsRow w.heap.size 5 1 v' l.length (l.flatMap fun x => [.int .u8 x]) ∧ w.Exts w' := by
  obtain ⟨q, b, o, cap, rfl, hm, hq, hc⟩ := h.ex
  obtain ⟨rfl, hlay⟩ := hq h0
  have hr := h
  clear h hq hc
  have HR := Lib.hid hr
  clear hr
  go_enter Tryz.func51, Tryz.ntmps51
  go_wp2_with (at_builtin; refine wpList_append_row (.tmp 5) (.tmp 6) elem_u8 rfl rfl rfl (ownsRow_new _ _ _ (by simp)) rfl (HR.out.mono exq) (fun _ _ => rfl) (fun _ _ u hu => by simp at hu; subst hu; rfl) (by omega) (by simp) ?_)
  intro v' w' hown' happ
  obtain ⟨X, rfl⟩ := happ.exts w exq (by simp)
  obtain ⟨q2, c2, e2⟩ := owns_len hown'
  subst e2
  have HO := Lib.hid hown'
  clear hown'
  clear happ
  go_wp2_with fail
  go_ret
  exact ⟨_, rfl, by simpa using HO.out, exq⟩

set_option maxRecDepth 4000 in
set_option maxHeartbeats 8000000 in
theorem sheet_OfJudge_any (ts : List (Kr.Scale × Value)) (v : Value) (g : Gear) (lv rv sv : Value) (n : Norm) (w : World) (hb : BayAt w v ts) (hg : GearAt w (g, lv, rv, sv)) (hcd : CondsAt w) :
    Calls Tryz.prog 15 #[.agg #[v], .agg #[lv, .int .i64 g.added, .int .i64 g.base, .int .i64 g.jitter, rv, sv, .int .i64 g.spread, .bool g.stamp], .agg #[.int .i64 n.total.lo, .int .i64 n.total.hi, .int .i64 n.added, .int .i64 n.warm, .int .i64 n.hard.lo, .int .i64 n.hard.hi, .bool n.stamp]] w (SheetIs w (if (judgeR (ts.map Prod.fst) g n).2 = 0 then 4 else 0) (if (judgeR (ts.map Prod.fst) g n).2 = 0 then idxTo ((judgeR (ts.map Prod.fst) g n).1.1 ++ [(judgeR (ts.map Prod.fst) g n).1.2]) ((judgeR (ts.map Prod.fst) g n).1.1.length + 1) else []) (judgeR (ts.map Prod.fst) g n).2) := by
  have hj := fun (W : World) (hE : w.Exts W) => scale_Judge_any ts v g lv rv sv n W (hb.mono hE) (hg.mono hE) (hcd.mono hE)
  have hl5 := judge_len (ts.map Prod.fst) g n
  have hso := fun h => judge_some (b := ts.map Prod.fst) (g := g) (n := n) h
  have hrg := judge_range (ts.map Prod.fst) g n
  generalize judgeR (ts.map Prod.fst) g n = J at hj hl5 hrg hso ⊢
  obtain ⟨⟨jl, whole⟩, err⟩ := J
  dsimp only at hj hl5 hrg hso ⊢
  obtain ⟨p, cap, hv⟩ := hb.row.len
  subst hv
  have hl1 := hg.l
  have hl2 := hg.r
  have hl3 := hg.s
  dsimp only at hl1 hl2 hl3
  obtain ⟨p1, cap1, rfl⟩ := hl1.len
  obtain ⟨p2, cap2, rfl⟩ := hl2.len
  obtain ⟨p3, cap3, rfl⟩ := hl3.len
  have HG := Lib.hid hg
  clear hg
  clear hb hl1 hl2 hl3 hcd
  have HJ := Lib.hid hj
  clear hj
  by_cases h0 : err = 0
  · subst h0
    have hj5 := hso rfl
    rw [if_pos rfl, if_pos rfl]
    obtain ⟨hrg1, hrg2, hrg3⟩ := hrg
    have hrgL : ∀ x ∈ jl ++ [whole], 0 ≤ x ∧ x ≤ 2 := fun x hx => by
      rcases List.mem_append.1 hx with hx | hx
      · exact hrg1 x hx
      · rw [List.mem_singleton.1 hx]; exact ⟨hrg2, hrg3⟩
    clear hso hrg1
    have HJ5 := Lib.hid hj5
    clear hj5
    have HRG := Lib.hid hrgL
    clear hrgL
    go_enter Tryz.func15, Tryz.ntmps15
    go_wp2_with (first
      | (go_at_call 50; refine (HJ.out _ exq).mono ?_; rintro e w' ⟨vp, rfl, hvp, X1, rfl⟩; obtain ⟨qj, cj, rfl⟩ := hvp.len; have HVP := Lib.hid hvp; clear hvp)
      | (go_at_call 51; refine (Clone_uint8_any jl _ _ (HVP.out.mono exq) (by have := HJ5.out; omega) (by omega)).mono ?_; rintro e w' ⟨vc, rfl, hvc, X2, rfl⟩; obtain ⟨qc, cc, hcv⟩ := owns_len hvc; subst hcv; have HVC := Lib.hid hvc; clear hvc)
      | (at_builtin; refine wpList_append1W (.tmp 28) (.tmp 30) elem_u8 rfl rfl rfl (ownsRow_exts HVC.out exq) [.int .u8 whole] _ (by simp) rfl rfl ?h1 ?h2 ?h4 ?h3 ?_))
    case h1 => intro u hu; simp at hu; subst hu; rfl
    case h2 => omega
    try (case h4 => decide)
    case h3 => exact World.Exts.size exq
    intro v' w' hown' happ
    obtain ⟨X5, rfl⟩ := happ.exts ((World.ext _ X1).alloc (.cells #[.int .u8 4, .slice none 0 0] 48)) exq (by simp)
    have hLr : IsRow (fun x : Int => [.int .u8 x]) 1 (World.ext _ X5) v' (jl ++ [whole]) := IsRow.of_owns (by simpa using hown') (fun _ _ => rfl)
    have hLb : ∀ b, v'.ownBlock = some b → (World.ext _ X1).heap.size + 1 ≤ b ∧ b < (World.ext _ X5).heap.size := fun b e => by
      have h1 := hown'.lt b e
      simpa using h1
    obtain ⟨qL, cL, hqL⟩ := hLr.len
    rw [List.length_append, List.length_singleton] at hqL
    subst hqL
    have z1 := World.size_ext_le _ X1
    simp at z1
    have hb5 : (World.ext _ X1).heap.size + 1 ≤ (World.ext _ X5).heap.size := by
      obtain ⟨_, lb, lo, lc, elr, hlm, hlq, hlc⟩ := hLr.ex
      rw [List.length_append, List.length_singleton] at elr hlq
      obtain ⟨e1, hlay⟩ := hlq (by omega)
      subst e1
      cases elr
      have := hLb lb rfl
      omega
    have HB5 := Lib.hid hb5
    clear hb5
    have HLR := Lib.hid hLr
    clear hLr
    have HLB := Lib.hid hLb
    clear hLb
    clear happ hown' HVC HVP
    go_wp2_with fail
    go_loopw [12, 13, 33] (fun _ _ t wr => ∃ (k : Nat) (v : Value) (rs : List (List Int × Value)), k ≤ jl.length + 1 ∧ t = .int .i64 k ∧ Hid (rs.map Prod.fst = idxTo (jl ++ [whole]) k) ∧ (World.ext _ X1).Exts wr ∧ Hid (LaysAs wr (World.ext _ X1).heap.size (.cells [.int .u8 4, v].toArray 48 (0, 0))) ∧ Hid (OwnLists wr (World.ext _ X5).heap.size v rs) ∧ Hid (IsRow (fun x : Int => [.int .u8 x]) 1 wr (.slice qL (jl.length + 1) cL) (jl ++ [whole]))) (fun _ _ t _ => jl.length + 1 - (intOf t).toNat)
    case atStart => exact ⟨0, .slice none 0 0, [], Nat.zero_le _, rfl, rfl, exq, Lib.hid (LaysAs.exts (laysAs_size (World.ext _ X1) _ rfl) exq), Lib.hid (OwnLists.none _ _ (Nat.le_refl _)), HLR⟩
    case round =>
      clear HLR
      obtain ⟨k, v, rs, hk, rfl, HRS, hE, HL, HO, HLR⟩ := hrel
      obtain ⟨X3, rfl⟩ := hE
      obtain ⟨qv, cv, hqv⟩ := owns_len HO.out.own
      subst hqv
      have l0 := LaysAs.cell HL.out 0 _ rfl
      have l1 := LaysAs.cell HL.out 1 _ rfl
      have nl := Lays.of_cell l0
      have f1 := laysAs_frz (i := 1) HL.out
      have hrl : rs.length = k := by
        have h1 := congrArg List.length HRS.out
        rwa [List.length_map, idxTo, List.length_map, List.length_range] at h1
      rcases Nat.lt_or_ge k (jl.length + 1) with hlt | hge
      · obtain ⟨_, lb, lo, lc, elr, hlm, hlq, hlc⟩ := HLR.out.ex
        rw [List.length_append, List.length_singleton] at elr hlq
        obtain ⟨e1, hlay⟩ := hlq (by omega)
        subst e1
        cases elr
        obtain ⟨x, hx⟩ := some_of_lt (show k < (jl ++ [whole]).length by simp; omega)
        have p0 := hlc k x hx 0 _ rfl
        simp only [Nat.mul_one, Nat.add_zero] at p0
        have hxr := HRG.out x (List.mem_of_getElem? hx)
        have hnx := idxTo_succ hx
        have hob : ∀ b, (Value.slice qv rs.length cv).ownBlock = some b → b < (World.ext _ X3).heap.size := fun b e => (HO.out.own.lt b e).2
        have hrl2 : rs.length ≤ 1000 := by omega
        have hlb := HLB.out lb rfl
        have w1 : (k : Int) < (jl.length : Int) + 1 := by omega
        have HLBB := Lib.hid hlb
        clear hlb
        have HNX := Lib.hid hnx
        clear hnx
        have HOB := Lib.hid hob
        clear hob
        clear hx hlq hlc hrl
        go_wp2_with (at_builtin; refine wpList_append1W (.tmp 39) (.tmp 44) elem_Slint rfl rfl rfl (ownsRow_exts HO.out.own exq) [.slice (some ⟨_, 0, none⟩) 2 2] _ (by simp) rfl rfl ?i1 ?i2 ?i4 ?i3 ?_)
        case i1 => intro u hu; simp at hu; subst hu; rfl
        case i2 => omega
        try (case i4 => decide)
        case i3 => exact Nat.le_trans HO.out.base_le (World.Exts.size exq)
        intro v' w' hown' happ
        have hE8 := happ.exts (World.ext _ X1) exq (by have := HLBB.out; omega)
        have hrow2 := row_twoL (World.ext _ X3) k x _ rfl
        have hOL := OwnLists.add (HO.out.exts exq) hown' happ hrow2 (fun b e => by
          have hb : (World.ext _ X3).heap.size = b := by simpa [Value.ownBlock] using e
          subst hb
          refine ⟨HO.out.base_le, by simp, fun e2 => ?_⟩
          have := HOB.out _ e2
          omega) happ.size
        have hLS := LaysAs.appended (HL.out.exts exq) happ (fun e => by have h1 := (HO.out.own.lt _ e).1; have h2 := HLBB.out; omega)
        have hLR := row_appended (HLR.out.mono exq) happ (fun b e e2 => by have h1 := (HO.out.own.lt _ e2).1; have h2 := (HLB.out b e).2; omega)
        obtain ⟨q', c', hv'⟩ := owns_len hown'
        subst hv'
        clear l0 l1 nl f1
        obtain ⟨X7, rfl⟩ := hE8
        have l1 := LaysAs.cell hLS.1 1 _ rfl
        have nl := Lays.of_cell l1
        have f1 := laysAs_frz (i := 1) hLS.1
        have HOL := Lib.hid hOL
        clear hOL
        have HLS := Lib.hid hLS
        clear hLS
        have HLR2 := Lib.hid hLR
        clear hLR
        clear happ hown' hrow2
        go_wp2_with fail
        go_roundw
        case rel => exact ⟨k + 1, _, _, by omega, by go_num, Lib.hid (by rw [List.map_append, HRS.out, HNX.out]; rfl), exq, Lib.hid (LaysAs.set (cs := [.int .u8 4, _]) HLS.out.1 (i := 1) _), Lib.hid (HOL.out.put (by dsimp only; have := HLBB.out; omega) _), Lib.hid (row_set HLR2.out (fun b e => by have := (HLB.out b e).1; dsimp only; omega) _)⟩
        case measure => simp [intOf]; omega
      · have hkn : k = jl.length + 1 := by omega
        have hnl : ¬ k < jl.length + 1 := by omega
        have hb5 : (World.ext _ X1).heap.size + 1 ≤ (World.ext _ X5).heap.size := HB5.out
        have hrs := HRS.out
        rw [hkn] at hrs
        have HRS2 := Lib.hid hrs
        clear hrs
        clear hkn hrl HRS hge hk
        go_wp2_with fail
        refine bodyPost_ret (v := .tuple #[.agg #[.int .u8 4, .slice qv rs.length cv], .int .i64 0]) (by simp [results, Tryz.results15, go_sem]) rfl ?_
        exact ⟨_, _, rfl, ((HO.out.put (by dsimp only; omega) _).put (by dsimp only; omega) _).lists, HRS2.out, exq⟩
  · rw [if_neg h0, if_neg h0]
    have e1 : (err != 0) = true := by simpa using h0
    have e2 : decide (err = 0) = false := by simpa using h0
    go_enter Tryz.func15, Tryz.ntmps15
    go_wp2_with (go_at_call 50; refine (HJ.out _ exq).mono ?_; rintro e w' ⟨vp, rfl, hvp, X1, rfl⟩; obtain ⟨qj, cj, rfl⟩ := hvp.len; clear hvp)
    refine bodyPost_ret (v := .tuple #[.agg #[.int .u8 0, .slice none 0 0], .int .i64 err]) (by simp [results, Tryz.results15, go_sem]) rfl ?_
    exact ⟨_, [], rfl, lists_none _, rfl, exq⟩
end Go.Proofs.YtilmniopollbiaaGreatDoor

/-
  A row of stores into one box, as one word; rows that lie beside three boxes.
-/
namespace Go
open Go.RowKit
set_option linter.unusedVariables false
/-- Stores into a block, one cell behind the other. -/
def puts (W : World) (p : Nat) : Nat → List Value → World
  | _, [] => W
  | i, v :: l => puts (W.setCell ⟨p, i, none⟩ v) p (i + 1) l
theorem puts_other {p b : Nat} {ob : Obj} (hne : b ≠ p) : ∀ (l : List Value) (i : Nat) {W : World}, LaysAs W b ob → LaysAs (puts W p i l) b ob
  | [], _, _, h => h
  | v :: l, i, W, h => puts_other hne l (i + 1) (by unfold LaysAs at *; rw [World.heap_set_other _ _ _ hne]; exact h)
theorem puts_lays {p : Nat} {t : TypeId} : ∀ (l : List Value) (cs : List Value) (i : Nat) {W : World}, LaysAs W p (.cells cs.toArray t (0, 0)) → i + l.length ≤ cs.length → LaysAs (puts W p i l) p (.cells (cs.take i ++ l ++ cs.drop (i + l.length)).toArray t (0, 0))
  | [], cs, i, W, h, _ => by simpa [puts] using h
  | v :: l, cs, i, W, h, hl => by
    have h1 := puts_lays l (cs.set i v) (i + 1) (LaysAs.set h (i := i) v) (by simp at hl ⊢; omega)
    have h2 : i < cs.length := by simp at hl; omega
    have e1 : (cs.set i v).take (i + 1) = cs.take i ++ [v] := by
      rw [List.take_add_one, List.take_set_of_le (Nat.le_refl _), List.getElem?_set_self h2]
      rfl
    have e2 : (cs.set i v).drop (i + 1 + l.length) = cs.drop (i + (v :: l).length) := by
      rw [List.drop_set_of_lt (by omega), List.length_cons]
      congr 1
      omega
    rw [e1, e2, List.append_assoc, List.append_assoc] at h1
    simpa [puts] using h1
theorem puts_all {p : Nat} {t : TypeId} {l cs : List Value} {W : World} (h : LaysAs W p (.cells cs.toArray t (0, 0))) (hl : l.length = cs.length) : LaysAs (puts W p 0 l) p (.cells l.toArray t (0, 0)) := by
  have h1 := puts_lays l cs 0 h (by omega)
  rw [List.take_zero, List.nil_append, Nat.zero_add, hl, List.drop_length, List.append_nil] at h1
  exact h1
theorem puts_exts {A : World} {p : Nat} (hp : A.heap.size ≤ p) : ∀ (l : List Value) (i : Nat) {W : World}, A.Exts W → A.Exts (puts W p i l)
  | [], _, _, h => h
  | v :: l, i, W, h => puts_exts hp l (i + 1) (h.setCell hp v)
theorem puts_off {α : Type} {enc : α → List Value} {k p : Nat} {G : List Nat} {v : Value} {xs : List α} (hp : p ∈ G) : ∀ (l : List Value) (i : Nat) {W : World}, RowOff enc k W G v xs → RowOff enc k (puts W p i l) G v xs
  | [], _, _, h => h
  | u :: l, i, W, h => puts_off hp l (i + 1) (h.set (a := ⟨p, i, none⟩) hp u)
/-- A row beside boxes of other types. -/
theorem RowT.boxes {α : Type} {enc : α → List Value} {k : Nat} {t : TypeId} {W : World} {v : Value} {xs : List α} {G : List Nat} (hr : IsRow enc k W v xs) (h : RowT t W v) (hG : ∀ g ∈ G, ∃ cs u, LaysAs W g (.cells cs u (0, 0)) ∧ u ≠ t) : RowOff enc k W G v xs :=
  ⟨hr, .inr fun g hg e => by
    obtain ⟨cs, u, h1, h2⟩ := hG g hg
    obtain ⟨ds, fr, h3⟩ := h g e
    unfold LaysAs at h1
    rw [h1] at h3
    simp at h3
    exact h2 h3.2.1⟩
theorem OffT.boxes {α : Type} {enc : α → List Value} {k : Nat} {t : TypeId} {W : World} {v : Value} {xs : List α} {G : List Nat} (hr : IsRow enc k W v xs) (h : OffT t 0 W v xs) (hG : ∀ g ∈ G, ∃ cs u, LaysAs W g (.cells cs u (0, 0)) ∧ u ≠ t) : RowOff enc k W G v xs := by
  rcases h with h | h | h
  · exact ⟨hr, .inl h⟩
  · exact ⟨hr, .inr fun g _ e => by have := h g e; omega⟩
  · exact RowT.boxes hr h hG
theorem puts_cells {p : Nat} {t : TypeId} {l : List Value} {W : World} (h : LaysAs W p (.cells l.toArray t (0, 0))) : ∀ i u, l[i]? = some u → W.cell? ⟨p, i, none⟩ = some u := fun i u hu => LaysAs.cell h i u hu
end Go
