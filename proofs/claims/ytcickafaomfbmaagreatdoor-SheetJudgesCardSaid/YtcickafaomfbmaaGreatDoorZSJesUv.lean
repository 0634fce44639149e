/-
  The law SheetJudges: its walk.
-/
import Derived.Test.YtcickafaomfbmaaGreatDoorZSJesIyP
import Derived.Test.YtcickafaomfbmaaGreatDoorZSJesWtB
import Derived.Test.YtcickafaomfbmaaGreatDoorZSJesUt
import Derived.Test.YtcickafaomfbmaaGreatDoorZSJesRy
import Derived.Test.YtcickafaomfbmaaGreatDoorZSJesUx
namespace Go.Proofs.YtcickafaomfbmaaGreatDoor
open Go.RowKit Kr
set_option linter.unusedSimpArgs false
set_option linter.unusedVariables false

theorem judge_least {b : List Kr.Scale} {g : Gear} {n : Norm} (h : (judgeR b g n).2 = 0) : (judgeR b g n).1.2 = minOf (judgeR b g n).1.1 := by
  obtain ⟨J, hJ⟩ : ∃ J, judgeR b g n = J := ⟨_, rfl⟩
  rw [hJ] at h ⊢
  unfold judgeR at hJ
  split at hJ
  · rename_i h1; subst hJ; exact absurd h h1
  split at hJ
  · subst hJ; exact absurd h (by decide)
  split at hJ
  · subst hJ; exact absurd h (by decide)
  split at hJ
  · rename_i h1; subst hJ; exact absurd h h1
  · subst hJ; rfl
theorem minOf_take {l : List Int} {k : Nat} {x : Int} (h : l[k]? = some x) : minOf (l.take (k + 1)) = min (minOf (l.take k)) x := by
  unfold minOf
  rw [take_snoc h, List.foldl_append]
  rfl
theorem minOf_range {l : List Int} (h : ∀ x ∈ l, 0 ≤ x ∧ x ≤ 2) : 0 ≤ minOf l ∧ minOf l ≤ 2 := by
  have key : ∀ (l : List Int) (a : Int), 0 ≤ a → a ≤ 2 → (∀ x ∈ l, 0 ≤ x ∧ x ≤ 2) → 0 ≤ l.foldl min a ∧ l.foldl min a ≤ 2 := by
    intro l
    induction l with
    | nil => intro a h0 h1 _; exact ⟨h0, h1⟩
    | cons x l ih => intro a h0 h1 hx; have := hx x (List.mem_cons_self ..); exact ih (min a x) (by omega) (by omega) fun y hy => hx y (List.mem_cons_of_mem _ hy)
  exact key l 2 (by omega) (by omega) h
theorem idx_get (l : List Int) {n k : Nat} (h : k < n) : (idxTo l n)[k]? = some [(k : Int), l.getD k 0] := by
  unfold idxTo
  rw [List.getElem?_map, List.getElem?_range h]; rfl

set_option maxRecDepth 4000 in
set_option maxHeartbeats 16000000 in
theorem l11_SheetJudges_any (ts : List (Kr.Scale × Value)) (v : Value) (g : Gear) (lv rv sv : Value) (n : Norm) (w : World) (hb : BayAt w v ts)
    (hl : IsRow (fun t : Kr.Load => [.int .i64 t.scale, .int .i64 t.shown]) 2 w lv g.loads) (hr : IsRow (fun x : Int => [.int .i64 x]) 1 w rv g.runners) (hs : IsRow (fun x : Int => [.int .i64 x]) 1 w sv g.strokes) (hwf : ∀ l ∈ g.loads, (Lit.int .i64 l.scale).wf = true) (hw : LibAt w) (hcd : CondsAt w) :
    Calls Tryz.prog 4 #[.agg #[v], .agg #[lv, .int .i64 g.added, .int .i64 g.base, .int .i64 g.jitter, rv, sv, .int .i64 g.spread, .bool g.stamp], .agg #[.int .i64 n.total.lo, .int .i64 n.total.hi, .int .i64 n.added, .int .i64 n.warm, .int .i64 n.hard.lo, .int .i64 n.hard.hi, .bool n.stamp]] w fun e w' => e = .returned (.bool true) ∧ w.Exts w' := by
  have hal := fun (W : World) (hE : w.Exts W) => l11_alive_any W (hw.mono hE)
  have hgr := fun (W : World) (hE : w.Exts W) => r04_Great_any ts v g lv rv sv W (hb.mono hE) (hl.mono hE) (hr.mono hE) (hs.mono hE)
  obtain ⟨p, cap, hv⟩ := hb.row.len
  obtain ⟨q1, cp1, e1⟩ := hl.len
  obtain ⟨q2, cp2, e2⟩ := hr.len
  obtain ⟨q3, cp3, e3⟩ := hs.len
  subst hv e1 e2 e3
  have HAL := Lib.hid hal
  clear hal
  cases hg : great ts g
  case true =>
    rw [hg] at hgr
    have HGR := Lib.hid hgr
    clear hgr
    clear hb hl hr hs hwf hw hcd hg
    go_enter Tryz.func4, Tryz.ntmps4
    go_wp2_with (first
      | (go_at_call 5; refine (HAL.out _ exq).mono ?_; rintro e w' ⟨rfl, X1, rfl⟩)
      | (go_at_call 16; refine (HGR.out _ exq).mono ?_; rintro e w' ⟨rfl, X2, rfl⟩))
    go_ret
    exact ⟨rfl, exq⟩
  rw [hg] at hgr
  have hgear : GearAt w (g, .slice q1 g.loads.length cp1, .slice q2 g.runners.length cp2, .slice q3 g.strokes.length cp3) :=
    ⟨hl, hr, hs, by have := great_not hg; dsimp only; omega, hwf⟩
  have hju := fun (W : World) (hE : w.Exts W) => scale_Judge_any ts _ g _ _ _ n W (hb.mono hE) (hgear.mono hE) (hcd.mono hE)
  have hof := fun (W : World) (hE : w.Exts W) => sheet_OfJudge_any ts _ g _ _ _ n W (hb.mono hE) (hgear.mono hE) (hcd.mono hE)
  have hl5 := judge_some (b := ts.map Prod.fst) (g := g) (n := n)
  have hrg := judge_range (ts.map Prod.fst) g n
  have hle := judge_least (b := ts.map Prod.fst) (g := g) (n := n)
  obtain ⟨J, hJ⟩ : ∃ J, judgeR (ts.map Prod.fst) g n = J := ⟨_, rfl⟩
  rw [hJ] at hju hof hl5 hrg hle
  clear hJ
  obtain ⟨⟨jl, whole⟩, err⟩ := J
  dsimp only at hju hof hl5 hrg hle
  have HGR := Lib.hid hgr
  clear hgr
  have HJU := Lib.hid hju
  clear hju
  clear hb hl hr hs hwf hcd hg hgear
  by_cases h0 : err = 0
  rotate_left
  · rw [if_neg h0, if_neg h0] at hof
    have z1 : (err != 0) = true := by simpa using h0
    have z2 : (err == 0) = false := by simpa using h0
    have hof2 : ∀ W : World, w.Exts W → Calls Tryz.prog 18 #[.agg #[.slice p ts.length cap], .agg #[(.slice q1 g.loads.length cp1), .int .i64 g.added, .int .i64 g.base, .int .i64 g.jitter, (.slice q2 g.runners.length cp2), (.slice q3 g.strokes.length cp3), .int .i64 g.spread, .bool g.stamp], .agg #[.int .i64 n.total.lo, .int .i64 n.total.hi, .int .i64 n.added, .int .i64 n.warm, .int .i64 n.hard.lo, .int .i64 n.hard.hi, .bool n.stamp]] W fun e w' => ∃ q c, e = .returned (.tuple #[.agg #[.int .u8 0, .slice q 0 c], .int .i64 err]) ∧ W.Exts w' := fun W hE => (hof W hE).mono fun e w' h => by
      obtain ⟨v', ps, rfl, h1, h2, hE2⟩ := h
      obtain rfl : ps = [] := List.map_eq_nil_iff.1 h2
      obtain ⟨q, c, rfl⟩ := h1.row.len
      exact ⟨q, c, rfl, hE2⟩
    have HOF := Lib.hid hof2
    clear hof2
    clear hof hl5 hrg hle hw h0
    go_enter Tryz.func4, Tryz.ntmps4
    go_wp2_with (first
      | (go_at_call 5; refine (HAL.out _ exq).mono ?_; rintro e w' ⟨rfl, X1, rfl⟩)
      | (go_at_call 16; refine (HGR.out _ exq).mono ?_; rintro e w' ⟨rfl, X2, rfl⟩)
      | (go_at_call 17; refine (HJU.out _ exq).mono ?_; rintro e w' ⟨vp, rfl, hvp, X3, rfl⟩; obtain ⟨qj, cj, rfl⟩ := hvp.len; clear hvp)
      | (go_at_call 18; refine (HOF.out _ exq).mono ?_; rintro e w' ⟨qo, co, rfl, X4, rfl⟩))
    go_ret
    exact ⟨rfl, exq⟩
  subst h0
  rw [if_pos rfl, if_pos rfl] at hof
  have hj5 := hl5 rfl
  have hlst := hle rfl
  obtain ⟨hrg1, hrg2, hrg3⟩ := hrg
  have hsb : sheetB 4 (idxTo (jl ++ [whole]) (jl.length + 1)) = true := by
    have h := judge_valid hj5 hrg1 hlst
    rw [hj5]
    unfold idxTo
    exact h
  have hshort : (textFrom 1 (linesOf 4 (idxTo (jl ++ [whole]) (jl.length + 1)))).length ≤ 1500 := by
    refine two_short (fun x hx => ?_) (by unfold idxTo; rw [List.length_map, List.length_range]; omega)
    unfold idxTo at hx
    obtain ⟨i, hi, rfl⟩ := List.mem_map.1 hx
    have hi2 := List.mem_range.1 hi
    refine ⟨rfl, fun z hz => ?_⟩
    have hgd : 0 ≤ (jl ++ [whole]).getD i 0 ∧ (jl ++ [whole]).getD i 0 ≤ 2 := by
      obtain ⟨x, hx⟩ := some_of_lt (xs := jl ++ [whole]) (k := i) (by simpa using hi2)
      rw [getD_of hx]
      rcases List.mem_append.1 (List.mem_of_getElem? hx) with h | h
      · exact hrg1 x h
      · rw [List.mem_singleton.1 h]; exact ⟨hrg2, hrg3⟩
    simp at hz
    rcases hz with rfl | rfl
    · omega
    · simp at hgd; omega
  obtain ⟨rows, hrows⟩ : ∃ r, idxTo (jl ++ [whole]) (jl.length + 1) = r := ⟨_, rfl⟩
  rw [hrows] at hof hsb hshort
  have hrl : rows.length = 6 := by rw [← hrows]; unfold idxTo; rw [List.length_map, List.length_range]; omega
  have hback := write_read hsb hshort
  obtain ⟨T, hT⟩ : ∃ t, textFrom 1 (linesOf 4 rows) = t := ⟨_, rfl⟩
  rw [hT] at hshort
  have hwR : writeR 4 rows = (T, 0) := by unfold writeR; rw [hsb, hT, if_pos rfl, if_neg (by omega)]
  rw [hT] at hback
  have hwr : ∀ (ps : List (List Int × Value)) (v' : Value) (W : World), ListsAt W v' ps → ps.map Prod.fst = rows → w.Exts W → Calls Tryz.prog 10 #[.agg #[.int .u8 4, v']] W fun e w' => e = .returned (.tuple #[.string (bytesT T), .int .i64 0]) ∧ W.Exts w' := fun ps v' W hL hm hE => by
    have hl9 : ps.length ≤ 900 := by rw [← List.length_map (f := Prod.fst), hm]; omega
    have h1 := sheet_Write_any ice_fn 4 ps v' W hL hl9 (by decide) (hw.mono hE)
    rw [hm, hwR] at h1
    exact h1.mono fun e w' h2 => h2.det
  have hrd : ∀ W : World, w.Exts W → Calls Tryz.prog 11 #[.string (bytesT T)] W fun e w' => ∃ q c zs, e = .returned (.tuple #[.agg #[.int .u8 4, .slice q zs.length c], .int .i64 0, .int .i64 0]) ∧ ListsAt w' (.slice q zs.length c) zs ∧ zs.map Prod.fst = rows ∧ W.Exts w' := fun W hE => by
    have h1 := sheet_Read_any ice_fn (bytesT T) W (hw.mono hE)
    rw [show (bytesT T).data.toList = T from rfl, hback.1] at h1
    exact h1.mono fun e w' h2 => h2.det
  have hget : ∀ (k : Nat) (x : Int), jl[k]? = some x → rows[k]? = some [(k : Int), x] := fun k x hx => by
    have hk := (List.getElem?_eq_some_iff.1 hx).1
    rw [← hrows, idx_get _ (show k < jl.length + 1 by omega), getD_of (show (jl ++ [whole])[k]? = some x by rw [List.getElem?_append_left hk]; exact hx)]
  have hlast : rows[5]? = some [(5 : Int), whole] := by
    rw [← hrows, idx_get _ (show 5 < jl.length + 1 by omega), getD_of (show (jl ++ [whole])[5]? = some whole by rw [List.getElem?_append_right (by omega), hj5]; rfl)]
    rfl
  have hmin := fun (k : Nat) (x : Int) (h : jl[k]? = some x) => minOf_take h
  have hmr := fun (k : Nat) => minOf_range (l := jl.take k) fun x hx => hrg1 x (List.mem_of_mem_take hx)
  have hmall : minOf (jl.take jl.length) = whole := by rw [List.take_length]; exact hlst.symm
  have HOF := Lib.hid hof
  clear hof
  have HWR := Lib.hid hwr
  clear hwr
  have HRD := Lib.hid hrd
  clear hrd
  have HGET := Lib.hid hget
  clear hget
  have HLAST := Lib.hid hlast
  clear hlast
  have HMIN := Lib.hid hmin
  clear hmin
  have HMR := Lib.hid hmr
  clear hmr
  have HMALL := Lib.hid hmall
  clear hmall
  have HRG := Lib.hid hrg1
  clear hrg1
  have HRL := Lib.hid hrl
  clear hrl
  have HJ5 := Lib.hid hj5
  clear hj5
  clear hl5 hle hlst hsb hshort hback hwR hT hrows hw
  go_enter Tryz.func4, Tryz.ntmps4
  go_upto_region 14 with (first
    | (go_at_call 5; refine (HAL.out _ exq).mono ?_; rintro e w' ⟨rfl, X1, rfl⟩)
    | (go_at_call 16; refine (HGR.out _ exq).mono ?_; rintro e w' ⟨rfl, X2, rfl⟩)
    | (go_at_call 17; refine (HJU.out _ exq).mono ?_; rintro e w' ⟨vp, rfl, hvp, X3, rfl⟩; obtain ⟨qj, cj, rfl⟩ := hvp.len; (have hj5 := HJ5.out; rw [hj5]); have HVP := Lib.hid hvp; clear hvp hj5)
    | (go_at_call 18; refine (HOF.out _ exq).mono ?_; rintro e w' ⟨vo, ps, rfl, ho1, ho2, X4, rfl⟩; obtain ⟨qo, co, rfl⟩ := ho1.row.len; have HO1 := Lib.hid ho1; have HO2 := Lib.hid ho2; clear ho1 ho2)
    | (go_at_call 10; refine (HWR.out ps _ _ (HO1.out.mono exq) HO2.out exq).mono ?_; rintro e w' ⟨rfl, X5, rfl⟩)
    | (go_at_call 11; refine (HRD.out _ exq).mono ?_; rintro e V1 ⟨qz, cz, zs, rfl, hz1, hz2, hE6⟩; have hzl : zs.length = 6 := (by rw [← List.length_map (f := Prod.fst), hz2]; exact HRL.out); rw [hzl] at hz1 ⊢; have HZ1 := Lib.hid hz1; have HZ2 := Lib.hid hz2; have HZL := Lib.hid hzl; (have hwV : w.Exts V1 := (by refine World.Exts.trans ?_ hE6; exact exq)); (have hvp1 := (HVP.out.mono (by exact exq)).mono hE6); have HWV := Lib.hid hwV; have HVP1 := Lib.hid hvp1; clear hz1 hz2 hzl hE6 hwV hvp1 HVP))
  obtain ⟨V, hV⟩ : ∃ W, V1.alloc (.cells #[.int .u8 4, .slice qz 6 cz] 36) = W := ⟨_, rfl⟩
  have hbx : LaysAs V V1.heap.size (.cells [.int .u8 4, .slice qz 6 cz].toArray 36 (0, 0)) := by rw [← hV]; exact laysAs_size V1 _ rfl
  have hzV : ListsAt V (.slice qz 6 cz) zs := by rw [← hV]; exact HZ1.out.mono exq
  have hvV : IsRow (fun x : Int => [.int .u8 x]) 1 V (.slice qj 5 cj) jl := by
    have h := HVP1.out
    rw [HJ5.out] at h
    rw [← hV]
    exact h.mono exq
  have hwV2 : w.Exts V := by rw [← hV]; exact HWV.out.alloc _
  rw [hV]
  obtain ⟨z, hz⟩ : ∃ z, V1.heap.size = z := ⟨_, rfl⟩
  rw [hz] at hbx ⊢
  have b1 := LaysAs.cell hbx 1 _ rfl
  have nb := Lays.of_cell b1
  have HZV := Lib.hid hzV
  clear hzV
  have HVV := Lib.hid hvV
  clear hvV
  have HW := Lib.hid hwV2
  clear hwV2
  clear hV hz HZ1 HVP1 HWV hbx
  go_wp2_with fail
  go_loopw [18, 19, 20, 100] (fun m _ _ i wr => ∃ k : Nat, k ≤ 5 ∧ i = .int .i64 k ∧ m = .int .i64 (minOf (jl.take k)) ∧ V.Exts wr) (fun _ _ _ i _ => 5 - (intOf i).toNat)
  case atStart => exact ⟨0, Nat.zero_le _, rfl, rfl, World.Exts.refl _⟩
  case round =>
    obtain ⟨k, hk, rfl, rfl, X7, rfl⟩ := hrel
    have hm := HMR.out k
    rcases Nat.lt_or_ge k 5 with hlt | hge
    · obtain ⟨x, hx⟩ := some_of_lt (xs := jl) (k := k) (by rw [HJ5.out]; exact hlt)
      have hxr := HRG.out x (List.mem_of_getElem? hx)
      have hm1 := HMIN.out k x hx
      obtain ⟨bz, oz, y, py, cy, eq1, hzk, cyz, hyr⟩ := lists_row HZV.out HZL.out (show k < 6 by omega)
      subst eq1
      have hy : y = [(k : Int), x] := by
        have h1 := congrArg (fun l => l[k]?) HZ2.out
        rw [List.getElem?_map, hzk, HGET.out k x hx] at h1
        exact Option.some.inj h1
      subst hy
      obtain ⟨_, bj, oj, _, ej, hmj, hpj, hcj⟩ := HVV.out.ex
      simp only [Value.slice.injEq] at ej
      obtain ⟨rfl, -, rfl⟩ := ej
      obtain ⟨rfl, hlj⟩ := hpj (by rw [HJ5.out]; omega)
      have j0 := hcj k x hx 0 _ rfl
      simp only [Nat.mul_one, Nat.add_zero] at j0
      have lz := Lays.of_cell cyz
      obtain ⟨M, hM⟩ : ∃ M, minOf (jl.take k) = M := ⟨_, rfl⟩
      rw [hM] at hm1 hm ⊢
      have w1 : (k : Int) < 5 := by omega
      have w2 : (k : Int) < 6 := by omega
      have HM1 := Lib.hid hm1
      clear hm1
      have HYR := Lib.hid hyr
      clear hyr
      clear hx hzk hM hcj hpj hmj
      go_wp2_with (go_at_call 19; refine (r01_SameInts_any [(k : Int), x] _ _ _ (HYR.out.mono exq) (row_twoL _ (k : Int) x _ rfl)).mono ?_; rintro e w' ⟨rfl, X8, rfl⟩)
      go_roundw
      case rel => exact ⟨k + 1, by omega, by go_num, by rw [HM1.out], exq⟩
      case measure => simp [intOf]; omega
    · obtain rfl : k = 5 := by omega
      have hma := HMALL.out
      rw [HJ5.out] at hma
      rw [hma]
      obtain ⟨bz, oz, y, py, cy, eq1, hzk, cyz, hyr⟩ := lists_row HZV.out HZL.out (show 5 < 6 by omega)
      subst eq1
      have hy : y = [(5 : Int), whole] := by
        have h1 := congrArg (fun l => l[5]?) HZ2.out
        rw [List.getElem?_map, hzk, HLAST.out] at h1
        exact Option.some.inj h1
      subst hy
      have lz := Lays.of_cell cyz
      have HYR := Lib.hid hyr
      clear hyr
      clear hm hma hzk hk hge
      go_wp2_with (go_at_call 19; refine (r01_SameInts_any [(5 : Int), whole] _ _ _ (HYR.out.mono exq) (row_twoL _ 5 whole _ rfl)).mono ?_; rintro e w' ⟨rfl, X9, rfl⟩)
      go_ret
      exact ⟨rfl, HW.out.trans exq⟩
end Go.Proofs.YtcickafaomfbmaaGreatDoor
