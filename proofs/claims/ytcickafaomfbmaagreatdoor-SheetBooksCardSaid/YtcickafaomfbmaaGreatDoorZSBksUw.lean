/-
  The law SheetBooks: its walk.
-/
import Derived.Test.YtcickafaomfbmaaGreatDoorZSBksIuQ
import Derived.Test.YtcickafaomfbmaaGreatDoorZSBksWtB
import Derived.Test.YtcickafaomfbmaaGreatDoorZSBksUu
import Derived.Test.YtcickafaomfbmaaGreatDoorZSBksUgW
import Derived.Test.YtcickafaomfbmaaGreatDoorZSBksIsT
import Derived.Test.YtcickafaomfbmaaGreatDoorZSBksUx
namespace Go.Proofs.YtcickafaomfbmaaGreatDoor
open Go.RowKit Kr
set_option linter.unusedSimpArgs false
set_option linter.unusedVariables false

theorem l11_span_any (lo hi : Int) (w : World) : Calls Tryz.prog 14 #[.int .i64 lo, .int .i64 hi] w fun e w' => e = .returned (.agg #[.int .i64 lo, .int .i64 hi]) ∧ w.Exts w' := by
  go_enter Tryz.func14, Tryz.ntmps14
  go_wp2_with fail
  refine bodyPost_ret (v := .agg #[.int .i64 lo, .int .i64 hi]) (by simp [results, Tryz.results14, go_sem]) rfl ?_
  exact ⟨rfl, exq⟩
theorem spr_mem (plan : List (List Int)) (h i : Nat) : sprayed plan h i = decide ((i : Int) ∈ plan.getD h []) := by
  unfold sprayed
  rw [Bool.eq_iff_iff, List.any_eq_true, decide_eq_true_eq]
  exact ⟨fun ⟨x, hx, e⟩ => by rw [← (by simpa using e : x = (i : Int))]; exact hx, fun h => ⟨_, h, by simp⟩⟩
theorem spr_int (plan : List (List Int)) (h i : Nat) : sprI plan h (i : Int) = if sprayed plan h i then 1 else 0 := rfl
/-- How many numbers the first rows have. -/
def plen (ps : List (List Int × Value)) (t : Nat) : Int := ((ps.take t).map fun x => (x.1.length : Int)).sum
theorem plen_succ {ps : List (List Int × Value)} {t : Nat} {x : List Int × Value} (h : ps[t]? = some x) : plen ps (t + 1) = plen ps t + (x.1.length : Int) := by
  unfold plen
  rw [take_snoc h, List.map_append, List.sum_append]; simp
theorem plen_all (ps : List (List Int × Value)) : plen ps ps.length = ((ps.map Prod.fst).map fun l => (l.length : Int)).sum := by
  unfold plen
  rw [List.take_length, List.map_map]; rfl
theorem plen_bd {ps : List (List Int × Value)} (h : ∀ x ∈ ps, x.1.length ≤ 1000) : ∀ t, 0 ≤ plen ps t ∧ plen ps t ≤ 1000 * (t : Int)
  | 0 => by simp [plen]
  | t + 1 => by
    have h1 := plen_bd h t
    rcases Nat.lt_or_ge t ps.length with hlt | hge
    · obtain ⟨x, hx⟩ := some_of_lt hlt
      have := h x (List.mem_of_getElem? hx)
      rw [plen_succ hx]; omega
    · unfold plen at h1 ⊢
      rw [List.take_of_length_le (by omega)]
      rw [List.take_of_length_le hge] at h1
      omega

set_option maxRecDepth 4000 in
set_option maxHeartbeats 16000000 in
theorem l11_SheetBooks_any (c : Kr.Cover) (v : CoverV) (ps : List (List Int × Value)) (pv : Value) (w : World) (h : CoverAt w c v) (hsd : ∀ s ∈ c.track, 0 ≤ s.side ∧ s.side ≤ 255) (hp : ListsAt w pv ps) (hw : LibAt w) (hl0 : LimsAt w) :
    Calls Tryz.prog 3 #[.agg #[v.t, v.b, v.h, .int .i64 c.wear.lo, .int .i64 c.wear.hi, .int .i64 c.layer.lo, .int .i64 c.layer.hi, .int .i64 c.rate, .int .i64 c.limit, .int .i64 c.base], pv] w fun e w' => e = .returned (.bool true) ∧ w.Exts w' := by
  have hal := fun (W : World) (hE : w.Exts W) => l11_alive_any W (hw.mono hE)
  have hgr := fun (W : World) (hE : w.Exts W) => r02_Great_any c v ps pv W (h.mono hE) (hp.mono hE)
  have hck := fun (W : World) (hE : w.Exts W) => r02_Check_any c v W (h.mono hE)
  have hva := fun (W : World) (hE : w.Exts W) => r02_Valid_any c v ps pv W (h.mono hE) (hp.mono hE)
  have hof := fun (hpf : ∀ x ∈ ps, x.1.length ≤ 1000) (W : World) (hE : w.Exts W) => sheet_OfIce_any c v ps pv W (h.mono hE) (hp.mono hE) (hl0.mono hE) hpf hsd
  have hth := fun (hpf : ∀ x ∈ ps, x.1.length ≤ 1000) (he : planErr c (ps.map Prod.fst) = 0) (i m : Nat) (hi : i < c.beds.length) (hm : m ≤ c.hours.length) (W : World) (hE : w.Exts W) => ice_Thick_any c v ps pv i m W (h.mono hE) (hp.mono hE) hsd he hi hm hpf
  have hpl := hp
  obtain ⟨qp, cp, hpv⟩ := hp.row.len
  subst hpv
  obtain ⟨vt, vb, vh⟩ := v
  obtain ⟨qt, ct, hqt⟩ := h.tr.len
  obtain ⟨qb, cb, hqb⟩ := h.bd.len
  obtain ⟨qh, ch, hqh⟩ := h.hr.len
  dsimp only at hqt hqb hqh
  subst hqt hqb hqh
  clear h hp hsd hl0
  have HAL := Lib.hid hal
  clear hal
  have HPL := Lib.hid hpl
  clear hpl
  cases hg : greatC c ps
  case true =>
    rw [hg] at hgr
    have HGR := Lib.hid hgr
    clear hgr
    clear hck hva hof hth hw hg
    go_enter Tryz.func3, Tryz.ntmps3
    go_wp2_with (first
      | (go_at_call 5; refine (HAL.out _ exq).mono ?_; rintro e w' ⟨rfl, X1, rfl⟩)
      | (go_at_call 6; refine (HGR.out _ exq).mono ?_; rintro e w' ⟨rfl, X2, rfl⟩))
    go_ret
    exact ⟨rfl, exq⟩
  obtain ⟨t1, t2, t3, t4, t5⟩ := greatC_false hg
  have hpf : ∀ x ∈ ps, x.1.length ≤ 1000 := fun x hx => by have := t5 x hx; omega
  have hof := hof hpf
  have hth := hth hpf
  rw [hg] at hgr
  have HGR := Lib.hid hgr
  clear hgr
  by_cases hce : coverErr c = 0
  rotate_left
  · obtain ⟨ce, hce2⟩ : ∃ e, coverErr c = e := ⟨_, rfl⟩
    rw [hce2] at hck hce
    have z1 : (ce != 0) = true := by simpa using hce
    have HCK := Lib.hid hck
    clear hck
    clear hva hof hth hw hg hpf hce hce2 t5
    go_enter Tryz.func3, Tryz.ntmps3
    go_wp2_with (first
      | (go_at_call 5; refine (HAL.out _ exq).mono ?_; rintro e w' ⟨rfl, X1, rfl⟩)
      | (go_at_call 6; refine (HGR.out _ exq).mono ?_; rintro e w' ⟨rfl, X2, rfl⟩)
      | (go_at_call 7; refine (HCK.out _ exq).mono ?_; rintro e w' ⟨rfl, X3, rfl⟩))
    go_ret
    exact ⟨rfl, exq⟩
  rw [hce] at hck
  have HCK := Lib.hid hck
  clear hck
  cases hvp : validP c (ps.map Prod.fst)
  · have hpe : planErr c (ps.map Prod.fst) = 21 := by unfold planErr; rw [if_pos hce, hvp]; rfl
    rw [hvp] at hva
    rw [hpe] at hof
    have hof2 : ∀ W : World, w.Exts W → Calls Tryz.prog 8 #[.agg #[.slice qt c.track.length ct, .slice qb c.beds.length cb, .slice qh c.hours.length ch, .int .i64 c.wear.lo, .int .i64 c.wear.hi, .int .i64 c.layer.lo, .int .i64 c.layer.hi, .int .i64 c.rate, .int .i64 c.limit, .int .i64 c.base], .slice qp ps.length cp] W fun e w' => ∃ q k, e = .returned (.tuple #[.agg #[.int .u8 0, .slice q 0 k], .int .i64 21]) ∧ W.Exts w' := fun W hE => (hof W hE).mono fun e w' h => by
      obtain ⟨v', zs, rfl, h1, h2, hE2⟩ := h
      obtain rfl : zs = [] := List.map_eq_nil_iff.1 h2
      obtain ⟨q, k, rfl⟩ := h1.row.len
      exact ⟨q, k, rfl, hE2⟩
    have HOF := Lib.hid hof2
    clear hof2
    have HVA := Lib.hid hva
    clear hva
    clear hof hth hw hg hpf hce hvp hpe t5
    go_enter Tryz.func3, Tryz.ntmps3
    go_wp2_with (first
      | (go_at_call 5; refine (HAL.out _ exq).mono ?_; rintro e w' ⟨rfl, X1, rfl⟩)
      | (go_at_call 6; refine (HGR.out _ exq).mono ?_; rintro e w' ⟨rfl, X2, rfl⟩)
      | (go_at_call 7; refine (HCK.out _ exq).mono ?_; rintro e w' ⟨rfl, X3, rfl⟩)
      | (go_at_call 8; refine (HOF.out _ exq).mono ?_; rintro e w' ⟨q1, k1, rfl, X4, rfl⟩)
      | (go_at_call 9; refine (HVA.out _ exq).mono ?_; rintro e w' ⟨rfl, X5, rfl⟩))
    go_ret
    exact ⟨rfl, exq⟩
  have hpe : planErr c (ps.map Prod.fst) = 0 := by unfold planErr; rw [if_pos hce, hvp]; rfl
  rw [hvp] at hva
  rw [hpe, if_pos rfl, if_pos rfl] at hof
  have hth := hth hpe
  have hf := cover_facts hce
  have hsb := ice_valid hpe
  have hrl := rows_len c (ps.map Prod.fst) c.hours.length
  have hgt := fun (i : Nat) => rows_get c (ps.map Prod.fst) (H := c.hours.length) (i := i)
  have hpn : ps.length = c.hours.length := by
    have h := hvp
    unfold validP at h
    simp only [Bool.and_eq_true, decide_eq_true_eq, List.length_map] at h
    exact h.1
  have hall := sprTo_all hvp c.hours.length (by rw [List.length_map]; omega)
  rw [List.take_of_length_le (by rw [List.length_map]; omega)] at hall
  have hn1 : 1 ≤ c.beds.length ∧ c.beds.length ≤ 12 := by have := hf.t1; have := hf.beds; omega
  have hh1 := hf.hours
  have hN96 : c.beds.length * c.hours.length ≤ 12 * 8 := Nat.mul_le_mul hn1.2 hh1.2
  obtain ⟨N, hN⟩ : ∃ N, c.beds.length * c.hours.length = N := ⟨_, rfl⟩
  have hNi : (c.beds.length : Int) * (c.hours.length : Int) = (N : Int) := by rw [← hN]; simp
  have hget : ∀ k, k < N → ∃ h9 k9 : Nat, k / c.beds.length = h9 ∧ k % c.beds.length = k9 ∧ h9 < c.hours.length ∧ k9 < c.beds.length ∧ (rowsTo c (ps.map Prod.fst) c.hours.length)[k]? = some (Kr.rowAt c (ps.map Prod.fst) h9 k9) := fun k hk => by
    rw [← hN] at hk
    exact ⟨_, _, rfl, rfl, Nat.div_lt_of_lt_mul hk, Nat.mod_lt _ (by omega), hgt k hk⟩
  rw [hN] at hrl hN96 hall
  have hR5 : ∀ x ∈ rowsTo c (ps.map Prod.fst) c.hours.length, x.length = 5 := fun x hx => by
    obtain ⟨i, hi⟩ := List.getElem?_of_mem hx
    obtain ⟨h9, q9, _, _, _, _, e⟩ := hget i (by rw [← hrl]; exact (List.getElem?_eq_some_iff.1 hi).1)
    rw [hi] at e
    rw [Option.some.inj e]; rfl
  generalize rowsTo c (ps.map Prod.fst) c.hours.length = R at *
  obtain ⟨T, hT⟩ : ∃ t, textFrom 1 (linesOf 3 R) = t := ⟨_, rfl⟩
  have hwR : writeR 3 R = if 1500 < T.length then ([], 9) else (T, 0) := by unfold writeR; rw [hsb, hT, if_pos rfl]
  have hback := fun (hl : T.length ≤ 1500) => write_read hsb (by rw [hT]; exact hl)
  rw [hT] at hback
  have hwr : ∀ (os : List (List Int × Value)) (v' : Value) (W : World), ListsAt W v' os → os.map Prod.fst = R → w.Exts W → Calls Tryz.prog 10 #[.agg #[.int .u8 3, v']] W (WriteIs W (writeR 3 R)) := fun os v' W hL hm hE => by
    have hl9 : os.length ≤ 900 := by rw [← List.length_map (f := Prod.fst), hm]; omega
    have h1 := sheet_Write_any ice_fn 3 os v' W hL hl9 (by decide) (hw.mono hE)
    rw [hm] at h1
    exact h1
  rw [hwR] at hwr
  have HOF := Lib.hid hof
  clear hof
  have HVA := Lib.hid hva
  clear hva
  have HTH := Lib.hid hth
  clear hth
  have HGET := Lib.hid hget
  clear hget
  have HRL := Lib.hid hrl
  clear hrl
  have HPN := Lib.hid hpn
  clear hpn
  have HALL := Lib.hid hall
  clear hall
  have HPF := Lib.hid hpf
  clear hpf
  have HR5 := Lib.hid hR5
  clear hR5
  clear hg hce hvp hpe hgt hsb hwR hT hf hN t5
  rcases Nat.lt_or_ge 1500 T.length with h15 | h15
  · have hwr2 : ∀ (os : List (List Int × Value)) (v' : Value) (W : World), ListsAt W v' os → os.map Prod.fst = R → w.Exts W → Calls Tryz.prog 10 #[.agg #[.int .u8 3, v']] W fun e w' => e = .returned (.tuple #[.string ⟨#[]⟩, .int .i64 9]) ∧ W.Exts w' := fun os v' W hL hm hE => by
      have h1 := hwr os v' W hL hm hE
      rw [if_pos h15] at h1
      exact h1.mono fun e w' h2 => h2.det
    have HWR := Lib.hid hwr2
    clear hwr2
    clear hwr hback hw h15
    go_enter Tryz.func3, Tryz.ntmps3
    go_upto_region 16 with (first
      | (go_at_call 5; refine (HAL.out _ exq).mono ?_; rintro e w' ⟨rfl, X1, rfl⟩)
        | (go_at_call 6; refine (HGR.out _ exq).mono ?_; rintro e w' ⟨rfl, X2, rfl⟩)
        | (go_at_call 7; refine (HCK.out _ exq).mono ?_; rintro e w' ⟨rfl, X3, rfl⟩)
        | (go_at_call 8; refine (HOF.out _ exq).mono ?_; rintro e w' ⟨vo, os, rfl, ho1, ho2, X4, rfl⟩; obtain ⟨qo, co, rfl⟩ := ho1.row.len; (have hol : os.length = N := (by rw [← List.length_map (f := Prod.fst), ho2]; exact HRL.out)); rw [hol] at ho1 ⊢; have HO1 := Lib.hid ho1; have HO2 := Lib.hid ho2; have HOL := Lib.hid hol; clear ho1 ho2 hol)
        | (go_at_call 9; refine (HVA.out _ exq).mono ?_; rintro e w' ⟨rfl, X5, rfl⟩)
        | (go_at_call 10; refine (HWR.out os _ _ (HO1.out.mono exq) HO2.out exq).mono ?_; rintro e V2 ⟨rfl, hE2⟩; (have hbx : LaysAs V2 w.heap.size (.cells (#[(CoverV.mk (.slice qt c.track.length ct) (.slice qb c.beds.length cb) (.slice qh c.hours.length ch)).t, (CoverV.mk (.slice qt c.track.length ct) (.slice qb c.beds.length cb) (.slice qh c.hours.length ch)).b, (CoverV.mk (.slice qt c.track.length ct) (.slice qb c.beds.length cb) (.slice qh c.hours.length ch)).h, .int .i64 c.wear.lo, .int .i64 c.wear.hi, .int .i64 c.layer.lo, .int .i64 c.layer.hi, .int .i64 c.rate, .int .i64 c.limit, .int .i64 c.base]) 30) := ((laysAs_size w _ rfl).exts (by refine World.Exts.trans ?_ hE2; exact exq))); (have hsx : LaysAs V2 (World.ext _ X4).heap.size (.cells [.int .u8 3, .slice qo N co].toArray 36 (0, 0)) := ((laysAs_size (World.ext _ X4) _ rfl).exts (by refine World.Exts.trans ?_ hE2; exact exq))); (have hov : ListsAt V2 (.slice qo N co) os := (HO1.out.mono (by refine World.Exts.trans ?_ hE2; exact exq))); (have hwv : w.Exts V2 := (by refine World.Exts.trans ?_ hE2; exact exq)); obtain ⟨zS, hzS⟩ : ∃ z, (World.ext _ X4).heap.size = z := ⟨_, rfl⟩; rw [hzS] at hsx ⊢; have HBX := Lib.hid hbx; have HSX := Lib.hid hsx; have HOV2 := Lib.hid hov; have HWV2 := Lib.hid hwv; have a0 := LaysAs.cell hsx 0 _ rfl; have a1 := LaysAs.cell hsx 1 _ rfl; have na := Lays.of_cell a0; clear hbx hsx hov hwv hE2 hzS HO1))
    obtain ⟨V, hV⟩ : ∃ W, V2.alloc (.cells #[.int .u8 3, .slice qo N co] 36) = W := ⟨_, rfl⟩
    have hE2 : V2.Exts V := by rw [← hV]; exact exq
    have ha := HSX.out.exts hE2
    have hc0 := HBX.out.exts hE2
    have hb : LaysAs V V2.heap.size (.cells [.int .u8 3, .slice qo N co].toArray 36 (0, 0)) := by rw [← hV]; exact laysAs_size V2 _ rfl
    have hov := HOV2.out.mono hE2
    have hwv := HWV2.out.trans hE2
    rw [hV]
    obtain ⟨zT, hzT⟩ : ∃ z, V2.heap.size = z := ⟨_, rfl⟩
    rw [hzT] at hb ⊢
    obtain ⟨zs, hzs⟩ : ∃ zs, zs = os := ⟨_, rfl⟩
    have HZV : Hid (ListsAt V (.slice qo N co) zs) := Lib.hid (by rw [hzs]; exact hov)
    have HZ2 : Hid (zs.map Prod.fst = R) := Lib.hid (by rw [hzs]; exact HO2.out)
    have HZL : Hid (zs.length = N) := Lib.hid (by rw [hzs]; exact HOL.out)
    clear HSX HBX HOV2 HWV2 HOL hzT hzs hV hE2 a0 a1 na
    -- ha (s), hb (t), hc0 (c), hov, hwv
    have a0 := LaysAs.cell ha 0 _ rfl
    have a1 := LaysAs.cell ha 1 _ rfl
    have b0 := LaysAs.cell hb 0 _ rfl
    have b1 := LaysAs.cell hb 1 _ rfl
    have na := Lays.of_cell a0
    have nb := Lays.of_cell b0
    have hcc : ∀ i u, [.slice qt c.track.length ct, .slice qb c.beds.length cb, .slice qh c.hours.length ch, .int .i64 c.wear.lo, .int .i64 c.wear.hi, .int .i64 c.layer.lo, .int .i64 c.layer.hi, .int .i64 c.rate, .int .i64 c.limit, .int .i64 c.base][i]? = some u → V.cell? ⟨w.heap.size, i, none⟩ = some u := fun i u hu => LaysAs.cell hc0 i u hu
    have k0 := hcc 0 _ rfl
    have k1 := hcc 1 _ rfl
    have k2 := hcc 2 _ rfl
    have k3 := hcc 3 _ rfl
    have k4 := hcc 4 _ rfl
    have k5 := hcc 5 _ rfl
    have k6 := hcc 6 _ rfl
    have k7 := hcc 7 _ rfl
    have k8 := hcc 8 _ rfl
    have k9 := hcc 9 _ rfl
    have nc := Lays.of_cell k0
    have HOV := Lib.hid hov
    clear hov
    have HWV := Lib.hid hwv
    clear hwv
    clear ha hb hc0 hcc
    -- V, HWV, HZV, HZ2, HZL, HOV, zT, zS, b0 b1 (the sheet that is read), a0 a1
    go_wp2_with (go_at_call 12; refine (r11_Same_any 3 zs os _ _ _ (HZV.out.mono exq) (HOV.out.mono exq) (HZ2.out.trans HO2.out.symm)).mono ?_; rintro e w' ⟨rfl, X8, rfl⟩)
    go_loopw [12, 13, 14, 15, 16, 17, 18, 99] (fun s _ _ _ _ _ _ i wr => ∃ k : Nat, k ≤ N ∧ i = .int .i64 k ∧ s = .int .i64 (sprTo c (ps.map Prod.fst) k) ∧ (World.ext V X8).Exts wr) (fun _ _ _ _ _ _ _ i _ => N - (intOf i).toNat)
    case atStart => exact ⟨0, Nat.zero_le _, rfl, rfl, World.Exts.refl _⟩
    case round =>
      obtain ⟨k, hk, rfl, rfl, X9, rfl⟩ := hrel
      have hsp := spr_bd c (ps.map Prod.fst) k
      rcases Nat.lt_or_ge k N with hlt | hge
      · obtain ⟨bz, oz, y, py, cy, eq1, hzk, cyz, hyr⟩ := lists_row HZV.out HZL.out hlt
        subst eq1
        obtain ⟨h9, q9, hdiv, hmod, hh9, hk9, hget⟩ := HGET.out k hlt
        have hy : y = Kr.rowAt c (ps.map Prod.fst) h9 q9 := by
          have h1 := congrArg (fun l => l[k]?) HZ2.out
          rw [List.getElem?_map, hzk, hget] at h1
          exact Option.some.inj h1
        obtain ⟨bq, oq, p9, pp, cpp, eqp, hpk, cpz, hpr⟩ := lists_row HPL.out rfl (show h9 < ps.length by rw [HPN.out]; exact hh9)
        subst eqp
        have hp9 : (ps.map Prod.fst).getD h9 [] = p9 := by rw [List.getD_eq_getElem?_getD, List.getElem?_map, hpk]; rfl
        have hp9l := HPF.out _ (List.mem_of_getElem? hpk)
        dsimp only at hp9l
        have hspr : decide ((q9 : Int) ∈ p9) = sprayed (ps.map Prod.fst) h9 q9 := by rw [spr_mem, hp9]
        have hthk := HTH.out q9 h9 hk9 (by omega)
        have hsum : sprTo c (ps.map Prod.fst) (k + 1) = sprTo c (ps.map Prod.fst) k + if sprayed (ps.map Prod.fst) h9 q9 then 1 else 0 := by rw [sprTo_succ, hdiv, hmod, spr_int]
        have hqd : ((k : Int)).tdiv (c.beds.length : Int) = (h9 : Int) := by rw [← hdiv]; exact (Int.ofNat_tdiv k c.beds.length).symm
        have hqm : ((k : Int)).tmod (c.beds.length : Int) = (q9 : Int) := by rw [← hmod]; exact (Int.ofNat_tmod k c.beds.length).symm
        unfold Kr.rowAt at hy
        generalize thickAt c (ps.map Prod.fst) q9 h9 = T9 at *
        obtain ⟨t9a, t9b⟩ := T9
        dsimp only at hy hthk
        generalize sprTo c (ps.map Prod.fst) k = S9 at *
        generalize sprayed (ps.map Prod.fst) h9 q9 = sb at *
        have hhas := fun (W : World) (hE : w.Exts W) => l11_has_any p9 _ (q9 : Int) W (hpr.mono hE) (by have := hp9l; omega)
        rw [hspr] at hhas
        subst hy
        obtain ⟨_, by9, oy9, _, ey, hmy, hpy, hcy⟩ := hyr.ex
        simp only [Value.slice.injEq] at ey
        obtain ⟨rfl, -, rfl⟩ := ey
        obtain ⟨rfl, hly⟩ := hpy (by simp)
        have y0 := hcy 0 _ rfl 0 _ rfl
        have y1 := hcy 1 _ rfl 0 _ rfl
        have y2 := hcy 2 _ rfl 0 _ rfl
        have y3 := hcy 3 _ rfl 0 _ rfl
        have y4 := hcy 4 _ rfl 0 _ rfl
        simp only [Nat.zero_mul, Nat.one_mul, Nat.mul_one, Nat.add_zero] at y0 y1 y2 y3 y4
        have ly := Lays.of_cell y0
        have lz := Lays.of_cell cyz
        have cpz := HWV.out.cell cpz
        have lp := Lays.of_cell cpz
        have w1 : (k : Int) < (N : Int) := by omega
        have w2 : (h9 : Int) < (ps.length : Int) := by have := HPN.out; omega
        have w3 : (c.beds.length : Int) ≠ 0 := by omega
        have w4 : ((c.beds.length : Int) == 0) = false := beq_eq_false_iff_ne.2 w3
        have HSUM := Lib.hid hsum
        clear hsum
        have HTHK := Lib.hid hthk
        clear hthk
        have HHAS := Lib.hid hhas
        clear hhas
        clear hzk hget hpk hp9 hspr hdiv hmod hcy hpy hmy hyr hpr hp9l hly
        go_wp2_with fail
        refine wp_region_ext (by kernel_rfl) (by kernel_rfl) ?_
        repeat (go_big_quiet_step (fail))
        refine wpQuiet_nil ?_
        rintro _ ⟨X, rfl⟩
        go_wp2_with (go_at_call 13; refine (HTHK.out _ (HWV.out.trans exq)).mono ?_; rintro e w' ⟨rfl, X10, rfl⟩)
        cases sb
        all_goals
          refine wp_region_ext (by kernel_rfl) (by kernel_rfl) ?_
          repeat (go_big_quiet_step (first | (go_at_call 14; exact Calls.in_ext (l11_span_any _ _ _)) | (go_at_call 15; exact Calls.in_ext (HHAS.out _ (HWV.out.trans exq)))))
          refine wpQuiet_nil ?_
          rintro _ ⟨X, rfl⟩
          go_wp2_with fail
          go_roundw
          case rel => exact ⟨k + 1, by omega, by go_num, by rw [HSUM.out]; simp, exq⟩
          case measure => simp [intOf]; omega
      · obtain rfl : k = N := by omega
        have hall := HALL.out
        have hps := plen_all ps
        obtain ⟨A9, hA9⟩ : ∃ A, ((ps.map Prod.fst).map fun l => (l.length : Int)).sum = A := ⟨_, rfl⟩
        rw [hA9] at hall hps
        rw [hall] at hsp ⊢
        have hpb := fun t => plen_bd HPF.out t
        have HPS := Lib.hid hps
        clear hps
        have HPB := Lib.hid hpb
        clear hpb
        clear hall hA9 a0 a1 b0 b1 na nb k0 k1 k2 k3 k4 k5 k6 k7 k8 k9 nc hge
        go_wp2_with fail
        go_loopw [19, 21, 171] (fun a _ i wr => ∃ t : Nat, t ≤ ps.length ∧ i = .int .i64 t ∧ a = .int .i64 (plen ps t) ∧ V.Exts wr) (fun _ _ i _ => ps.length - (intOf i).toNat)
        case atStart => exact ⟨0, Nat.zero_le _, rfl, rfl, exq⟩
        case round =>
          obtain ⟨t, ht, rfl, rfl, X11, rfl⟩ := hrel
          have hpb := HPB.out t
          rcases Nat.lt_or_ge t ps.length with hlt | hge
          · obtain ⟨bq, oq, p9, pp, cpp, eqp, hpk, cpz, hpr⟩ := lists_row HPL.out rfl hlt
            subst eqp
            have cpz := HWV.out.cell cpz
            have lp := Lays.of_cell cpz
            have hst := plen_succ hpk
            dsimp only at hst
            have hp9l := HPF.out _ (List.mem_of_getElem? hpk)
            dsimp only at hp9l
            obtain ⟨B9, hB9⟩ : ∃ A, plen ps t = A := ⟨_, rfl⟩
            rw [hB9] at hst hpb ⊢
            have HST := Lib.hid hst
            clear hst
            clear hpk hpr hB9
            go_wp2_with fail
            go_roundw
            case rel => exact ⟨t + 1, by omega, by go_num, by rw [HST.out], exq⟩
            case measure => simp [intOf]; omega
          · obtain rfl : t = ps.length := by omega
            have h9 := HPS.out
            rw [h9]
            clear h9 hpb
            go_wp2_with fail
            go_ret
            exact ⟨rfl, HWV.out.trans exq⟩
  have hwr2 : ∀ (os : List (List Int × Value)) (v' : Value) (W : World), ListsAt W v' os → os.map Prod.fst = R → w.Exts W → Calls Tryz.prog 10 #[.agg #[.int .u8 3, v']] W fun e w' => e = .returned (.tuple #[.string (bytesT T), .int .i64 0]) ∧ W.Exts w' := fun os v' W hL hm hE => by
    have h1 := hwr os v' W hL hm hE
    rw [if_neg (by omega)] at h1
    exact h1.mono fun e w' h2 => h2.det
  have hrd : ∀ W : World, w.Exts W → Calls Tryz.prog 11 #[.string (bytesT T)] W fun e w' => ∃ q c zs, e = .returned (.tuple #[.agg #[.int .u8 3, .slice q zs.length c], .int .i64 0, .int .i64 0]) ∧ ListsAt w' (.slice q zs.length c) zs ∧ zs.map Prod.fst = R ∧ W.Exts w' := fun W hE => by
    have h1 := sheet_Read_any ice_fn (bytesT T) W (hw.mono hE)
    rw [show (bytesT T).data.toList = T from rfl, (hback h15).1] at h1
    exact h1.mono fun e w' h2 => h2.det
  have HWR := Lib.hid hwr2
  clear hwr2
  have HRD := Lib.hid hrd
  clear hrd
  clear hwr hback hw h15
  go_enter Tryz.func3, Tryz.ntmps3
  go_upto_region 16 with (first
    | (go_at_call 5; refine (HAL.out _ exq).mono ?_; rintro e w' ⟨rfl, X1, rfl⟩)
      | (go_at_call 6; refine (HGR.out _ exq).mono ?_; rintro e w' ⟨rfl, X2, rfl⟩)
      | (go_at_call 7; refine (HCK.out _ exq).mono ?_; rintro e w' ⟨rfl, X3, rfl⟩)
      | (go_at_call 8; refine (HOF.out _ exq).mono ?_; rintro e w' ⟨vo, os, rfl, ho1, ho2, X4, rfl⟩; obtain ⟨qo, co, rfl⟩ := ho1.row.len; (have hol : os.length = N := (by rw [← List.length_map (f := Prod.fst), ho2]; exact HRL.out)); rw [hol] at ho1 ⊢; have HO1 := Lib.hid ho1; have HO2 := Lib.hid ho2; have HOL := Lib.hid hol; clear ho1 ho2 hol)
      | (go_at_call 9; refine (HVA.out _ exq).mono ?_; rintro e w' ⟨rfl, X5, rfl⟩)
      | (go_at_call 10; refine (HWR.out os _ _ (HO1.out.mono exq) HO2.out exq).mono ?_; rintro e V2 ⟨rfl, hE2⟩; (have hbx : LaysAs V2 w.heap.size (.cells (#[(CoverV.mk (.slice qt c.track.length ct) (.slice qb c.beds.length cb) (.slice qh c.hours.length ch)).t, (CoverV.mk (.slice qt c.track.length ct) (.slice qb c.beds.length cb) (.slice qh c.hours.length ch)).b, (CoverV.mk (.slice qt c.track.length ct) (.slice qb c.beds.length cb) (.slice qh c.hours.length ch)).h, .int .i64 c.wear.lo, .int .i64 c.wear.hi, .int .i64 c.layer.lo, .int .i64 c.layer.hi, .int .i64 c.rate, .int .i64 c.limit, .int .i64 c.base]) 30) := ((laysAs_size w _ rfl).exts (by refine World.Exts.trans ?_ hE2; exact exq))); (have hsx : LaysAs V2 (World.ext _ X4).heap.size (.cells [.int .u8 3, .slice qo N co].toArray 36 (0, 0)) := ((laysAs_size (World.ext _ X4) _ rfl).exts (by refine World.Exts.trans ?_ hE2; exact exq))); (have hov : ListsAt V2 (.slice qo N co) os := (HO1.out.mono (by refine World.Exts.trans ?_ hE2; exact exq))); (have hwv : w.Exts V2 := (by refine World.Exts.trans ?_ hE2; exact exq)); obtain ⟨zS, hzS⟩ : ∃ z, (World.ext _ X4).heap.size = z := ⟨_, rfl⟩; rw [hzS] at hsx ⊢; have HBX := Lib.hid hbx; have HSX := Lib.hid hsx; have HOV2 := Lib.hid hov; have HWV2 := Lib.hid hwv; have a0 := LaysAs.cell hsx 0 _ rfl; have a1 := LaysAs.cell hsx 1 _ rfl; have na := Lays.of_cell a0; clear hbx hsx hov hwv hE2 hzS HO1)
    | (go_at_call 11; refine (HRD.out _ (HWV2.out.trans exq)).mono ?_; rintro e V3 ⟨qz, cz, zs, rfl, hz1, hz2, hE3⟩; (have hzl : zs.length = N := (by rw [← List.length_map (f := Prod.fst), hz2]; exact HRL.out)); rw [hzl] at hz1 ⊢; (have hE23 : V2.Exts V3 := (by refine World.Exts.trans ?_ hE3; exact exq)); (have hb3 : LaysAs V3 V2.heap.size (.cells [.int .u8 3, .slice qo N co].toArray 36 (0, 0)) := (laysAs_size V2 _ rfl).exts (by exact hE3)); have ha3 := HSX.out.exts hE23; have hc3 := HBX.out.exts hE23; (obtain ⟨zT, hzT⟩ : ∃ z, V2.heap.size = z := ⟨_, rfl⟩); (have hzST : zS < zT := (by rw [← hzT]; exact HSX.out.lt)); (have hzCT : w.heap.size < zT := (by rw [← hzT]; exact HBX.out.lt)); rw [hzT] at hb3 ⊢; have b0 := LaysAs.cell hb3 0 _ rfl; have b1 := LaysAs.cell hb3 1 _ rfl; have nb := Lays.of_cell b0; have fb0 := laysAs_frz (i := 0) hb3; have fb1 := laysAs_frz (i := 1) hb3; have HB3 := Lib.hid hb3; have HA3 := Lib.hid ha3; have HC3 := Lib.hid hc3; have HE23 := Lib.hid hE23; have HZE := Lib.hid hzT; have HZ1 := Lib.hid hz1; have HZ2 := Lib.hid hz2; have HZL := Lib.hid hzl; have HZT := Lib.hid (And.intro hzST hzCT); clear hz1 hz2 hzl hE23 hE3 hb3 ha3 hc3 hzT hzST hzCT a0 a1 na HSX HBX))
  obtain ⟨hzST, hzCT⟩ := HZT.out
  have hb := LaysAs.set (cs := [.int .u8 3, .slice qo N co]) (i := 1) (LaysAs.set (cs := [.int .u8 3, .slice qo N co]) (i := 0) HB3.out (.int .u8 3)) (.slice qz N cz)
  have ha := laysAs_else (laysAs_else HA3.out (a := ⟨zT, 0, none⟩) (by dsimp only; omega) (.int .u8 3)) (a := ⟨zT, 1, none⟩) (by dsimp only; omega) (.slice qz N cz)
  have hc0 := laysAs_else (laysAs_else HC3.out (a := ⟨zT, 0, none⟩) (by dsimp only; omega) (.int .u8 3)) (a := ⟨zT, 1, none⟩) (by dsimp only; omega) (.slice qz N cz)
  have hz := lists_off HB3.out HZ1.out HZL.out (fun x hx => HR5.out _ (by rw [← HZ2.out]; exact List.mem_map_of_mem hx)) (.int .u8 3) (.slice qz N cz)
  have hE2 : V2.Exts ((V3.setCell ⟨zT, 0, none⟩ (.int .u8 3)).setCell ⟨zT, 1, none⟩ (.slice qz N cz)) := World.Exts.setCell (World.Exts.setCell HE23.out (by dsimp only; have := HZE.out; omega) _) (by dsimp only; have := HZE.out; omega) _
  have hov := HOV2.out.mono hE2
  have hwv := HWV2.out.trans hE2
  obtain ⟨V, hV⟩ : ∃ W, (V3.setCell ⟨zT, 0, none⟩ (.int .u8 3)).setCell ⟨zT, 1, none⟩ (.slice qz N cz) = W := ⟨_, rfl⟩
  rw [hV] at ha hb hc0 hz hov hwv
  rw [hV]
  have HZV := Lib.hid hz
  clear hz hE2 hV b0 b1 nb fb0 fb1 HB3 HA3 HC3 HZ1 HZT HE23 HZE HOV2 HWV2 HOL
  -- ha (s), hb (t), hc0 (c), hov, hwv
  have a0 := LaysAs.cell ha 0 _ rfl
  have a1 := LaysAs.cell ha 1 _ rfl
  have b0 := LaysAs.cell hb 0 _ rfl
  have b1 := LaysAs.cell hb 1 _ rfl
  have na := Lays.of_cell a0
  have nb := Lays.of_cell b0
  have hcc : ∀ i u, [.slice qt c.track.length ct, .slice qb c.beds.length cb, .slice qh c.hours.length ch, .int .i64 c.wear.lo, .int .i64 c.wear.hi, .int .i64 c.layer.lo, .int .i64 c.layer.hi, .int .i64 c.rate, .int .i64 c.limit, .int .i64 c.base][i]? = some u → V.cell? ⟨w.heap.size, i, none⟩ = some u := fun i u hu => LaysAs.cell hc0 i u hu
  have k0 := hcc 0 _ rfl
  have k1 := hcc 1 _ rfl
  have k2 := hcc 2 _ rfl
  have k3 := hcc 3 _ rfl
  have k4 := hcc 4 _ rfl
  have k5 := hcc 5 _ rfl
  have k6 := hcc 6 _ rfl
  have k7 := hcc 7 _ rfl
  have k8 := hcc 8 _ rfl
  have k9 := hcc 9 _ rfl
  have nc := Lays.of_cell k0
  have HOV := Lib.hid hov
  clear hov
  have HWV := Lib.hid hwv
  clear hwv
  clear ha hb hc0 hcc
  -- V, HWV, HZV, HZ2, HZL, HOV, zT, zS, b0 b1 (the sheet that is read), a0 a1
  go_wp2_with (go_at_call 12; refine (r11_Same_any 3 zs os _ _ _ (HZV.out.mono exq) (HOV.out.mono exq) (HZ2.out.trans HO2.out.symm)).mono ?_; rintro e w' ⟨rfl, X8, rfl⟩)
  go_loopw [12, 13, 14, 15, 16, 17, 18, 99] (fun s _ _ _ _ _ _ i wr => ∃ k : Nat, k ≤ N ∧ i = .int .i64 k ∧ s = .int .i64 (sprTo c (ps.map Prod.fst) k) ∧ (World.ext V X8).Exts wr) (fun _ _ _ _ _ _ _ i _ => N - (intOf i).toNat)
  case atStart => exact ⟨0, Nat.zero_le _, rfl, rfl, World.Exts.refl _⟩
  case round =>
    obtain ⟨k, hk, rfl, rfl, X9, rfl⟩ := hrel
    have hsp := spr_bd c (ps.map Prod.fst) k
    rcases Nat.lt_or_ge k N with hlt | hge
    · obtain ⟨bz, oz, y, py, cy, eq1, hzk, cyz, hyr⟩ := lists_row HZV.out HZL.out hlt
      subst eq1
      obtain ⟨h9, q9, hdiv, hmod, hh9, hk9, hget⟩ := HGET.out k hlt
      have hy : y = Kr.rowAt c (ps.map Prod.fst) h9 q9 := by
        have h1 := congrArg (fun l => l[k]?) HZ2.out
        rw [List.getElem?_map, hzk, hget] at h1
        exact Option.some.inj h1
      obtain ⟨bq, oq, p9, pp, cpp, eqp, hpk, cpz, hpr⟩ := lists_row HPL.out rfl (show h9 < ps.length by rw [HPN.out]; exact hh9)
      subst eqp
      have hp9 : (ps.map Prod.fst).getD h9 [] = p9 := by rw [List.getD_eq_getElem?_getD, List.getElem?_map, hpk]; rfl
      have hp9l := HPF.out _ (List.mem_of_getElem? hpk)
      dsimp only at hp9l
      have hspr : decide ((q9 : Int) ∈ p9) = sprayed (ps.map Prod.fst) h9 q9 := by rw [spr_mem, hp9]
      have hthk := HTH.out q9 h9 hk9 (by omega)
      have hsum : sprTo c (ps.map Prod.fst) (k + 1) = sprTo c (ps.map Prod.fst) k + if sprayed (ps.map Prod.fst) h9 q9 then 1 else 0 := by rw [sprTo_succ, hdiv, hmod, spr_int]
      have hqd : ((k : Int)).tdiv (c.beds.length : Int) = (h9 : Int) := by rw [← hdiv]; exact (Int.ofNat_tdiv k c.beds.length).symm
      have hqm : ((k : Int)).tmod (c.beds.length : Int) = (q9 : Int) := by rw [← hmod]; exact (Int.ofNat_tmod k c.beds.length).symm
      unfold Kr.rowAt at hy
      generalize thickAt c (ps.map Prod.fst) q9 h9 = T9 at *
      obtain ⟨t9a, t9b⟩ := T9
      dsimp only at hy hthk
      generalize sprTo c (ps.map Prod.fst) k = S9 at *
      generalize sprayed (ps.map Prod.fst) h9 q9 = sb at *
      have hhas := fun (W : World) (hE : w.Exts W) => l11_has_any p9 _ (q9 : Int) W (hpr.mono hE) (by have := hp9l; omega)
      rw [hspr] at hhas
      subst hy
      obtain ⟨_, by9, oy9, _, ey, hmy, hpy, hcy⟩ := hyr.ex
      simp only [Value.slice.injEq] at ey
      obtain ⟨rfl, -, rfl⟩ := ey
      obtain ⟨rfl, hly⟩ := hpy (by simp)
      have y0 := hcy 0 _ rfl 0 _ rfl
      have y1 := hcy 1 _ rfl 0 _ rfl
      have y2 := hcy 2 _ rfl 0 _ rfl
      have y3 := hcy 3 _ rfl 0 _ rfl
      have y4 := hcy 4 _ rfl 0 _ rfl
      simp only [Nat.zero_mul, Nat.one_mul, Nat.mul_one, Nat.add_zero] at y0 y1 y2 y3 y4
      have ly := Lays.of_cell y0
      have lz := Lays.of_cell cyz
      have cpz := HWV.out.cell cpz
      have lp := Lays.of_cell cpz
      have w1 : (k : Int) < (N : Int) := by omega
      have w2 : (h9 : Int) < (ps.length : Int) := by have := HPN.out; omega
      have w3 : (c.beds.length : Int) ≠ 0 := by omega
      have w4 : ((c.beds.length : Int) == 0) = false := beq_eq_false_iff_ne.2 w3
      have HSUM := Lib.hid hsum
      clear hsum
      have HTHK := Lib.hid hthk
      clear hthk
      have HHAS := Lib.hid hhas
      clear hhas
      clear hzk hget hpk hp9 hspr hdiv hmod hcy hpy hmy hyr hpr hp9l hly
      go_wp2_with fail
      refine wp_region_ext (by kernel_rfl) (by kernel_rfl) ?_
      repeat (go_big_quiet_step (fail))
      refine wpQuiet_nil ?_
      rintro _ ⟨X, rfl⟩
      go_wp2_with (go_at_call 13; refine (HTHK.out _ (HWV.out.trans exq)).mono ?_; rintro e w' ⟨rfl, X10, rfl⟩)
      cases sb
      all_goals
        refine wp_region_ext (by kernel_rfl) (by kernel_rfl) ?_
        repeat (go_big_quiet_step (first | (go_at_call 14; exact Calls.in_ext (l11_span_any _ _ _)) | (go_at_call 15; exact Calls.in_ext (HHAS.out _ (HWV.out.trans exq)))))
        refine wpQuiet_nil ?_
        rintro _ ⟨X, rfl⟩
        go_wp2_with fail
        go_roundw
        case rel => exact ⟨k + 1, by omega, by go_num, by rw [HSUM.out]; simp, exq⟩
        case measure => simp [intOf]; omega
    · obtain rfl : k = N := by omega
      have hall := HALL.out
      have hps := plen_all ps
      obtain ⟨A9, hA9⟩ : ∃ A, ((ps.map Prod.fst).map fun l => (l.length : Int)).sum = A := ⟨_, rfl⟩
      rw [hA9] at hall hps
      rw [hall] at hsp ⊢
      have hpb := fun t => plen_bd HPF.out t
      have HPS := Lib.hid hps
      clear hps
      have HPB := Lib.hid hpb
      clear hpb
      clear hall hA9 a0 a1 b0 b1 na nb k0 k1 k2 k3 k4 k5 k6 k7 k8 k9 nc hge
      go_wp2_with fail
      go_loopw [19, 21, 171] (fun a _ i wr => ∃ t : Nat, t ≤ ps.length ∧ i = .int .i64 t ∧ a = .int .i64 (plen ps t) ∧ V.Exts wr) (fun _ _ i _ => ps.length - (intOf i).toNat)
      case atStart => exact ⟨0, Nat.zero_le _, rfl, rfl, exq⟩
      case round =>
        obtain ⟨t, ht, rfl, rfl, X11, rfl⟩ := hrel
        have hpb := HPB.out t
        rcases Nat.lt_or_ge t ps.length with hlt | hge
        · obtain ⟨bq, oq, p9, pp, cpp, eqp, hpk, cpz, hpr⟩ := lists_row HPL.out rfl hlt
          subst eqp
          have cpz := HWV.out.cell cpz
          have lp := Lays.of_cell cpz
          have hst := plen_succ hpk
          dsimp only at hst
          have hp9l := HPF.out _ (List.mem_of_getElem? hpk)
          dsimp only at hp9l
          obtain ⟨B9, hB9⟩ : ∃ A, plen ps t = A := ⟨_, rfl⟩
          rw [hB9] at hst hpb ⊢
          have HST := Lib.hid hst
          clear hst
          clear hpk hpr hB9
          go_wp2_with fail
          go_roundw
          case rel => exact ⟨t + 1, by omega, by go_num, by rw [HST.out], exq⟩
          case measure => simp [intOf]; omega
        · obtain rfl : t = ps.length := by omega
          have h9 := HPS.out
          rw [h9]
          clear h9 hpb
          go_wp2_with fail
          go_ret
          exact ⟨rfl, HWV.out.trans exq⟩
end Go.Proofs.YtcickafaomfbmaaGreatDoor
