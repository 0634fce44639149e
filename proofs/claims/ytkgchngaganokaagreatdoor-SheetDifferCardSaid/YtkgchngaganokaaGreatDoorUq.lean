/-
  The law SheetDiffer: its walk.
-/
import Derived.Test.YtkgchngaganokaaGreatDoorUdS
import Derived.Test.YtkgchngaganokaaGreatDoorVwI
import Derived.Deep.DeepCutAuto
namespace Go.Proofs.YtkgchngaganokaaGreatDoor
open Go.RowKit Kr
set_option linter.unusedSimpArgs false
set_option linter.unusedVariables false

set_option maxRecDepth 4000 in
set_option maxHeartbeats 4000000 in
theorem l11_SheetDiffer_any (ka : Int) (ps : List (List Int × Value)) (va : Value) (kb : Int) (qs : List (List Int × Value)) (vb : Value) (row col tt : Int) (w : World) (hka : 0 ≤ ka ∧ ka ≤ 255) (ha : ListsAt w va ps) (hkb : 0 ≤ kb ∧ kb ≤ 255) (hb : ListsAt w vb qs) (hro : (Lit.int .u8 row).wf = true) (hco : (Lit.int .u8 col).wf = true) (hw : LibAt w) (hc : ColsAt w) :
    Calls Tryz.prog 8 #[.agg #[.int .u8 ka, va], .agg #[.int .u8 kb, vb], .int .u8 row, .int .u8 col, .int .i64 tt] w fun e w' => e = .returned (.bool true) ∧ w.Exts w' := by
  obtain ⟨q1, c1, hv1⟩ := ha.row.len
  obtain ⟨q2, c2, hv2⟩ := hb.row.len
  subst hv1 hv2
  obtain ⟨ra, BA, hF⟩ := front_of ka ps _ w hka ha hw hc
  obtain ⟨rb, BB, hG⟩ := front_of kb qs _ w hkb hb hw hc
  have hb1 := wfU8 hro
  have hb2 := wfU8 hco
  have hal := fun (W : World) (hE : w.Exts W) => hF.alive W hE
  have hra := fun (W : World) (hE : w.Exts W) => hF.ready W hE
  have hrb := fun (W : World) (hE : w.Exts W) => hG.ready W hE
  have HAL := Lib.hid hal
  clear hal
  have HRA := Lib.hid hra
  clear hra
  have HRB := Lib.hid hrb
  clear hrb
  cases ra
  · clear hF hG
    go_enter Tryz.func8, Tryz.ntmps8
    go_wp2_with (first
      | (go_at_call 9; refine (HAL.out _ exq).mono ?_; rintro e w' ⟨rfl, X19, rfl⟩)
      | (go_at_call 10; refine (HRA.out _ exq).mono ?_; rintro e w' ⟨rfl, X20, rfl⟩; clear HRA))
    go_ret
    exact ⟨rfl, exq⟩
  cases rb
  · clear hF hG
    go_enter Tryz.func8, Tryz.ntmps8
    go_wp2_with (first
      | (go_at_call 9; refine (HAL.out _ exq).mono ?_; rintro e w' ⟨rfl, X19, rfl⟩)
      | (go_at_call 10; refine (HRA.out _ exq).mono ?_; rintro e w' ⟨rfl, X20, rfl⟩; clear HRA)
      | (go_at_call 10; refine (HRB.out _ exq).mono ?_; rintro e w' ⟨rfl, X21, rfl⟩; clear HRB))
    go_ret
    exact ⟨rfl, exq⟩
  have sa := (hF.ok rfl).1
  have sb := (hG.ok rfl).1
  have hna := (hF.ok rfl).2
  have hnb := (hG.ok rfl).2
  rw [List.length_map] at hna hnb
  -- what is behind the comparisons
  have hpos := fun (x : List Int × Value) (hx : x ∈ ps) => (Written.nums ⟨sa⟩ x.1 (List.mem_map_of_mem hx))
  have htw := fun (h0 : 0 < ps.length) (W : World) (hE : w.Exts W) => r11_Twin_new ka ps _ W (ha.mono hE) (by omega) h0 (fun x hx => by have := (hpos x hx).2.1; omega)
  obtain ⟨z, hz⟩ : ∃ z, w.heap.size = z := ⟨_, rfl⟩
  by_cases hk : ka = kb
  rotate_left
  · have d1 := fun (W : World) (hE : w.Exts W) => sheet_Differ_any ka kb ps qs _ _ W (ha.mono hE) (hb.mono hE) hka hkb sa sb (by omega) (by omega)
    have d2 := fun (W : World) (hE : w.Exts W) => sheet_Differ_any kb ka qs ps _ _ W (hb.mono hE) (ha.mono hE) hkb hka sb sa (by omega) (by omega)
    have d3 := fun (W : World) (hE : w.Exts W) => sheet_Differ_any ka ka ps ps _ _ W (ha.mono hE) (ha.mono hE) hka hka sa sa (by omega) (by omega)
    have e1 : differR ka kb (ps.map Prod.fst) (qs.map Prod.fst) = ([], 2) := by unfold differR; rw [if_neg hk]
    have e2 : differR kb ka (qs.map Prod.fst) (ps.map Prod.fst) = ([], 2) := by unfold differR; rw [if_neg (Ne.symm hk)]
    have e3 : differR ka ka (ps.map Prod.fst) (ps.map Prod.fst) = ([], 0) := by unfold differR; rw [if_pos rfl, diff_self]
    rw [e1] at d1
    rw [e2] at d2
    rw [e3] at d3
    have nk : (ka == kb) = false := beq_eq_false_iff_ne.2 hk
    have hsm := fun (W : World) (v1 v2 : Value) (h1 : IsRow (fun x : Int => [.int .i64 x]) 1 W v1 []) (h2 : IsRow (fun x : Int => [.int .i64 x]) 1 W v2 []) => r01_SameInts_any [] v1 v2 W h1 h2
    have HD1 := Lib.hid d1
    clear d1
    have HD2 := Lib.hid d2
    clear d2
    have HD3 := Lib.hid d3
    clear d3
    have HSM := Lib.hid hsm
    clear hsm
    have HF := Lib.hid hF
    clear hF
    have HG := Lib.hid hG
    clear hG
    have HTW := Lib.hid htw
    clear htw
    have HPOS := Lib.hid hpos
    clear hpos
    have HA := Lib.hid ha
    have HSA := Lib.hid sa
    have HC := Lib.hid hc
    have HZ := Lib.hid hz
    clear e1 e2 e3 ha hb sa sb hk hz hc hw
    go_enter Tryz.func8, Tryz.ntmps8
    go_upto_region 7 with (first
      | (go_at_call 9; refine (HAL.out _ exq).mono ?_; rintro e w' ⟨rfl, X19, rfl⟩)
      | (go_at_call 10; refine (HRA.out _ exq).mono ?_; rintro e w' ⟨rfl, X20, rfl⟩; clear HRA)
        | (go_at_call 10; refine (HRB.out _ exq).mono ?_; rintro e w' ⟨rfl, X21, rfl⟩; clear HRB)
        | (go_at_call 21; refine (HD1.out _ exq).mono ?_; rintro e w' ⟨⟨X31, rfl⟩, v1, rfl, hr1⟩; obtain ⟨p1, l1, rfl⟩ := hr1.len; have HR1 := Lib.hid hr1; clear hr1 HD1)
        | (go_at_call 21; refine (HD2.out _ exq).mono ?_; rintro e w' ⟨⟨X32, rfl⟩, v2, rfl, hr2⟩; obtain ⟨p2, l2, rfl⟩ := hr2.len; have HR2 := Lib.hid hr2; clear hr2 HD2)
        | (go_at_call 21; refine (HD3.out _ exq).mono ?_; rintro e w' ⟨⟨X33, rfl⟩, v3, rfl, hr3⟩; obtain ⟨p3, l3, rfl⟩ := hr3.len; clear hr3 HD3))
    have g1 : IsRow (fun x : Int => [.int .i64 x]) 1 (World.ext (World.ext (World.ext (World.ext (World.ext (World.ext ((w.alloc (.cells #[.int .u8 ka, .slice q1 ps.length c1] 24)).alloc (.cells #[.int .u8 kb, .slice q2 qs.length c2] 24)) X19) X20) X21) X31) X32) X33) (.slice p1 0 l1) [] := HR1.out.mono exq
    have g2 : IsRow (fun x : Int => [.int .i64 x]) 1 (World.ext (World.ext (World.ext (World.ext (World.ext (World.ext ((w.alloc (.cells #[.int .u8 ka, .slice q1 ps.length c1] 24)).alloc (.cells #[.int .u8 kb, .slice q2 qs.length c2] 24)) X19) X20) X21) X31) X32) X33) (.slice p2 0 l2) [] := HR2.out.mono exq
    have g3 : LaysAs (World.ext (World.ext (World.ext (World.ext (World.ext (World.ext ((w.alloc (.cells #[.int .u8 ka, .slice q1 ps.length c1] 24)).alloc (.cells #[.int .u8 kb, .slice q2 qs.length c2] 24)) X19) X20) X21) X31) X32) X33) w.heap.size (.cells #[.int .u8 ka, .slice q1 ps.length c1] 24) := (laysAs_size w (.cells #[.int .u8 ka, .slice q1 ps.length c1] 24) rfl).exts exq
    have g4 : LaysAs (World.ext (World.ext (World.ext (World.ext (World.ext (World.ext ((w.alloc (.cells #[.int .u8 ka, .slice q1 ps.length c1] 24)).alloc (.cells #[.int .u8 kb, .slice q2 qs.length c2] 24)) X19) X20) X21) X31) X32) X33) (w.heap.size + 1) (.cells #[.int .u8 kb, .slice q2 qs.length c2] 24) := (laysAs_size (w.alloc (.cells #[.int .u8 ka, .slice q1 ps.length c1] 24)) (.cells #[.int .u8 kb, .slice q2 qs.length c2] 24) (by simp)).exts exq
    have hwV : w.Exts (World.ext (World.ext (World.ext (World.ext (World.ext (World.ext ((w.alloc (.cells #[.int .u8 ka, .slice q1 ps.length c1] 24)).alloc (.cells #[.int .u8 kb, .slice q2 qs.length c2] 24)) X19) X20) X21) X31) X32) X33) := exq
    obtain ⟨V, hV⟩ : ∃ W, World.ext (World.ext (World.ext (World.ext (World.ext (World.ext ((w.alloc (.cells #[.int .u8 ka, .slice q1 ps.length c1] 24)).alloc (.cells #[.int .u8 kb, .slice q2 qs.length c2] 24)) X19) X20) X21) X31) X32) X33 = W := ⟨_, rfl⟩
    rw [hV] at g1 g2 g3 g4 hwV
    rw [hV]
    clear hV HR1 HR2
    rw [HZ.out] at g3 g4
    rw [HZ.out]
    have b0 := LaysAs.cell g4 0 _ rfl
    have a0 := LaysAs.cell g3 0 _ rfl
    have la := Lays.of_cell a0
    have lb := Lays.of_cell b0
    have HG1 := Lib.hid g1
    clear g1
    have HG2 := Lib.hid g2
    clear g2
    have HB0 := Lib.hid g3
    clear g3
    have HB1 := Lib.hid g4
    clear g4
    go_upto_region 20 with (go_at_call 18; refine (HSM.out _ _ _ HG1.out HG2.out).mono ?_; rintro e w' ⟨rfl, X34, rfl⟩)
    have h3 := HB0.out.exts (w' := World.ext V X34) exq
    have hwV := hwV.trans (exq : V.Exts (World.ext V X34))
    obtain ⟨V9, hV9⟩ : ∃ W, World.ext V X34 = W := ⟨_, rfl⟩
    rw [hV9] at h3 hwV
    rw [hV9]
    clear HB0 HB1 HG1 HG2 hV9 a0 b0 la lb X34 HSM HG HF
    have HB0 := Lib.hid h3
    clear h3
    -- what stands behind the comparisons: V, hwV, HB0 (the box of a), HTW, HPOS, HA, HSA, HC
    have hbx := HB0.out
    have a0 := LaysAs.cell hbx 0 _ rfl
    have a1 := LaysAs.cell hbx 1 _ rfl
    have laz := Lays.of_cell a0
    clear hbx
    rcases Nat.eq_zero_or_pos ps.length with h0 | h0
    · have m1 : ((ps.length : Int) == 0) = true := by simp [h0]
      have HP0 := Lib.hid h0
      clear h0
      go_wp2_with fail
      go_ret
      exact ⟨rfl, hwV.trans exq⟩
    have m1 : ((ps.length : Int) == 0) = false := beq_eq_false_iff_ne.2 (by omega)
    obtain ⟨k, hkr, hkl⟩ : ∃ k : Nat, row.tmod (ps.length : Int) = (k : Int) ∧ k < ps.length := by
      have h1 := Int.emod_nonneg row (show (ps.length : Int) ≠ 0 by omega)
      have h2 := Int.emod_lt_of_pos row (show 0 < (ps.length : Int) by omega)
      refine ⟨(row % (ps.length : Int)).toNat, ?_, by omega⟩
      rw [Int.tmod_eq_emod_of_nonneg hb1.1]
      omega
    have htv := HTW.out h0
    have HTV := Lib.hid htv
    clear htv
    go_upto_region 24 with (go_at_call 22; refine (HTV.out _ (hwV.trans exq)).mono ?_; rintro e W1 ⟨v', L, rfl, hL, hLm, hE1, hN⟩; (obtain ⟨qv, cv, rfl⟩ := hL.row.len); have HL := Lib.hid hL; have HLM := Lib.hid hLm; have HE1 := Lib.hid hE1; have HN := Lib.hid hN; clear hL hLm hE1 hN)
    have hLl : L.length = ps.length := by
      have h := congrArg List.length HLM.out
      rwa [List.length_map, List.length_map] at h
    obtain ⟨x, hx⟩ := some_of_lt (xs := L) (k := k) (by omega)
    have hx1 : 0 < x.1.length ∧ x.1.length ≤ 5 := by
      have hxm : x.1 ∈ ps.map Prod.fst := by rw [← HLM.out]; exact List.mem_map_of_mem (List.mem_of_getElem? hx)
      obtain ⟨y, hy, e⟩ := List.mem_map.1 hxm
      have h := HPOS.out y hy
      rw [e] at h
      exact ⟨h.1, h.2.1⟩
    obtain ⟨j, hjr, hjl⟩ : ∃ j : Nat, col.tmod (x.1.length : Int) = (j : Int) ∧ j < x.1.length := by
      have h1 := Int.emod_nonneg col (show (x.1.length : Int) ≠ 0 by omega)
      have h2 := Int.emod_lt_of_pos col (show 0 < (x.1.length : Int) by omega)
      refine ⟨(col % (x.1.length : Int)).toNat, ?_, by omega⟩
      rw [Int.tmod_eq_emod_of_nonneg hb2.1]
      omega
    obtain ⟨g, cg, b, c, hqv, hck, hbz, hbW, hfr, hcj, hLs⟩ := twin_store HL.out HN.out hx hjl tt
    simp only [Value.slice.injEq, true_and] at hqv
    obtain ⟨rfl, rfl⟩ := hqv
    have lg := Lays.of_cell hck
    have lbb := Lays.of_cell hcj
    have hAk : (ps.map Prod.fst)[k]? = some x.1 := by rw [← HLM.out, List.getElem?_map, hx]; rfl
    have hCC : (L.set k (x.1.set j tt, x.2)).map Prod.fst = (ps.map Prod.fst).set k (x.1.set j tt) := by rw [List.map_set, HLM.out]
    have hLsl : (L.set k (x.1.set j tt, x.2)).length = L.length := List.length_set
    generalize L.set k (x.1.set j tt, x.2) = L2 at *
    obtain ⟨lx, hlx⟩ : ∃ n, x.1.length = n := ⟨_, rfl⟩
    rw [hlx] at hck hjr hjl hx1
    have m2 : (k : Int) < (L.length : Int) := by omega
    have m3 : (j : Int) < (lx : Int) := by omega
    have m4 : ¬ (lx : Int) = 0 := by omega
    have m5 : (lx : Int) ≤ 5 := by omega
    obtain ⟨CC, hCC2⟩ : ∃ l, (ps.map Prod.fst).set k (x.1.set j tt) = l := ⟨_, rfl⟩
    have hdf : ps.map Prod.fst ≠ CC → diffFrom 0 (ps.map Prod.fst) CC = [(k : Int)] := fun hne => by
      have h := diff_one (ps.map Prod.fst) 0 k (x.1.set j tt) (by rw [List.length_map]; exact hkl) (fun e => hne (by
        rw [← hCC2]
        have hk9 : k < (ps.map Prod.fst).length := by rw [List.length_map]; exact hkl
        have e2 := (List.getElem?_eq_some_iff.1 e).2
        rw [← e2]
        exact (List.set_getElem_self hk9).symm))
      rw [hCC2] at h
      simpa using h
    rw [hCC2] at hCC
    have HDF := Lib.hid hdf
    clear hdf
    have HCC := Lib.hid hCC
    clear hCC
    have HLS := Lib.hid hLs
    clear hLs
    have HLL2 := Lib.hid hLsl
    clear hLsl
    have HLL1 := Lib.hid hLl
    clear hLl
    clear hx hlx hAk hCC2 HL HLM HN
    refine wp_region_ext_tail 16 (by kernel_rfl) (by kernel_rfl) ?_
    simp only [List.take_succ_cons, List.take_zero, List.drop_succ_cons, List.drop_zero]
    repeat (go_big_quiet_step (fail))
    refine wpQuiet_nil ?_
    rintro _ ⟨X, rfl⟩
    go_upto_region 25 with fail
    have hEU : W1.Exts (World.ext (W1.alloc (.cells #[.int .u8 ka, .slice (some ⟨g, 0, none⟩) L.length cv] 24)) X) := exq
    have hbc := (laysAs_size W1 (.cells #[.int .u8 ka, .slice (some ⟨g, 0, none⟩) L.length cv] 24) rfl).exts (w' := World.ext (W1.alloc (.cells #[.int .u8 ka, .slice (some ⟨g, 0, none⟩) L.length cv] 24)) X) exq
    have hLc := HLS.out _ hEU
    have hzb : z ≠ b := by have := HB0.out.lt; omega
    have hba := laysAs_else (HB0.out.exts (HE1.out.trans hEU)) (a := ⟨b, j, none⟩) (fun e => hzb e.symm) (.int .i64 tt)
    have hbc2 := laysAs_else hbc (a := ⟨b, j, none⟩) (by dsimp only; omega) (.int .i64 tt)
    have hwS : w.Exts ((World.ext (W1.alloc (.cells #[.int .u8 ka, .slice (some ⟨g, 0, none⟩) L.length cv] 24)) X).setCell ⟨b, j, none⟩ (.int .i64 tt)) := World.Exts.setCell (hwV.trans (HE1.out.trans hEU)) (by have := hwV.size; dsimp only; omega) _
    obtain ⟨W3, hW3⟩ : ∃ W, (World.ext (W1.alloc (.cells #[.int .u8 ka, .slice (some ⟨g, 0, none⟩) L.length cv] 24)) X).setCell ⟨b, j, none⟩ (.int .i64 tt) = W := ⟨_, rfl⟩
    rw [hW3] at hLc hba hbc2 hwS
    rw [hW3]
    obtain ⟨B9, hB9⟩ : ∃ n, W1.heap.size = n := ⟨_, rfl⟩
    rw [hB9] at hbc2
    rw [hB9]
    clear hW3 hB9 hbc hEU hck hfr hcj a0 a1 laz lg lbb hbW
    have a0 := LaysAs.cell hba 0 _ rfl
    have a1 := LaysAs.cell hba 1 _ rfl
    have laz := Lays.of_cell a0
    have e0 := LaysAs.cell hbc2 0 _ rfl
    have e1 := LaysAs.cell hbc2 1 _ rfl
    have lez := Lays.of_cell e0
    have hl2 : L2.length = ps.length := by rw [HLL2.out]; exact HLL1.out
    have hsh := fun (W : World) (hE : W3.Exts W) => r11_Sheet_any ka L2 _ W (hLc.mono hE) (by omega) (HC.out.mono (hwS.trans hE)) hka
    have hsm := fun (W : World) (hE : W3.Exts W) => r11_Same_dec ka ps L2 _ _ W (HA.out.mono (hwS.trans hE)) (hLc.mono hE) hl2 (by omega)
    rw [HCC.out] at hsh hsm
    have hdi : sheetB ka CC = true → ps.map Prod.fst ≠ CC → ∀ W : World, W3.Exts W → Calls Tryz.prog 21 #[.agg #[.int .u8 ka, .slice q1 ps.length c1], .agg #[.int .u8 ka, .slice (some ⟨g, 0, none⟩) L.length cv]] W (DifferIs W [(k : Int)] 0) := fun hs hne W hE => by
      have h := sheet_Differ_any ka ka ps L2 _ _ W (HA.out.mono (hwS.trans hE)) (hLc.mono hE) hka hka HSA.out (by rw [HCC.out]; exact hs) (by omega) (by omega)
      have e3 : differR ka ka (ps.map Prod.fst) (L2.map Prod.fst) = ([(k : Int)], 0) := by unfold differR; rw [if_pos rfl, HCC.out, HDF.out hne]
      rw [e3] at h
      exact h
    have HSH := Lib.hid hsh
    clear hsh
    have HWS := Lib.hid hwS
    clear hwS
    clear hba hbc2 hLc
    cases hs : sheetB ka CC
    · rw [hs] at HSH
      clear hsm hdi hs
      go_wp2_with (go_at_call 23; refine (HSH.out _ exq).mono ?_; rintro e w' ⟨rfl, X41, rfl⟩)
      go_ret
      exact ⟨rfl, HWS.out.trans exq⟩
    rw [hs] at HSH
    by_cases hne : ps.map Prod.fst = CC
    · rw [decide_eq_true hne] at hsm
      have HSAM := Lib.hid hsm
      clear hsm
      clear hdi hs hne
      go_wp2_with (first
        | (go_at_call 23; refine (HSH.out _ exq).mono ?_; rintro e w' ⟨rfl, X41, rfl⟩)
        | (go_at_call 24; refine (HSAM.out _ exq).mono ?_; rintro e w' ⟨rfl, X42, rfl⟩))
      go_ret
      exact ⟨rfl, HWS.out.trans exq⟩
    rw [decide_eq_false hne] at hsm
    have hdi2 := hdi hs hne
    have HSAM := Lib.hid hsm
    clear hsm
    have HDI := Lib.hid hdi2
    clear hdi2
    clear hdi hs hne
    go_wp2_with (first
      | (go_at_call 23; refine (HSH.out _ exq).mono ?_; rintro e w' ⟨rfl, X41, rfl⟩)
      | (go_at_call 24; refine (HSAM.out _ exq).mono ?_; rintro e w' ⟨rfl, X42, rfl⟩)
      | (go_at_call 21; refine (HDI.out _ exq).mono ?_; rintro e w' ⟨⟨X43, rfl⟩, v9, rfl, hr9⟩; obtain ⟨p9, l9, rfl⟩ := hr9.len; have HR9 := Lib.hid hr9; clear hr9)
      | (go_at_call 18; refine (r01_SameInts_any [(k : Int)] _ _ _ (HR9.out.mono exq) (row_one _ _)).mono ?_; rintro e w' ⟨rfl, X44, rfl⟩))
    go_ret
    exact ⟨rfl, HWS.out.trans exq⟩
  subst hk
  obtain ⟨LL, hLL⟩ : ∃ l, diffFrom 0 (ps.map Prod.fst) (qs.map Prod.fst) = l := ⟨_, rfl⟩
  have d1 := fun (W : World) (hE : w.Exts W) => sheet_Differ_any ka ka ps qs _ _ W (ha.mono hE) (hb.mono hE) hka hka sa sb (by omega) (by omega)
  have d2 := fun (W : World) (hE : w.Exts W) => sheet_Differ_any ka ka qs ps _ _ W (hb.mono hE) (ha.mono hE) hka hka sb sa (by omega) (by omega)
  have d3 := fun (W : World) (hE : w.Exts W) => sheet_Differ_any ka ka ps ps _ _ W (ha.mono hE) (ha.mono hE) hka hka sa sa (by omega) (by omega)
  have e1 : differR ka ka (ps.map Prod.fst) (qs.map Prod.fst) = (LL, 0) := by unfold differR; rw [if_pos rfl, hLL]
  have e2 : differR ka ka (qs.map Prod.fst) (ps.map Prod.fst) = (LL, 0) := by unfold differR; rw [if_pos rfl, diff_sym, hLL]
  have e3 : differR ka ka (ps.map Prod.fst) (ps.map Prod.fst) = ([], 0) := by unfold differR; rw [if_pos rfl, diff_self]
  rw [e1] at d1
  rw [e2] at d2
  rw [e3] at d3
  have hsm := fun (W : World) (v1 v2 : Value) (h1 : IsRow (fun x : Int => [.int .i64 x]) 1 W v1 LL) (h2 : IsRow (fun x : Int => [.int .i64 x]) 1 W v2 LL) => r01_SameInts_any LL v1 v2 W h1 h2
  have hge := diff_ge (ps.map Prod.fst) (qs.map Prod.fst) 0
  have hri := diff_rises (ps.map Prod.fst) (qs.map Prod.fst) 0
  have hle := diff_least (ps.map Prod.fst) (qs.map Prod.fst) 0
  have hmo := diff_most (ps.map Prod.fst) (qs.map Prod.fst) 0
  have hni := diff_nil (ps.map Prod.fst) (qs.map Prod.fst) 0
  rw [hLL] at hge hri hle hmo hni
  rw [List.length_map, List.length_map] at hge hle hmo
  have htA := hF.text
  have htB := hG.text
  have hwj := fun (h1 : BA.size ≤ 1500) (h2 : BB.size ≤ 1500) => write_inj sa sb (by rw [← htA, tx_len]; exact h1) (by rw [← htB, tx_len]; exact h2)
  rw [← htA, ← htB] at hwj
  have hwa : ∃ SA ea, ((ea = 0 ∧ SA = BA ∧ BA.size ≤ 1500) ∨ ea = 9) ∧ ∀ W : World, w.Exts W → Calls Tryz.prog 11 #[.agg #[.int .u8 ka, .slice q1 ps.length c1]] W fun e w' => e = .returned (.tuple #[.string SA, .int .i64 ea]) ∧ W.Exts w' := by
    rcases Nat.lt_or_ge 1500 BA.size with h | h
    · exact ⟨_, 9, .inr rfl, hF.long rfl h⟩
    · exact ⟨_, 0, .inl ⟨rfl, rfl, h⟩, hF.short rfl h⟩
  have hwb : ∃ SB eb, ((eb = 0 ∧ SB = BB ∧ BB.size ≤ 1500) ∨ eb = 9) ∧ ∀ W : World, w.Exts W → Calls Tryz.prog 11 #[.agg #[.int .u8 ka, .slice q2 qs.length c2]] W fun e w' => e = .returned (.tuple #[.string SB, .int .i64 eb]) ∧ W.Exts w' := by
    rcases Nat.lt_or_ge 1500 BB.size with h | h
    · exact ⟨_, 9, .inr rfl, hG.long rfl h⟩
    · exact ⟨_, 0, .inl ⟨rfl, rfl, h⟩, hG.short rfl h⟩
  obtain ⟨SA, ea, hea, hwa⟩ := hwa
  obtain ⟨SB, eb, heb, hwb⟩ := hwb
  have HD1 := Lib.hid d1
  clear d1
  have HD2 := Lib.hid d2
  clear d2
  have HD3 := Lib.hid d3
  clear d3
  have HSM := Lib.hid hsm
  clear hsm
  have HTW := Lib.hid htw
  clear htw
  have HPOS := Lib.hid hpos
  clear hpos
  have HGE := Lib.hid hge
  clear hge
  have HRI := Lib.hid hri
  clear hri
  have HLE := Lib.hid hle
  clear hle
  have HMO := Lib.hid hmo
  clear hmo
  have HNI := Lib.hid hni
  clear hni
  have HWJ := Lib.hid hwj
  clear hwj
  have HWA := Lib.hid hwa
  clear hwa
  have HWB := Lib.hid hwb
  clear hwb
  have HEA := Lib.hid hea
  clear hea
  have HEB := Lib.hid heb
  clear heb
  have HA := Lib.hid ha
  have HSA := Lib.hid sa
  have HC := Lib.hid hc
  have HZ := Lib.hid hz
  clear hF hG e1 e2 e3 ha hb sa sb hz hc hw hLL htA htB
  go_enter Tryz.func8, Tryz.ntmps8
  go_upto_region 7 with (first
    | (go_at_call 9; refine (HAL.out _ exq).mono ?_; rintro e w' ⟨rfl, X19, rfl⟩)
    | (go_at_call 10; refine (HRA.out _ exq).mono ?_; rintro e w' ⟨rfl, X20, rfl⟩; clear HRA)
      | (go_at_call 10; refine (HRB.out _ exq).mono ?_; rintro e w' ⟨rfl, X21, rfl⟩; clear HRB)
      | (go_at_call 21; refine (HD1.out _ exq).mono ?_; rintro e w' ⟨⟨X31, rfl⟩, v1, rfl, hr1⟩; obtain ⟨p1, l1, rfl⟩ := hr1.len; have HR1 := Lib.hid hr1; clear hr1 HD1)
      | (go_at_call 21; refine (HD2.out _ exq).mono ?_; rintro e w' ⟨⟨X32, rfl⟩, v2, rfl, hr2⟩; obtain ⟨p2, l2, rfl⟩ := hr2.len; have HR2 := Lib.hid hr2; clear hr2 HD2)
      | (go_at_call 21; refine (HD3.out _ exq).mono ?_; rintro e w' ⟨⟨X33, rfl⟩, v3, rfl, hr3⟩; obtain ⟨p3, l3, rfl⟩ := hr3.len; clear hr3 HD3))
  have g1 : IsRow (fun x : Int => [.int .i64 x]) 1 (World.ext (World.ext (World.ext (World.ext (World.ext (World.ext ((w.alloc (.cells #[.int .u8 ka, .slice q1 ps.length c1] 24)).alloc (.cells #[.int .u8 ka, .slice q2 qs.length c2] 24)) X19) X20) X21) X31) X32) X33) (.slice p1 LL.length l1) LL := HR1.out.mono exq
  have g2 : IsRow (fun x : Int => [.int .i64 x]) 1 (World.ext (World.ext (World.ext (World.ext (World.ext (World.ext ((w.alloc (.cells #[.int .u8 ka, .slice q1 ps.length c1] 24)).alloc (.cells #[.int .u8 ka, .slice q2 qs.length c2] 24)) X19) X20) X21) X31) X32) X33) (.slice p2 LL.length l2) LL := HR2.out.mono exq
  have g3 : LaysAs (World.ext (World.ext (World.ext (World.ext (World.ext (World.ext ((w.alloc (.cells #[.int .u8 ka, .slice q1 ps.length c1] 24)).alloc (.cells #[.int .u8 ka, .slice q2 qs.length c2] 24)) X19) X20) X21) X31) X32) X33) w.heap.size (.cells #[.int .u8 ka, .slice q1 ps.length c1] 24) := (laysAs_size w (.cells #[.int .u8 ka, .slice q1 ps.length c1] 24) rfl).exts exq
  have g4 : LaysAs (World.ext (World.ext (World.ext (World.ext (World.ext (World.ext ((w.alloc (.cells #[.int .u8 ka, .slice q1 ps.length c1] 24)).alloc (.cells #[.int .u8 ka, .slice q2 qs.length c2] 24)) X19) X20) X21) X31) X32) X33) (w.heap.size + 1) (.cells #[.int .u8 ka, .slice q2 qs.length c2] 24) := (laysAs_size (w.alloc (.cells #[.int .u8 ka, .slice q1 ps.length c1] 24)) (.cells #[.int .u8 ka, .slice q2 qs.length c2] 24) (by simp)).exts exq
  have hwV : w.Exts (World.ext (World.ext (World.ext (World.ext (World.ext (World.ext ((w.alloc (.cells #[.int .u8 ka, .slice q1 ps.length c1] 24)).alloc (.cells #[.int .u8 ka, .slice q2 qs.length c2] 24)) X19) X20) X21) X31) X32) X33) := exq
  obtain ⟨V, hV⟩ : ∃ W, World.ext (World.ext (World.ext (World.ext (World.ext (World.ext ((w.alloc (.cells #[.int .u8 ka, .slice q1 ps.length c1] 24)).alloc (.cells #[.int .u8 ka, .slice q2 qs.length c2] 24)) X19) X20) X21) X31) X32) X33 = W := ⟨_, rfl⟩
  rw [hV] at g1 g2 g3 g4 hwV
  rw [hV]
  clear hV HR1 HR2
  rw [HZ.out] at g3 g4
  rw [HZ.out]
  have b0 := LaysAs.cell g4 0 _ rfl
  have a0 := LaysAs.cell g3 0 _ rfl
  have b1 := LaysAs.cell g4 1 _ rfl
  have a1 := LaysAs.cell g3 1 _ rfl
  have la := Lays.of_cell a0
  have lb := Lays.of_cell b0
  have HG1 := Lib.hid g1
  clear g1
  have HG2 := Lib.hid g2
  clear g2
  have HB0 := Lib.hid g3
  clear g3
  have HB1 := Lib.hid g4
  clear g4
  go_upto_if 97 with (go_at_call 18; refine (HSM.out _ _ _ HG1.out HG2.out).mono ?_; rintro e w' ⟨rfl, X34, rfl⟩)
  go_cut [] (fun wx => V.Exts wx)
  case first =>
    obtain ⟨p9, bl, ol, cl, hqe, hml, hq, hc2⟩ := HG1.out.ex
    simp only [Value.slice.injEq, true_and] at hqe
    obtain ⟨rfl, rfl⟩ := hqe
    have HQ := Lib.hid hq
    clear hq
    have HC2 := Lib.hid hc2
    clear hc2
    obtain ⟨mx, hmx⟩ : ∃ mx : Nat, max ps.length qs.length = mx := ⟨_, rfl⟩
    obtain ⟨mn, hmn⟩ : ∃ mn : Nat, min ps.length qs.length = mn := ⟨_, rfl⟩
    have m1 : max (ps.length : Int) (qs.length : Int) = (mx : Int) := by omega
    have m2 : min (ps.length : Int) (qs.length : Int) = (mn : Int) := by omega
    have hle := HLE.out
    have hmo := HMO.out
    rw [hmx] at hmo
    rw [hmx, hmn] at hle
    obtain ⟨dm, hdm⟩ : ∃ dm : Nat, mx - mn = dm := ⟨_, rfl⟩
    have m3 : (mx : Int) - (mn : Int) = (dm : Int) := by omega
    have m4 : (dm : Int) ≤ (LL.length : Int) := by omega
    have m5 : (LL.length : Int) ≤ 96 := by omega
    have m6 : (mx : Int) ≤ 96 := by omega
    clear hle hmo hdm
    go_wp2_with fail
    go_loopw [18, 19, 100] (fun _ _ ix wr => ∃ t : Nat, t ≤ LL.length ∧ ix = .int .i64 t ∧ V.Exts wr) (fun _ _ ix _ => LL.length - (intOf ix).toNat)
    case atStart => exact ⟨0, Nat.zero_le _, rfl, exq⟩
    case round =>
      obtain ⟨t, ht, rfl, X35, rfl⟩ := hrel
      rcases Nat.lt_or_ge t LL.length with hlt1 | hge1
      · obtain ⟨rfl, hlb⟩ := HQ.out (by omega)
        obtain ⟨x, hx⟩ := some_of_lt hlt1
        have c0 := HC2.out t x hx 0 _ rfl
        simp only [Nat.mul_one, Nat.add_zero] at c0
        have lbl := Lays.of_cell c0
        have hxm := HGE.out x (List.mem_of_getElem? hx)
        have n1 : (t : Int) < (LL.length : Int) := by omega
        have n2 : 0 ≤ x := by omega
        have n3 : x < (mx : Int) := by omega
        rcases Nat.eq_zero_or_pos t with h0 | h0
        · subst h0
          rw [Nat.add_zero] at c0
          clear hx hxm
          go_wp2_with fail
          go_roundw
          case rel => exact ⟨1, by omega, by first | rfl | go_num, exq⟩
          case measure => simp [intOf]; omega
        · obtain ⟨t0, ht0⟩ : ∃ t0, t0 + 1 = t := ⟨t - 1, by omega⟩
          obtain ⟨y, hy⟩ := some_of_lt (xs := LL) (k := t0) (by omega)
          have c1 := HC2.out t0 y hy 0 _ rfl
          simp only [Nat.mul_one, Nat.add_zero] at c1
          have n4 : y < x := by
            have h := List.pairwise_iff_getElem.1 HRI.out t0 t (by omega) hlt1 (by omega)
            rwa [(List.getElem?_eq_some_iff.1 hy).2, (List.getElem?_eq_some_iff.1 hx).2] at h
          have n5 : (t : Int) - 1 = (t0 : Int) := by omega
          have n6 : (0 : Int) < (t : Int) := by omega
          have n7 : (t0 : Int) < (LL.length : Int) := by omega
          clear hx hxm hy ht0
          go_wp2_with fail
          go_roundw
          case rel => exact ⟨t + 1, by omega, by go_num, exq⟩
          case measure => simp [intOf]; omega
      · have n1 : ¬ (t : Int) < (LL.length : Int) := by omega
        have hWA := fun (W : World) (hE : V.Exts W) => HWA.out W (hwV.trans hE)
        have hWB := fun (W : World) (hE : V.Exts W) => HWB.out W (hwV.trans hE)
        have HWA1 := Lib.hid hWA
        clear hWA
        have HWB1 := Lib.hid hWB
        clear hWB
        clear HWA HWB HQ HC2 HGE HRI HLE HMO HG1 HG2 HSM HTW HPOS HA HSA HC
        rcases HEA.out with ⟨rfl, rfl, hza⟩ | rfl
        · rcases HEB.out with ⟨rfl, rfl, hzb⟩ | rfl
          · have hw9 := HWJ.out hza hzb
            by_cases hll : LL = []
            · have hAB := HNI.out.1 hll
              have hBB := tx_inj (hw9.2 hAB)
              subst hBB
              have n2 : ((LL.length : Int) == 0) = true := by rw [hll]; rfl
              have HLN := Lib.hid hll
              clear hll
              clear hw9 hAB HWJ HEA HEB HNI hza hzb
              go_wp2_with (first
                | (go_at_call 11; (with_reducible refine (HWA1.out _ ?hwa).mono ?_); (case hwa => exact exq); rintro e w' ⟨rfl, X37, rfl⟩; clear HWA1)
                | (go_at_call 11; (with_reducible refine (HWB1.out _ ?hwb).mono ?_); (case hwb => exact exq); rintro e w' ⟨rfl, X38, rfl⟩; clear HWB1))
              go_meet
              exact exq
            · have hBB : ¬ SA.toList = SB.toList := fun e => hll (HNI.out.2 (hw9.1 (by rw [← Lib.toList_data, ← Lib.toList_data]; exact e)))
              have hBC : (SA.toList == SB.toList) = false := beq_eq_false_iff_ne.2 hBB
              have n2 : ((LL.length : Int) == 0) = false := by
                rw [beq_eq_false_iff_ne]
                intro e
                exact hll (List.eq_nil_of_length_eq_zero (by omega))
              clear hw9 HWJ HEA HEB HNI hza hzb hll
              go_wp2_with (first
                | (go_at_call 11; (with_reducible refine (HWA1.out _ ?hwa).mono ?_); (case hwa => exact exq); rintro e w' ⟨rfl, X37, rfl⟩; clear HWA1)
                | (go_at_call 11; (with_reducible refine (HWB1.out _ ?hwb).mono ?_); (case hwb => exact exq); rintro e w' ⟨rfl, X38, rfl⟩; clear HWB1))
              go_meet
              exact exq
          · clear HWJ HEA HEB HNI hza
            go_wp2_with (first
              | (go_at_call 11; (with_reducible refine (HWA1.out _ ?hwa).mono ?_); (case hwa => exact exq); rintro e w' ⟨rfl, X37, rfl⟩; clear HWA1)
              | (go_at_call 11; (with_reducible refine (HWB1.out _ ?hwb).mono ?_); (case hwb => exact exq); rintro e w' ⟨rfl, X38, rfl⟩; clear HWB1))
            go_meet
            exact exq
        · clear HWJ HEA HNI
          go_wp2_with (first
            | (go_at_call 11; (with_reducible refine (HWA1.out _ ?hwa).mono ?_); (case hwa => exact exq); rintro e w' ⟨rfl, X37, rfl⟩; clear HWA1)
            | (go_at_call 11; (with_reducible refine (HWB1.out _ ?hwb).mono ?_); (case hwb => exact exq); rintro e w' ⟨rfl, X38, rfl⟩; clear HWB1))
          go_meet
          exact exq
  case rest =>
    have h3 := HB0.out.exts hcut
    have hwV := hwV.trans hcut
    clear HB0 HB1 HG1 HG2 a0 b0 a1 b1 la lb HSM HGE HRI HLE HMO HNI HWJ HWA HWB HEA HEB hcut
    have HB0 := Lib.hid h3
    clear h3
    -- what stands behind the comparisons: V, hwV, HB0 (the box of a), HTW, HPOS, HA, HSA, HC
    have hbx := HB0.out
    have a0 := LaysAs.cell hbx 0 _ rfl
    have a1 := LaysAs.cell hbx 1 _ rfl
    have laz := Lays.of_cell a0
    clear hbx
    rcases Nat.eq_zero_or_pos ps.length with h0 | h0
    · have m1 : ((ps.length : Int) == 0) = true := by simp [h0]
      have HP0 := Lib.hid h0
      clear h0
      go_wp2_with fail
      go_ret
      exact ⟨rfl, hwV.trans exq⟩
    have m1 : ((ps.length : Int) == 0) = false := beq_eq_false_iff_ne.2 (by omega)
    obtain ⟨k, hkr, hkl⟩ : ∃ k : Nat, row.tmod (ps.length : Int) = (k : Int) ∧ k < ps.length := by
      have h1 := Int.emod_nonneg row (show (ps.length : Int) ≠ 0 by omega)
      have h2 := Int.emod_lt_of_pos row (show 0 < (ps.length : Int) by omega)
      refine ⟨(row % (ps.length : Int)).toNat, ?_, by omega⟩
      rw [Int.tmod_eq_emod_of_nonneg hb1.1]
      omega
    have htv := HTW.out h0
    have HTV := Lib.hid htv
    clear htv
    go_upto_region 24 with (go_at_call 22; refine (HTV.out _ (hwV.trans exq)).mono ?_; rintro e W1 ⟨v', L, rfl, hL, hLm, hE1, hN⟩; (obtain ⟨qv, cv, rfl⟩ := hL.row.len); have HL := Lib.hid hL; have HLM := Lib.hid hLm; have HE1 := Lib.hid hE1; have HN := Lib.hid hN; clear hL hLm hE1 hN)
    have hLl : L.length = ps.length := by
      have h := congrArg List.length HLM.out
      rwa [List.length_map, List.length_map] at h
    obtain ⟨x, hx⟩ := some_of_lt (xs := L) (k := k) (by omega)
    have hx1 : 0 < x.1.length ∧ x.1.length ≤ 5 := by
      have hxm : x.1 ∈ ps.map Prod.fst := by rw [← HLM.out]; exact List.mem_map_of_mem (List.mem_of_getElem? hx)
      obtain ⟨y, hy, e⟩ := List.mem_map.1 hxm
      have h := HPOS.out y hy
      rw [e] at h
      exact ⟨h.1, h.2.1⟩
    obtain ⟨j, hjr, hjl⟩ : ∃ j : Nat, col.tmod (x.1.length : Int) = (j : Int) ∧ j < x.1.length := by
      have h1 := Int.emod_nonneg col (show (x.1.length : Int) ≠ 0 by omega)
      have h2 := Int.emod_lt_of_pos col (show 0 < (x.1.length : Int) by omega)
      refine ⟨(col % (x.1.length : Int)).toNat, ?_, by omega⟩
      rw [Int.tmod_eq_emod_of_nonneg hb2.1]
      omega
    obtain ⟨g, cg, b, c, hqv, hck, hbz, hbW, hfr, hcj, hLs⟩ := twin_store HL.out HN.out hx hjl tt
    simp only [Value.slice.injEq, true_and] at hqv
    obtain ⟨rfl, rfl⟩ := hqv
    have lg := Lays.of_cell hck
    have lbb := Lays.of_cell hcj
    have hAk : (ps.map Prod.fst)[k]? = some x.1 := by rw [← HLM.out, List.getElem?_map, hx]; rfl
    have hCC : (L.set k (x.1.set j tt, x.2)).map Prod.fst = (ps.map Prod.fst).set k (x.1.set j tt) := by rw [List.map_set, HLM.out]
    have hLsl : (L.set k (x.1.set j tt, x.2)).length = L.length := List.length_set
    generalize L.set k (x.1.set j tt, x.2) = L2 at *
    obtain ⟨lx, hlx⟩ : ∃ n, x.1.length = n := ⟨_, rfl⟩
    rw [hlx] at hck hjr hjl hx1
    have m2 : (k : Int) < (L.length : Int) := by omega
    have m3 : (j : Int) < (lx : Int) := by omega
    have m4 : ¬ (lx : Int) = 0 := by omega
    have m5 : (lx : Int) ≤ 5 := by omega
    obtain ⟨CC, hCC2⟩ : ∃ l, (ps.map Prod.fst).set k (x.1.set j tt) = l := ⟨_, rfl⟩
    have hdf : ps.map Prod.fst ≠ CC → diffFrom 0 (ps.map Prod.fst) CC = [(k : Int)] := fun hne => by
      have h := diff_one (ps.map Prod.fst) 0 k (x.1.set j tt) (by rw [List.length_map]; exact hkl) (fun e => hne (by
        rw [← hCC2]
        have hk9 : k < (ps.map Prod.fst).length := by rw [List.length_map]; exact hkl
        have e2 := (List.getElem?_eq_some_iff.1 e).2
        rw [← e2]
        exact (List.set_getElem_self hk9).symm))
      rw [hCC2] at h
      simpa using h
    rw [hCC2] at hCC
    have HDF := Lib.hid hdf
    clear hdf
    have HCC := Lib.hid hCC
    clear hCC
    have HLS := Lib.hid hLs
    clear hLs
    have HLL2 := Lib.hid hLsl
    clear hLsl
    have HLL1 := Lib.hid hLl
    clear hLl
    clear hx hlx hAk hCC2 HL HLM HN
    refine wp_region_ext_tail 16 (by kernel_rfl) (by kernel_rfl) ?_
    simp only [List.take_succ_cons, List.take_zero, List.drop_succ_cons, List.drop_zero]
    repeat (go_big_quiet_step (fail))
    refine wpQuiet_nil ?_
    rintro _ ⟨X, rfl⟩
    go_upto_region 25 with fail
    have hEU : W1.Exts (World.ext (W1.alloc (.cells #[.int .u8 ka, .slice (some ⟨g, 0, none⟩) L.length cv] 24)) X) := exq
    have hbc := (laysAs_size W1 (.cells #[.int .u8 ka, .slice (some ⟨g, 0, none⟩) L.length cv] 24) rfl).exts (w' := World.ext (W1.alloc (.cells #[.int .u8 ka, .slice (some ⟨g, 0, none⟩) L.length cv] 24)) X) exq
    have hLc := HLS.out _ hEU
    have hzb : z ≠ b := by have := HB0.out.lt; omega
    have hba := laysAs_else (HB0.out.exts (HE1.out.trans hEU)) (a := ⟨b, j, none⟩) (fun e => hzb e.symm) (.int .i64 tt)
    have hbc2 := laysAs_else hbc (a := ⟨b, j, none⟩) (by dsimp only; omega) (.int .i64 tt)
    have hwS : w.Exts ((World.ext (W1.alloc (.cells #[.int .u8 ka, .slice (some ⟨g, 0, none⟩) L.length cv] 24)) X).setCell ⟨b, j, none⟩ (.int .i64 tt)) := World.Exts.setCell (hwV.trans (HE1.out.trans hEU)) (by have := hwV.size; dsimp only; omega) _
    obtain ⟨W3, hW3⟩ : ∃ W, (World.ext (W1.alloc (.cells #[.int .u8 ka, .slice (some ⟨g, 0, none⟩) L.length cv] 24)) X).setCell ⟨b, j, none⟩ (.int .i64 tt) = W := ⟨_, rfl⟩
    rw [hW3] at hLc hba hbc2 hwS
    rw [hW3]
    obtain ⟨B9, hB9⟩ : ∃ n, W1.heap.size = n := ⟨_, rfl⟩
    rw [hB9] at hbc2
    rw [hB9]
    clear hW3 hB9 hbc hEU hck hfr hcj a0 a1 laz lg lbb hbW
    have a0 := LaysAs.cell hba 0 _ rfl
    have a1 := LaysAs.cell hba 1 _ rfl
    have laz := Lays.of_cell a0
    have e0 := LaysAs.cell hbc2 0 _ rfl
    have e1 := LaysAs.cell hbc2 1 _ rfl
    have lez := Lays.of_cell e0
    have hl2 : L2.length = ps.length := by rw [HLL2.out]; exact HLL1.out
    have hsh := fun (W : World) (hE : W3.Exts W) => r11_Sheet_any ka L2 _ W (hLc.mono hE) (by omega) (HC.out.mono (hwS.trans hE)) hka
    have hsm := fun (W : World) (hE : W3.Exts W) => r11_Same_dec ka ps L2 _ _ W (HA.out.mono (hwS.trans hE)) (hLc.mono hE) hl2 (by omega)
    rw [HCC.out] at hsh hsm
    have hdi : sheetB ka CC = true → ps.map Prod.fst ≠ CC → ∀ W : World, W3.Exts W → Calls Tryz.prog 21 #[.agg #[.int .u8 ka, .slice q1 ps.length c1], .agg #[.int .u8 ka, .slice (some ⟨g, 0, none⟩) L.length cv]] W (DifferIs W [(k : Int)] 0) := fun hs hne W hE => by
      have h := sheet_Differ_any ka ka ps L2 _ _ W (HA.out.mono (hwS.trans hE)) (hLc.mono hE) hka hka HSA.out (by rw [HCC.out]; exact hs) (by omega) (by omega)
      have e3 : differR ka ka (ps.map Prod.fst) (L2.map Prod.fst) = ([(k : Int)], 0) := by unfold differR; rw [if_pos rfl, HCC.out, HDF.out hne]
      rw [e3] at h
      exact h
    have HSH := Lib.hid hsh
    clear hsh
    have HWS := Lib.hid hwS
    clear hwS
    clear hba hbc2 hLc
    cases hs : sheetB ka CC
    · rw [hs] at HSH
      clear hsm hdi hs
      go_wp2_with (go_at_call 23; refine (HSH.out _ exq).mono ?_; rintro e w' ⟨rfl, X41, rfl⟩)
      go_ret
      exact ⟨rfl, HWS.out.trans exq⟩
    rw [hs] at HSH
    by_cases hne : ps.map Prod.fst = CC
    · rw [decide_eq_true hne] at hsm
      have HSAM := Lib.hid hsm
      clear hsm
      clear hdi hs hne
      go_wp2_with (first
        | (go_at_call 23; refine (HSH.out _ exq).mono ?_; rintro e w' ⟨rfl, X41, rfl⟩)
        | (go_at_call 24; refine (HSAM.out _ exq).mono ?_; rintro e w' ⟨rfl, X42, rfl⟩))
      go_ret
      exact ⟨rfl, HWS.out.trans exq⟩
    rw [decide_eq_false hne] at hsm
    have hdi2 := hdi hs hne
    have HSAM := Lib.hid hsm
    clear hsm
    have HDI := Lib.hid hdi2
    clear hdi2
    clear hdi hs hne
    go_wp2_with (first
      | (go_at_call 23; refine (HSH.out _ exq).mono ?_; rintro e w' ⟨rfl, X41, rfl⟩)
      | (go_at_call 24; refine (HSAM.out _ exq).mono ?_; rintro e w' ⟨rfl, X42, rfl⟩)
      | (go_at_call 21; refine (HDI.out _ exq).mono ?_; rintro e w' ⟨⟨X43, rfl⟩, v9, rfl, hr9⟩; obtain ⟨p9, l9, rfl⟩ := hr9.len; have HR9 := Lib.hid hr9; clear hr9)
      | (go_at_call 18; refine (r01_SameInts_any [(k : Int)] _ _ _ (HR9.out.mono exq) (row_one _ _)).mono ?_; rintro e w' ⟨rfl, X44, rfl⟩))
    go_ret
    exact ⟨rfl, HWS.out.trans exq⟩
end Go.Proofs.YtkgchngaganokaaGreatDoor
