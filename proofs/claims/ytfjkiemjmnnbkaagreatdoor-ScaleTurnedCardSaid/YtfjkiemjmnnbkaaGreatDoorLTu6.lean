/-
  The law ScaleTurned: its walk.
-/
import Derived.Test.YtfjkiemjmnnbkaaGreatDoorLTu2
namespace Go.Proofs.YtfjkiemjmnnbkaaGreatDoor
open Go.RowKit Kr
set_option linter.unusedSimpArgs false

set_option maxRecDepth 100000 in
set_option maxHeartbeats 8000000 in
theorem l04u_any_last : l04u_any_c5.val := by
  intro ts g n turn more w htb hmb q0 cp0 q1 cp1 q2 cp2 q3 cp3 HB HL HR HS HWF HCD hg1 hg3 hg4 hg5 HRD HGA HG2 HN HCK i9_1_1 A hwA a0 g0 g1 g2 g3 g4 g5 g6 g7 m0 m1 m2 m3 m4 m5 m6 l1 l2 l3 ν W ts' p4 p5 b1 b2 b3 qS cS qL cL qR cR qK cK HTS i9_1_2 V HIDS HLDS HSL htl i9_3_1 u14 u53 u54 u55 u56 u57 u58 u59 u60 u61 u62 u63 u64 u65 u66 i9_3_2 i9_2_1 i9_2_2 i9_2_3 i9_2_4 i9_4_1 u15 u71 u72 u73 u74 u75 u76 u77 u78 u79 u80 u81 u82 u83 u84 u85 u86 u87 u88 u89 u90 u91 u92 u93 u94 u95 u96 u97 u98 u99 u100 i9_4_2 i9_3_3 i9_3_4 i9_3_5 i9_3_6 i9_5_1 u16 u105 u106 u107 u108 u109 u110 u111 u112 u113 u114 u115 u116 u117 u118 u119 u120 u121 u122 u123 i9_5_2 i9_4_3 i9_4_4 i9_4_5 i9_4_6 wr u17 u128 u129 u130 u131 u132 u133 u134 u135 u136 u137 u138 u139 u140 u141 u142 u143 u144 u145 u146 k HTU i9_5_3 i9_5_4 i9_5_5 i9_5_6 i9_5_7 i9_5_8 i9_5_9
  have hT := HTU.out
  have hEV := hT.ext
  have hwV := hwA.trans hEV
  have hbV := hT.bay
  obtain ⟨hlV, hrV, hsV⟩ := hT.gear
  have d4 := LaysAs.cell hT.o4 0 _ rfl
  have d50 := LaysAs.cell hT.o5 0 _ rfl
  have d51 := LaysAs.cell hT.o5 1 _ rfl
  have d52 := LaysAs.cell hT.o5 2 _ rfl
  have d53 := LaysAs.cell hT.o5 3 _ rfl
  have d54 := LaysAs.cell hT.o5 4 _ rfl
  have d55 := LaysAs.cell hT.o5 5 _ rfl
  have d56 := LaysAs.cell hT.o5 6 _ rfl
  have d57 := LaysAs.cell hT.o5 7 _ rfl
  have a0' := hEV.cell a0
  have g0' := hEV.cell g0
  have g1' := hEV.cell g1
  have g2' := hEV.cell g2
  have g3' := hEV.cell g3
  have g4' := hEV.cell g4
  have g5' := hEV.cell g5
  have g6' := hEV.cell g6
  have g7' := hEV.cell g7
  have m0' := hEV.cell m0
  have m1' := hEV.cell m1
  have m2' := hEV.cell m2
  have m3' := hEV.cell m3
  have m4' := hEV.cell m4
  have m5' := hEV.cell m5
  have m6' := hEV.cell m6
  clear a0 g0 g1 g2 g3 g4 g5 g6 g7 m0 m1 m2 m3 m4 m5 m6 l1 l2 l3
  have n1 := Lays.of_cell a0'
  have n2 := Lays.of_cell g0'
  have n3 := Lays.of_cell m0'
  have n4 := Lays.of_cell d4
  have n5 := Lays.of_cell d50
  have hmap : (ts'.map (mvX more)).map Prod.fst = (ts.map Prod.fst).map (mvS more) := by rw [← HTS.out, List.map_map, List.map_map]; rfl
  have hgV : GearAt wr (turnG turn.toNat more g, .slice qL g.loads.length cL, .slice qR g.runners.length cR, .slice qK g.strokes.length cK) := by
    refine ⟨hlV, hrV, hsV, ⟨?_, ?_⟩, fun l hl => ?_⟩
    · show (turnL turn.toNat g.runners).length ≤ 1000
      rw [turnL_len]; omega
    · show (turnL turn.toNat g.strokes).length ≤ 1000
      rw [turnL_len]; omega
    · obtain ⟨y, hy, rfl⟩ := List.mem_map.1 hl
      have := HLDS.out y ((turnL_perm _ _).mem_iff.2 hy)
      have h2 : -9223372036854775808 ≤ y.scale + more ∧ y.scale + more ≤ 9223372036854775807 := by omega
      show (Lit.int .i64 (y.scale + more)).wf = true
      simp only [Lit.wf, Bool.and_eq_true, decide_eq_true_eq]
      exact h2
  have hrdy := fun (W : World) (hE : wr.Exts W) => l04_ready_any (ts'.map (mvX more)) _ (turnG turn.toNat more g) _ _ _ W (hbV.mono hE) (hlV.mono hE) (hrV.mono hE) (hsV.mono hE)
  cases hrd2 : readyB (ts'.map (mvX more)) (turnG turn.toNat more g)
  case false =>
    as_aux_lemma =>
    rw [hrd2] at hrdy
    dsimp only [turnG] at hrdy
    have HRDY := Lib.hid hrdy
    clear hrdy
    clear hrd2 hT hbV hlV hrV hsV hgV hmap HTU
    go_wp2_with (go_at_call 22; refine (HRDY.out _ exq).mono ?_; rintro e w' ⟨rfl, X5, rfl⟩)
    go_ret
    exact ⟨rfl, (exf hwV)⟩
  rw [hrd2] at hrdy
  obtain ⟨-, hck2⟩ := ready_parts hrd2
  rw [hmap] at hck2
  have T1 := fun (W : World) (hE : wr.Exts W) => scale_Totals_any ts _ g _ _ _ W (HB.out.mono (hwV.trans hE)) (HGA.out.mono (hwV.trans hE))
  have T2 := fun (W : World) (hE : wr.Exts W) => scale_Totals_any (ts'.map (mvX more)) _ (turnG turn.toNat more g) _ _ _ W (hbV.mono hE) (hgV.mono hE)
  have J1 := fun (W : World) (hE : wr.Exts W) => scale_Judge_any ts _ g _ _ _ n W (HB.out.mono (hwV.trans hE)) (HGA.out.mono (hwV.trans hE)) (HCD.out.mono (hwV.trans hE))
  have J2 := fun (W : World) (hE : wr.Exts W) => scale_Judge_any (ts'.map (mvX more)) _ (turnG turn.toNat more g) _ _ _ n W (hbV.mono hE) (hgV.mono hE) (HCD.out.mono (hwV.trans hE))
  have H1 := fun (W : World) (hE : wr.Exts W) => scale_Hard_any g _ _ _ W (HGA.out.mono (hwV.trans hE))
  have H2 := fun (W : World) (hE : wr.Exts W) => scale_Hard_any (turnG turn.toNat more g) _ _ _ W (hgV.mono hE)
  rw [hmap] at T2 J2
  rw [turn_totalsR HCK.out hck2] at T2
  rw [turn_judge HCK.out hck2] at J2
  rw [turn_hard HCK.out hck2] at H2
  dsimp only [turnG] at hrdy T2 J2 H2
  generalize totalsR (ts.map Prod.fst) g = tr at T1 T2
  generalize judgeR (ts.map Prod.fst) g n = jr at J1 J2
  generalize hard g = hd at H1 H2
  obtain ⟨tl, te⟩ := tr
  obtain ⟨⟨pl, pw⟩, pe⟩ := jr
  obtain ⟨⟨hlo, hhi⟩, he⟩ := hd
  dsimp only at T1 T2 J1 J2 H1 H2
  have HRDY := Lib.hid hrdy
  clear hrdy
  have HT1 := Lib.hid T1
  clear T1
  have HT2 := Lib.hid T2
  clear T2
  have HJ1 := Lib.hid J1
  clear J1
  have HJ2 := Lib.hid J2
  clear J2
  have HH1 := Lib.hid H1
  clear H1
  have HH2 := Lib.hid H2
  clear H2
  clear hrd2 hT hbV hlV hrV hsV hgV hmap HTU hck2
  go_wp2_with (first
    | (go_at_call 22; refine (HRDY.out _ exq).mono ?_; rintro e w' ⟨rfl, X5, rfl⟩)
    | (go_at_call 29; ((with_reducible refine (HT1.out _ ?h1).mono ?_); (case h1 => exact exq)); rintro e w' ⟨v1, rfl, hv1, X6, rfl⟩; (obtain ⟨qv1, cv1, rfl⟩ := hv1.len); (have HV1 := Lib.hid hv1); clear hv1)
    | (go_at_call 29; ((with_reducible refine (HT2.out _ ?h2).mono ?_); (case h2 => exact exq)); rintro e w' ⟨v2, rfl, hv2, X7, rfl⟩; (obtain ⟨qv2, cv2, rfl⟩ := hv2.len); (have HV2 := Lib.hid hv2); clear hv2)
    | (go_at_call 32; ((with_reducible refine (HJ1.out _ ?h3).mono ?_); (case h3 => exact exq)); rintro e w' ⟨v3, rfl, hv3, X8, rfl⟩; (obtain ⟨qv3, cv3, rfl⟩ := hv3.len); (have HV3 := Lib.hid hv3); clear hv3)
    | (go_at_call 32; ((with_reducible refine (HJ2.out _ ?h4).mono ?_); (case h4 => exact exq)); rintro e w' ⟨v4, rfl, hv4, X9, rfl⟩; (obtain ⟨qv4, cv4, rfl⟩ := hv4.len); (have HV4 := Lib.hid hv4); clear hv4)
    | (go_at_call 31; ((with_reducible refine (HH1.out _ ?h5).mono ?_); (case h5 => exact exq)); rintro e w' ⟨rfl, X10, rfl⟩)
    | (go_at_call 31; ((with_reducible refine (HH2.out _ ?h6).mono ?_); (case h6 => exact exq)); rintro e w' ⟨rfl, X11, rfl⟩)
    | (go_at_call 48; refine (r04_SameSpans_any tl _ _ _ (HV1.out.mono exq) (HV2.out.mono exq)).mono ?_; rintro e w' ⟨rfl, X12, rfl⟩)
    | (go_at_call 49; refine (r04_SameBytes_any pl _ _ _ (HV3.out.mono exq) (HV4.out.mono exq)).mono ?_; rintro e w' ⟨rfl, X13, rfl⟩))
  go_ret
  exact ⟨rfl, (exf hwV)⟩
theorem l04u_any (ts : List (Kr.Scale × Value)) (v : Value) (g : Gear) (lv rv sv : Value) (n : Norm) (turn more : Int) (w : World) (hrow : BayAt w v ts)
    (hl : IsRow (fun t : Kr.Load => [.int .i64 t.scale, .int .i64 t.shown]) 2 w lv g.loads) (hr : IsRow (fun x : Int => [.int .i64 x]) 1 w rv g.runners) (hs : IsRow (fun x : Int => [.int .i64 x]) 1 w sv g.strokes) (hwf : ∀ l ∈ g.loads, (Lit.int .i64 l.scale).wf = true) (ht : (Lit.int .u8 turn).wf = true) (hm : (Lit.int .u8 more).wf = true) (hcd : CondsAt w) :
    Calls Tryz.prog 10 #[.agg #[v], .agg #[lv, .int .i64 g.added, .int .i64 g.base, .int .i64 g.jitter, rv, sv, .int .i64 g.spread, .bool g.stamp], .agg #[.int .i64 n.total.lo, .int .i64 n.total.hi, .int .i64 n.added, .int .i64 n.warm, .int .i64 n.hard.lo, .int .i64 n.hard.hi, .bool n.stamp], .int .u8 turn, .int .u8 more] w fun e w' => e = .returned (.bool true) ∧ w.Exts w' :=
  (l04u_any_c1.property (l04u_any_c2.property (l04u_any_c3.property (l04u_any_c4.property (l04u_any_c5.property l04u_any_last))))) ts v g lv rv sv n turn more w hrow hl hr hs hwf ht hm hcd
end Go.Proofs.YtfjkiemjmnnbkaaGreatDoor
