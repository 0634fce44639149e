/-
  Several texts in one: see the heads of its parts.
-/
import Derived.Test.YtfjkiemjmnnbkaaGreatDoorLTu1

/-
  The law ScaleTurned: its walk.
-/
namespace Go.Proofs.YtfjkiemjmnnbkaaGreatDoor
open Go.RowKit Kr
set_option linter.unusedSimpArgs false

set_option maxRecDepth 100000 in
set_option maxHeartbeats 8000000 in
noncomputable def l04u_any_c2 : { G : Prop // G → l04u_any_c1.val } := by
  apply Subtype.mk
  case property =>
  intro hG
  have HG := Lib.hid hG
  clear hG
  intro ts g n turn more w htb hmb q0 cp0 q1 cp1 q2 cp2 q3 cp3 HB HL HR HS HWF HCD hg1 hg3 hg4 hg5 HRD HGA HG2 HN HCK i9_1_1 A hwA a0 g0 g1 g2 g3 g4 g5 g6 g7 m0 m1 m2 m3 m4 m5 m6 l1 l2 l3 ν W ts' p4 p5 b1 b2 b3 qS cS qL cL qR cR qK cK HTS i9_1_2 i9_1_3 V HTU HIDS HLDS HSL
  have hEV := HTU.out.ext
  have htl : ts'.length ≤ 8 := by rw [HSL.out]; exact hg1
  go_loopw [52] (fun i wr => ∃ k : Nat, k ≤ ts'.length ∧ i = .int .i64 k ∧ Hid (TuAt A wr [.slice qS ts'.length cS] [.slice qL g.loads.length cL, .int .i64 g.added, .int .i64 g.base, .int .i64 g.jitter, .slice qR g.runners.length cR, .slice qK g.strokes.length cK, .int .i64 g.spread, .bool g.stamp] b1 b2 b3 p4 p5 (.slice qS ts'.length cS) (.slice qL g.loads.length cL) (.slice qR g.runners.length cR) (.slice qK g.strokes.length cK) (mixL (ts'.map (mvX more)) ts' k) g.loads g.runners g.strokes)) (fun i _ => ts'.length - (intOf i).toNat)
  case atStart => exact ⟨0, Nat.zero_le _, rfl, Lib.hid (by rw [mixL_zero]; exact HTU.out)⟩
  case round =>
    obtain ⟨k, hk, rfl, HT⟩ := hrel
    clear HTU
    by_cases hlt : k < ts'.length
    ·
      as_aux_lemma =>
      obtain ⟨⟨s, tv⟩, hx⟩ := some_of_lt hlt
      have hxm := (mixL_at (T := ts'.map (mvX more)) (by simp) hk).trans hx
      obtain ⟨gS, cg, hv, hgA, -, hblk, -⟩ := HT.out.sc.resolve_left (fun e => by rw [e] at hxm; simp at hxm)
      simp only [Value.slice.injEq] at hv
      obtain ⟨rfl, -, rfl⟩ := hv
      have d4 := LaysAs.cell HT.out.o4 0 _ rfl
      have n4 := Lays.of_cell d4
      have c0 := hblk.cell _ _ (flat_row (enc := scaleEnc) (size := 7) (fun _ => rfl) hxm (j := 0) rfl)
      have f0 := hblk.free (k * 7 + 0) (List.getElem?_eq_some_iff.1 (flat_row (enc := scaleEnc) (size := 7) (fun _ => rfl) hxm (j := 0) rfl)).1
      simp only [Nat.add_zero] at c0 f0
      have nS := Lays.of_cell c0
      have hid := HIDS.out _ (List.mem_of_getElem? hx)
      dsimp only at hid
      have hmx : (ts'.map (mvX more))[k]? = some (mvX more (s, tv)) := by rw [List.getElem?_map, hx]; rfl
      have HXM := Lib.hid hxm
      clear hxm
      have HMX := Lib.hid hmx
      clear hmx
      clear hx hblk
      go_wp2_with fail
      go_roundw
      case rel => exact ⟨k + 1, by omega, by go_num, Lib.hid (by have h := HT.out.putS (m := s.id + more) HXM.out; rw [← mixL_set (by simp) HMX.out]; exact h)⟩
      case measure => simp [intOf]; omega
    · have hkn : k = ts'.length := by omega
      have hT1 := HT.out
      rw [hkn, mixL_all (by simp)] at hT1
      have HTU := Lib.hid hT1
      clear hT1
      clear hkn HT hEV
      go_upto_region 12 with (fail)
      clear hlt hk
      rename_i i9_2_1 i9_2_2 i9_2_3 i9_2_4 i9_2_5 i9_2_6 i9_2_7
      revert ts g n turn more w htb hmb q0 cp0 q1 cp1 q2 cp2 q3 cp3 HB HL HR HS HWF HCD hg1 hg3 hg4 hg5 HRD HGA HG2 HN HCK i9_1_1 A hwA a0 g0 g1 g2 g3 g4 g5 g6 g7 m0 m1 m2 m3 m4 m5 m6 l1 l2 l3 ν W ts' p4 p5 b1 b2 b3 qS cS qL cL qR cR qK cK HTS i9_1_2 V HIDS HLDS HSL htl wr u14 u53 u54 u55 u56 u57 u58 u59 u60 u61 u62 u63 u64 u65 u66 k HTU i9_2_1 i9_2_2 i9_2_3 i9_2_4 i9_2_5 i9_2_6 i9_2_7
      exact HG.out
end Go.Proofs.YtfjkiemjmnnbkaaGreatDoor

/-
  The law ScaleTurned: its walk.
-/
namespace Go.Proofs.YtfjkiemjmnnbkaaGreatDoor
open Go.RowKit Kr
set_option linter.unusedSimpArgs false

set_option maxRecDepth 100000 in
set_option maxHeartbeats 8000000 in
noncomputable def l04u_any_c3 : { G : Prop // G → l04u_any_c2.val } := by
  apply Subtype.mk
  case property =>
  intro hG
  have HG := Lib.hid hG
  clear hG
  intro ts g n turn more w htb hmb q0 cp0 q1 cp1 q2 cp2 q3 cp3 HB HL HR HS HWF HCD hg1 hg3 hg4 hg5 HRD HGA HG2 HN HCK i9_1_1 A hwA a0 g0 g1 g2 g3 g4 g5 g6 g7 m0 m1 m2 m3 m4 m5 m6 l1 l2 l3 ν W ts' p4 p5 b1 b2 b3 qS cS qL cL qR cR qK cK HTS i9_1_2 V HIDS HLDS HSL htl wr u14 u53 u54 u55 u56 u57 u58 u59 u60 u61 u62 u63 u64 u65 u66 k HTU i9_2_1 i9_2_2 i9_2_3 i9_2_4 i9_2_5 i9_2_6 i9_2_7
  have d5 := LaysAs.cell HTU.out.o5 0 _ rfl
  have n5 := Lays.of_cell d5
  have hEV := HTU.out.ext
  go_wp2_with fail
  go_loopw [70] (fun i wr => ∃ k : Nat, k ≤ g.loads.length ∧ i = .int .i64 k ∧ Hid (TuAt A wr [.slice qS ts'.length cS] [.slice qL g.loads.length cL, .int .i64 g.added, .int .i64 g.base, .int .i64 g.jitter, .slice qR g.runners.length cR, .slice qK g.strokes.length cK, .int .i64 g.spread, .bool g.stamp] b1 b2 b3 p4 p5 (.slice qS ts'.length cS) (.slice qL g.loads.length cL) (.slice qR g.runners.length cR) (.slice qK g.strokes.length cK) (ts'.map (mvX more)) (mixL ((turnL turn.toNat g.loads).map (mvL more)) g.loads k) g.runners g.strokes)) (fun i _ => g.loads.length - (intOf i).toNat)
  case atStart => exact ⟨0, Nat.zero_le _, rfl, Lib.hid (by rw [mixL_zero]; exact HTU.out)⟩
  case round =>
    obtain ⟨k, hk, rfl, HT⟩ := hrel
    clear d5 n5 HTU
    by_cases hlt : k < g.loads.length
    ·
      as_aux_lemma =>
      have hTl : ((turnL turn.toNat g.loads).map (mvL more)).length = g.loads.length := by rw [List.length_map, turnL_len]
      obtain ⟨x, hx⟩ := some_of_lt hlt
      have hxm := (mixL_at (T := (turnL turn.toNat g.loads).map (mvL more)) hTl hk).trans hx
      have hml : (mixL ((turnL turn.toNat g.loads).map (mvL more)) g.loads k).length = g.loads.length := mixL_len hTl hk
      have hm := Nat.mod_lt (k + turn.toNat) (show 0 < g.loads.length by omega)
      obtain ⟨y, hy⟩ := some_of_lt (xs := g.loads) hm
      have hmx : ((turnL turn.toNat g.loads).map (mvL more))[k]? = some (mvL more y) := by rw [List.getElem?_map, turnL_get _ _ hlt, hy]; rfl
      have hol := HT.out.ol
      rw [hml] at hol
      obtain ⟨gL, cg, hv, -, -⟩ := owns_form hol (by omega)
      simp only [Value.slice.injEq] at hv
      obtain ⟨rfl, -, rfl⟩ := hv
      have hEw := HT.out.ext
      have d5 := LaysAs.cell HT.out.o5 0 _ rfl
      have n5 := Lays.of_cell d5
      have e0 := hEw.cell g0
      have ne := Lays.of_cell e0
      obtain ⟨qa, ba, oa, ca, e, hma, hpa, hca⟩ := (HGA.out.l.mono (hwA.trans hEw)).ex
      simp only [Value.slice.injEq] at e
      obtain ⟨rfl, -, rfl⟩ := e
      obtain ⟨rfl, hla⟩ := hpa (by dsimp only; omega)
      have hcs := hca _ y hy
      have c0 := hcs 0 _ rfl
      have c1 := hcs 1 _ rfl
      simp only [Nat.add_zero] at c0 c1
      have hfx := fun j u hu => flat_row (enc := loadEnc) (size := 2) (fun _ => rfl) hxm (j := j) (u := u) hu
      have k0 : wr.cell? ⟨gL, k * 2, none⟩ = some (.int .i64 x.scale) := (hol.cellAt (k * 2 + 0) (by omega)).trans (hfx 0 _ rfl)
      have k1 : wr.cell? ⟨gL, k * 2 + 1, none⟩ = some (.int .i64 x.shown) := (hol.cellAt (k * 2 + 1) (by omega)).trans (hfx 1 _ rfl)
      have f0 := hol.frozenAt (k * 2)
      have f1 := hol.frozenAt (k * 2 + 1)
      have nL := Lays.of_cell k0
      obtain ⟨cs9, fr9, h9⟩ := lays_of_owns hol
      have hd5 : Differ gL p5 := ⟨lays_ne HT.out.o5 h9 (by decide)⟩
      clear h9
      have hyb := HLDS.out _ (List.mem_of_getElem? hy)
      have w1 : IntKind.i64.wrap ((k : Int) + turn) = (k : Int) + turn := IntWalk.i64_in _ (by omega)
      have w2 : ((k : Int) + turn).tmod (g.loads.length : Int) = (((k + turn.toNat) % g.loads.length : Nat) : Int) := by rw [Int.tmod_eq_emod_of_nonneg (by omega), show (k : Int) + turn = ((k + turn.toNat : Nat) : Int) by omega]; exact (Int.natCast_emod _ _).symm
      have w3 : ((g.loads.length : Int) == 0) = false := beq_eq_false_iff_ne.2 (by omega)
      generalize (k + turn.toNat) % g.loads.length = m at *
      have w4 : (0 : Int) ≤ (m : Int) := by omega
      have w5 : (m : Int) < (g.loads.length : Int) := by omega
      have w6 : (0 : Int) ≤ (k : Int) := by omega
      have w7 : (k : Int) < (g.loads.length : Int) := by omega
      have HXM := Lib.hid hxm
      clear hxm
      have HMX := Lib.hid hmx
      clear hmx
      have HML := Lib.hid hml
      clear hml
      have HTL := Lib.hid hTl
      clear hTl
      clear hx hy hcs hca hpa hfx hol
      go_upto_region 15 with (fail)
      refine wp_region_ext_tail 16 (by kernel_rfl) (by kernel_rfl) ?_
      simp only [List.take_succ_cons, List.take_zero, List.drop_succ_cons, List.drop_zero]
      repeat (go_big_quiet_step (fail))
      refine wpQuiet_nil ?_
      rintro _ ⟨X, rfl⟩
      go_wp2_with fail
      go_roundw
      case rel => exact ⟨k + 1, by omega, by go_num, Lib.hid (by
        have h := (((HT.out.exts (W' := World.ext wr X) ⟨X, rfl⟩).putL (j := 0) (y := ⟨y.scale, x.shown⟩) (u := .int .i64 y.scale) HML.out.symm HXM.out (by omega) rfl).putL (k := k) (j := 1) (x := ⟨y.scale, x.shown⟩) (y := ⟨y.scale, y.shown⟩) (u := .int .i64 y.shown) (by rw [List.length_set, HML.out]) (List.getElem?_set_self (by rw [HML.out]; exact hlt)) (by omega) rfl).putL (k := k) (j := 0) (x := ⟨y.scale, y.shown⟩) (y := mvL more y) (u := .int .i64 (y.scale + more)) (by rw [List.length_set, List.length_set, HML.out]) (List.getElem?_set_self (by rw [List.length_set, HML.out]; exact hlt)) (by omega) rfl
        rw [List.set_set, List.set_set, mixL_set HTL.out HMX.out] at h
        exact h)⟩
      case measure => simp [intOf]; omega
    · have hkn : k = g.loads.length := by omega
      have hT1 := HT.out
      rw [hkn, mixL_all (by rw [List.length_map, turnL_len])] at hT1
      have HTU := Lib.hid hT1
      clear hT1
      clear hkn HT hEV
      go_upto_region 18 with (fail)
      clear hlt hk
      rename_i i9_3_1 i9_3_2 i9_3_3 i9_3_4 i9_3_5 i9_3_6 i9_3_7 i9_3_8 i9_3_9
      revert ts g n turn more w htb hmb q0 cp0 q1 cp1 q2 cp2 q3 cp3 HB HL HR HS HWF HCD hg1 hg3 hg4 hg5 HRD HGA HG2 HN HCK i9_1_1 A hwA a0 g0 g1 g2 g3 g4 g5 g6 g7 m0 m1 m2 m3 m4 m5 m6 l1 l2 l3 ν W ts' p4 p5 b1 b2 b3 qS cS qL cL qR cR qK cK HTS i9_1_2 V HIDS HLDS HSL htl i9_3_1 u14 u53 u54 u55 u56 u57 u58 u59 u60 u61 u62 u63 u64 u65 u66 i9_3_2 i9_2_1 i9_2_2 i9_2_3 i9_2_4 wr u15 u71 u72 u73 u74 u75 u76 u77 u78 u79 u80 u81 u82 u83 u84 u85 u86 u87 u88 u89 u90 u91 u92 u93 u94 u95 u96 u97 u98 u99 u100 k HTU i9_3_3 i9_3_4 i9_3_5 i9_3_6 i9_3_7 i9_3_8 i9_3_9
      exact HG.out
end Go.Proofs.YtfjkiemjmnnbkaaGreatDoor

/-
  The law ScaleTurned: its walk.
-/
namespace Go.Proofs.YtfjkiemjmnnbkaaGreatDoor
open Go.RowKit Kr
set_option linter.unusedSimpArgs false

set_option maxRecDepth 100000 in
set_option maxHeartbeats 8000000 in
noncomputable def l04u_any_c4 : { G : Prop // G → l04u_any_c3.val } := by
  apply Subtype.mk
  case property =>
  intro hG
  have HG := Lib.hid hG
  clear hG
  intro ts g n turn more w htb hmb q0 cp0 q1 cp1 q2 cp2 q3 cp3 HB HL HR HS HWF HCD hg1 hg3 hg4 hg5 HRD HGA HG2 HN HCK i9_1_1 A hwA a0 g0 g1 g2 g3 g4 g5 g6 g7 m0 m1 m2 m3 m4 m5 m6 l1 l2 l3 ν W ts' p4 p5 b1 b2 b3 qS cS qL cL qR cR qK cK HTS i9_1_2 V HIDS HLDS HSL htl i9_3_1 u14 u53 u54 u55 u56 u57 u58 u59 u60 u61 u62 u63 u64 u65 u66 i9_3_2 i9_2_1 i9_2_2 i9_2_3 i9_2_4 wr u15 u71 u72 u73 u74 u75 u76 u77 u78 u79 u80 u81 u82 u83 u84 u85 u86 u87 u88 u89 u90 u91 u92 u93 u94 u95 u96 u97 u98 u99 u100 k HTU i9_3_3 i9_3_4 i9_3_5 i9_3_6 i9_3_7 i9_3_8 i9_3_9
  have d5 := LaysAs.cell HTU.out.o5 4 _ rfl
  have n5 := Lays.of_cell d5
  have hEV := HTU.out.ext
  go_wp2_with fail
  go_loopw [104] (fun i wr => ∃ k : Nat, k ≤ g.runners.length ∧ i = .int .i64 k ∧ Hid (TuAt A wr [.slice qS ts'.length cS] [.slice qL g.loads.length cL, .int .i64 g.added, .int .i64 g.base, .int .i64 g.jitter, .slice qR g.runners.length cR, .slice qK g.strokes.length cK, .int .i64 g.spread, .bool g.stamp] b1 b2 b3 p4 p5 (.slice qS ts'.length cS) (.slice qL g.loads.length cL) (.slice qR g.runners.length cR) (.slice qK g.strokes.length cK) (ts'.map (mvX more)) ((turnL turn.toNat g.loads).map (mvL more)) (mixL (turnL turn.toNat g.runners) g.runners k) g.strokes)) (fun i _ => g.runners.length - (intOf i).toNat)
  case atStart => exact ⟨0, Nat.zero_le _, rfl, Lib.hid (by rw [mixL_zero]; exact HTU.out)⟩
  case round =>
    obtain ⟨k, hk, rfl, HT⟩ := hrel
    clear d5 n5 HTU
    by_cases hlt : k < g.runners.length
    ·
      as_aux_lemma =>
      have hTl : (turnL turn.toNat g.runners).length = g.runners.length := turnL_len _ _
      obtain ⟨x, hx⟩ := some_of_lt hlt
      have hxm := (mixL_at (T := turnL turn.toNat g.runners) hTl hk).trans hx
      have hml : (mixL (turnL turn.toNat g.runners) g.runners k).length = g.runners.length := mixL_len hTl hk
      have hm := Nat.mod_lt (k + turn.toNat) (show 0 < g.runners.length by omega)
      obtain ⟨y, hy⟩ := some_of_lt (xs := g.runners) hm
      have hmx : (turnL turn.toNat g.runners)[k]? = some y := by rw [turnL_get _ _ hlt, hy]
      have hol := HT.out.oR
      rw [hml] at hol
      obtain ⟨gB, cg, hv, -, -⟩ := owns_form hol (by omega)
      simp only [Value.slice.injEq] at hv
      obtain ⟨rfl, -, rfl⟩ := hv
      have hEw := HT.out.ext
      have d5 := LaysAs.cell HT.out.o5 4 _ rfl
      have n5 := Lays.of_cell d5
      have e0 := hEw.cell g4
      have ne := Lays.of_cell e0
      obtain ⟨qa, ba, oa, ca, e, hma, hpa, hca⟩ := (HGA.out.r.mono (hwA.trans hEw)).ex
      simp only [Value.slice.injEq] at e
      obtain ⟨rfl, -, rfl⟩ := e
      obtain ⟨rfl, hla⟩ := hpa (by dsimp only; omega)
      have hcs := hca _ y hy
      have c0 := hcs 0 _ rfl
      simp only [Nat.mul_one, Nat.add_zero] at c0
      have k0 : wr.cell? ⟨gB, k, none⟩ = some (.int .i64 x) := by have h := (hol.cellAt (k * 1 + 0) (by omega)).trans (flat_row (enc := intEnc) (size := 1) (fun _ => rfl) hxm (j := 0) rfl); simpa using h
      have f0 := hol.frozenAt k
      have nL := Lays.of_cell k0
      have w1 : IntKind.i64.wrap ((k : Int) + turn) = (k : Int) + turn := IntWalk.i64_in _ (by omega)
      have w2 : ((k : Int) + turn).tmod (g.runners.length : Int) = (((k + turn.toNat) % g.runners.length : Nat) : Int) := by rw [Int.tmod_eq_emod_of_nonneg (by omega), show (k : Int) + turn = ((k + turn.toNat : Nat) : Int) by omega]; exact (Int.natCast_emod _ _).symm
      have w3 : ((g.runners.length : Int) == 0) = false := beq_eq_false_iff_ne.2 (by omega)
      generalize (k + turn.toNat) % g.runners.length = m at *
      have w4 : (0 : Int) ≤ (m : Int) := by omega
      have w5 : (m : Int) < (g.runners.length : Int) := by omega
      have w6 : (0 : Int) ≤ (k : Int) := by omega
      have w7 : (k : Int) < (g.runners.length : Int) := by omega
      have HXM := Lib.hid hxm
      clear hxm
      have HMX := Lib.hid hmx
      clear hmx
      have HML := Lib.hid hml
      clear hml
      have HTL := Lib.hid hTl
      clear hTl
      clear hx hy hcs hca hpa hol
      go_upto_region 21 with (fail)
      refine wp_region_ext_tail 16 (by kernel_rfl) (by kernel_rfl) ?_
      simp only [List.take_succ_cons, List.take_zero, List.drop_succ_cons, List.drop_zero]
      repeat (go_big_quiet_step (fail))
      refine wpQuiet_nil ?_
      rintro _ ⟨X, rfl⟩
      go_wp2_with fail
      go_roundw
      case rel => exact ⟨k + 1, by omega, by go_num, Lib.hid (by have h := (HT.out.exts (W' := World.ext wr X) ⟨X, rfl⟩).putR (y := y) HML.out.symm HXM.out; rw [mixL_set HTL.out HMX.out] at h; exact h)⟩
      case measure => simp [intOf]; omega
    · have hkn : k = g.runners.length := by omega
      have hT1 := HT.out
      rw [hkn, mixL_all (turnL_len _ _)] at hT1
      have HTU := Lib.hid hT1
      clear hT1
      clear hkn HT hEV
      go_upto_region 23 with (fail)
      clear hlt hk
      rename_i i9_4_1 i9_4_2 i9_4_3 i9_4_4 i9_4_5 i9_4_6 i9_4_7 i9_4_8 i9_4_9
      revert ts g n turn more w htb hmb q0 cp0 q1 cp1 q2 cp2 q3 cp3 HB HL HR HS HWF HCD hg1 hg3 hg4 hg5 HRD HGA HG2 HN HCK i9_1_1 A hwA a0 g0 g1 g2 g3 g4 g5 g6 g7 m0 m1 m2 m3 m4 m5 m6 l1 l2 l3 ν W ts' p4 p5 b1 b2 b3 qS cS qL cL qR cR qK cK HTS i9_1_2 V HIDS HLDS HSL htl i9_3_1 u14 u53 u54 u55 u56 u57 u58 u59 u60 u61 u62 u63 u64 u65 u66 i9_3_2 i9_2_1 i9_2_2 i9_2_3 i9_2_4 i9_4_1 u15 u71 u72 u73 u74 u75 u76 u77 u78 u79 u80 u81 u82 u83 u84 u85 u86 u87 u88 u89 u90 u91 u92 u93 u94 u95 u96 u97 u98 u99 u100 i9_4_2 i9_3_3 i9_3_4 i9_3_5 i9_3_6 wr u16 u105 u106 u107 u108 u109 u110 u111 u112 u113 u114 u115 u116 u117 u118 u119 u120 u121 u122 u123 k HTU i9_4_3 i9_4_4 i9_4_5 i9_4_6 i9_4_7 i9_4_8 i9_4_9
      exact HG.out
end Go.Proofs.YtfjkiemjmnnbkaaGreatDoor

/-
  The law ScaleTurned: its walk.
-/
namespace Go.Proofs.YtfjkiemjmnnbkaaGreatDoor
open Go.RowKit Kr
set_option linter.unusedSimpArgs false

set_option maxRecDepth 100000 in
set_option maxHeartbeats 8000000 in
noncomputable def l04u_any_c5 : { G : Prop // G → l04u_any_c4.val } := by
  apply Subtype.mk
  case property =>
  intro hG
  have HG := Lib.hid hG
  clear hG
  intro ts g n turn more w htb hmb q0 cp0 q1 cp1 q2 cp2 q3 cp3 HB HL HR HS HWF HCD hg1 hg3 hg4 hg5 HRD HGA HG2 HN HCK i9_1_1 A hwA a0 g0 g1 g2 g3 g4 g5 g6 g7 m0 m1 m2 m3 m4 m5 m6 l1 l2 l3 ν W ts' p4 p5 b1 b2 b3 qS cS qL cL qR cR qK cK HTS i9_1_2 V HIDS HLDS HSL htl i9_3_1 u14 u53 u54 u55 u56 u57 u58 u59 u60 u61 u62 u63 u64 u65 u66 i9_3_2 i9_2_1 i9_2_2 i9_2_3 i9_2_4 i9_4_1 u15 u71 u72 u73 u74 u75 u76 u77 u78 u79 u80 u81 u82 u83 u84 u85 u86 u87 u88 u89 u90 u91 u92 u93 u94 u95 u96 u97 u98 u99 u100 i9_4_2 i9_3_3 i9_3_4 i9_3_5 i9_3_6 wr u16 u105 u106 u107 u108 u109 u110 u111 u112 u113 u114 u115 u116 u117 u118 u119 u120 u121 u122 u123 k HTU i9_4_3 i9_4_4 i9_4_5 i9_4_6 i9_4_7 i9_4_8 i9_4_9
  have d5 := LaysAs.cell HTU.out.o5 5 _ rfl
  have n5 := Lays.of_cell d5
  have hEV := HTU.out.ext
  go_wp2_with fail
  go_loopw [127] (fun i wr => ∃ k : Nat, k ≤ g.strokes.length ∧ i = .int .i64 k ∧ Hid (TuAt A wr [.slice qS ts'.length cS] [.slice qL g.loads.length cL, .int .i64 g.added, .int .i64 g.base, .int .i64 g.jitter, .slice qR g.runners.length cR, .slice qK g.strokes.length cK, .int .i64 g.spread, .bool g.stamp] b1 b2 b3 p4 p5 (.slice qS ts'.length cS) (.slice qL g.loads.length cL) (.slice qR g.runners.length cR) (.slice qK g.strokes.length cK) (ts'.map (mvX more)) ((turnL turn.toNat g.loads).map (mvL more)) (turnL turn.toNat g.runners) (mixL (turnL turn.toNat g.strokes) g.strokes k))) (fun i _ => g.strokes.length - (intOf i).toNat)
  case atStart => exact ⟨0, Nat.zero_le _, rfl, Lib.hid (by rw [mixL_zero]; exact HTU.out)⟩
  case round =>
    obtain ⟨k, hk, rfl, HT⟩ := hrel
    clear d5 n5 HTU
    by_cases hlt : k < g.strokes.length
    ·
      as_aux_lemma =>
      have hTl : (turnL turn.toNat g.strokes).length = g.strokes.length := turnL_len _ _
      obtain ⟨x, hx⟩ := some_of_lt hlt
      have hxm := (mixL_at (T := turnL turn.toNat g.strokes) hTl hk).trans hx
      have hml : (mixL (turnL turn.toNat g.strokes) g.strokes k).length = g.strokes.length := mixL_len hTl hk
      have hm := Nat.mod_lt (k + turn.toNat) (show 0 < g.strokes.length by omega)
      obtain ⟨y, hy⟩ := some_of_lt (xs := g.strokes) hm
      have hmx : (turnL turn.toNat g.strokes)[k]? = some y := by rw [turnL_get _ _ hlt, hy]
      have hol := HT.out.os
      rw [hml] at hol
      obtain ⟨gB, cg, hv, -, -⟩ := owns_form hol (by omega)
      simp only [Value.slice.injEq] at hv
      obtain ⟨rfl, -, rfl⟩ := hv
      have hEw := HT.out.ext
      have d5 := LaysAs.cell HT.out.o5 5 _ rfl
      have n5 := Lays.of_cell d5
      have e0 := hEw.cell g5
      have ne := Lays.of_cell e0
      obtain ⟨qa, ba, oa, ca, e, hma, hpa, hca⟩ := (HGA.out.s.mono (hwA.trans hEw)).ex
      simp only [Value.slice.injEq] at e
      obtain ⟨rfl, -, rfl⟩ := e
      obtain ⟨rfl, hla⟩ := hpa (by dsimp only; omega)
      have hcs := hca _ y hy
      have c0 := hcs 0 _ rfl
      simp only [Nat.mul_one, Nat.add_zero] at c0
      have k0 : wr.cell? ⟨gB, k, none⟩ = some (.int .i64 x) := by have h := (hol.cellAt (k * 1 + 0) (by omega)).trans (flat_row (enc := intEnc) (size := 1) (fun _ => rfl) hxm (j := 0) rfl); simpa using h
      have f0 := hol.frozenAt k
      have nL := Lays.of_cell k0
      have w1 : IntKind.i64.wrap ((k : Int) + turn) = (k : Int) + turn := IntWalk.i64_in _ (by omega)
      have w2 : ((k : Int) + turn).tmod (g.strokes.length : Int) = (((k + turn.toNat) % g.strokes.length : Nat) : Int) := by rw [Int.tmod_eq_emod_of_nonneg (by omega), show (k : Int) + turn = ((k + turn.toNat : Nat) : Int) by omega]; exact (Int.natCast_emod _ _).symm
      have w3 : ((g.strokes.length : Int) == 0) = false := beq_eq_false_iff_ne.2 (by omega)
      generalize (k + turn.toNat) % g.strokes.length = m at *
      have w4 : (0 : Int) ≤ (m : Int) := by omega
      have w5 : (m : Int) < (g.strokes.length : Int) := by omega
      have w6 : (0 : Int) ≤ (k : Int) := by omega
      have w7 : (k : Int) < (g.strokes.length : Int) := by omega
      have HXM := Lib.hid hxm
      clear hxm
      have HMX := Lib.hid hmx
      clear hmx
      have HML := Lib.hid hml
      clear hml
      have HTL := Lib.hid hTl
      clear hTl
      clear hx hy hcs hca hpa hol
      go_upto_region 26 with (fail)
      refine wp_region_ext_tail 16 (by kernel_rfl) (by kernel_rfl) ?_
      simp only [List.take_succ_cons, List.take_zero, List.drop_succ_cons, List.drop_zero]
      repeat (go_big_quiet_step (fail))
      refine wpQuiet_nil ?_
      rintro _ ⟨X, rfl⟩
      go_wp2_with fail
      go_roundw
      case rel => exact ⟨k + 1, by omega, by go_num, Lib.hid (by have h := (HT.out.exts (W' := World.ext wr X) ⟨X, rfl⟩).putK (y := y) HML.out.symm HXM.out; rw [mixL_set HTL.out HMX.out] at h; exact h)⟩
      case measure => simp [intOf]; omega
    · have hkn : k = g.strokes.length := by omega
      have hT1 := HT.out
      rw [hkn, mixL_all (turnL_len _ _)] at hT1
      have HTU := Lib.hid hT1
      clear hT1
      clear hkn HT hEV
      go_upto_region 28 with (fail)
      clear hlt hk
      rename_i i9_5_1 i9_5_2 i9_5_3 i9_5_4 i9_5_5 i9_5_6 i9_5_7 i9_5_8 i9_5_9
      revert ts g n turn more w htb hmb q0 cp0 q1 cp1 q2 cp2 q3 cp3 HB HL HR HS HWF HCD hg1 hg3 hg4 hg5 HRD HGA HG2 HN HCK i9_1_1 A hwA a0 g0 g1 g2 g3 g4 g5 g6 g7 m0 m1 m2 m3 m4 m5 m6 l1 l2 l3 ν W ts' p4 p5 b1 b2 b3 qS cS qL cL qR cR qK cK HTS i9_1_2 V HIDS HLDS HSL htl i9_3_1 u14 u53 u54 u55 u56 u57 u58 u59 u60 u61 u62 u63 u64 u65 u66 i9_3_2 i9_2_1 i9_2_2 i9_2_3 i9_2_4 i9_4_1 u15 u71 u72 u73 u74 u75 u76 u77 u78 u79 u80 u81 u82 u83 u84 u85 u86 u87 u88 u89 u90 u91 u92 u93 u94 u95 u96 u97 u98 u99 u100 i9_4_2 i9_3_3 i9_3_4 i9_3_5 i9_3_6 i9_5_1 u16 u105 u106 u107 u108 u109 u110 u111 u112 u113 u114 u115 u116 u117 u118 u119 u120 u121 u122 u123 i9_5_2 i9_4_3 i9_4_4 i9_4_5 i9_4_6 wr u17 u128 u129 u130 u131 u132 u133 u134 u135 u136 u137 u138 u139 u140 u141 u142 u143 u144 u145 u146 k HTU i9_5_3 i9_5_4 i9_5_5 i9_5_6 i9_5_7 i9_5_8 i9_5_9
      exact HG.out
end Go.Proofs.YtfjkiemjmnnbkaaGreatDoor
