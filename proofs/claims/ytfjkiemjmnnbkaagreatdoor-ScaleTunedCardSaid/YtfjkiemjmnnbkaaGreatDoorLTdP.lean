/-
  Several texts in one: see the heads of its parts.
-/
import Derived.Test.YtfjkiemjmnnbkaaGreatDoorAm
import Derived.Test.YtfjkiemjmnnbkaaGreatDoorRy
import Derived.Test.YtfjkiemjmnnbkaaGreatDoorTold
import Derived.Test.YtfjkiemjmnnbkaaGreatDoorHp
import Derived.Test.YtfjkiemjmnnbkaaGreatDoorWdG
import Derived.Test.YtfjkiemjmnnbkaaGreatDoorTdG
import Derived.Deep.DeepCutAuto

/-
  The law ScaleTuned: its walk.
-/
namespace Go.Proofs.YtfjkiemjmnnbkaaGreatDoor
open Go.RowKit Kr
set_option linter.unusedSimpArgs false

set_option maxRecDepth 100000 in
set_option maxHeartbeats 8000000 in
noncomputable def l04td_any_c1 : { G : Prop // G → ∀ (ts : List (Kr.Scale × Value)) (v : Value) (g : Gear) (lv rv sv : Value) (which other : Int) (w : World) (_ : BayAt w v ts)
    (_ : IsRow (fun t : Kr.Load => [.int .i64 t.scale, .int .i64 t.shown]) 2 w lv g.loads) (_ : IsRow (fun x : Int => [.int .i64 x]) 1 w rv g.runners) (_ : IsRow (fun x : Int => [.int .i64 x]) 1 w sv g.strokes) (_ : ∀ l ∈ g.loads, (Lit.int .i64 l.scale).wf = true) (_ : (Lit.int .u16 which).wf = true) (_ : (Lit.int .i32 other).wf = true) (_ : CondsAt w),
    Calls Tryz.prog 6 #[.agg #[v], .agg #[lv, .int .i64 g.added, .int .i64 g.base, .int .i64 g.jitter, rv, sv, .int .i64 g.spread, .bool g.stamp], .int .u16 which, .int .i32 other] w fun e w' => e = .returned (.bool true) ∧ w.Exts w' } := by
  apply Subtype.mk
  case property =>
  intro hG
  have HG := Lib.hid hG
  clear hG
  intro ts v g lv rv sv which other w hrow hl hr hs hwf hwi hot hcd
  have hwb := wf_u16 hwi
  have hob := wf_i32 hot
  clear hwi hot
  obtain ⟨q0, cp0, rfl⟩ := hrow.row.len
  obtain ⟨q1, cp1, rfl⟩ := hl.len
  obtain ⟨q2, cp2, rfl⟩ := hr.len
  obtain ⟨q3, cp3, rfl⟩ := hs.len
  have HB := Lib.hid hrow
  clear hrow
  have HL := Lib.hid hl
  clear hl
  have HR := Lib.hid hr
  clear hr
  have HS := Lib.hid hs
  clear hs
  have HWF := Lib.hid hwf
  clear hwf
  have HCD := Lib.hid hcd
  clear hcd
  cases hrd : readyB ts g
  case false =>
    as_aux_lemma =>
    have HRD := Lib.hid hrd
    clear hrd
    go_enter Tryz.func6, Tryz.ntmps6
    go_wp2_with (first
      | (go_at_call 21; refine (l04_alive_any _ (HCD.out.mono exq)).mono ?_; rintro e w' ⟨rfl, X0, rfl⟩)
      | (go_at_call 22; refine (l04_ready_any ts _ g _ _ _ _ (HB.out.mono exq) (HL.out.mono exq) (HR.out.mono exq) (HS.out.mono exq)).mono ?_; rintro e w' ⟨rfl, X1, rfl⟩; rw [HRD.out]))
    go_ret
    exact ⟨rfl, exq⟩
  obtain ⟨hgr, hck⟩ := ready_parts hrd
  have hgn := great_not hgr
  have hga : GearAt w (g, .slice q1 g.loads.length cp1, .slice q2 g.runners.length cp2, .slice q3 g.strokes.length cp3) := ⟨HL.out, HR.out, HS.out, by dsimp only; omega, HWF.out⟩
  obtain ⟨hg1, hg2, hg3, hg4, hg5⟩ := hgn
  have hg2' : ∀ x ∈ ts, x.1.trials.length ≤ 1000 := fun x hx => Nat.le_trans (hg2 x hx) (by omega)
  have HRD := Lib.hid hrd
  clear hrd
  have HGA := Lib.hid hga
  clear hga
  have HG2 := Lib.hid hg2'
  clear hg2'
  clear hgr hg2
  have T1 := fun (W : World) (hE : w.Exts W) => scale_Totals_any ts _ g _ _ _ W (HB.out.mono hE) (HGA.out.mono hE)
  simp only [wd_totals hck] at T1
  by_cases htl : totals (ts.map Prod.fst) g = []
  ·
    as_aux_lemma =>
    simp only [if_pos htl, htl] at T1
    have HT1 := Lib.hid T1
    clear T1
    clear htl hck
    go_enter Tryz.func6, Tryz.ntmps6
    go_wp2_with (first
      | (go_at_call 21; refine (l04_alive_any _ (HCD.out.mono exq)).mono ?_; rintro e w' ⟨rfl, X0, rfl⟩)
      | (go_at_call 22; refine (l04_ready_any ts _ g _ _ _ _ (HB.out.mono exq) (HL.out.mono exq) (HR.out.mono exq) (HS.out.mono exq)).mono ?_; rintro e w' ⟨rfl, X1, rfl⟩; rw [HRD.out])
      | (go_at_call 29; refine (HT1.out _ exq).mono ?_; rintro e w' ⟨v1, rfl, hv1, X3, rfl⟩; (obtain ⟨qv1, cv1, rfl⟩ := hv1.len); clear hv1; simp only [List.length_nil]))
    go_ret
    exact ⟨rfl, exq⟩
  simp only [if_neg htl] at T1
  have htn := totals_neat (ts.map Prod.fst) g
  have hlen : 0 < (totals (ts.map Prod.fst) g).length := List.length_pos_iff.2 htl
  obtain ⟨TL, hTL⟩ : ∃ l, totals (ts.map Prod.fst) g = l := ⟨_, rfl⟩
  rw [hTL] at T1 htn hlen
  have HT1 := Lib.hid T1
  clear T1
  have HTL := Lib.hid hTL
  clear hTL
  have HTN := Lib.hid htn
  clear htn
  have HCK := Lib.hid hck
  clear hck
  clear htl
  go_enter Tryz.func6, Tryz.ntmps6
  go_wp2_with (first
    | (go_at_call 21; refine (l04_alive_any _ (HCD.out.mono exq)).mono ?_; rintro e w' ⟨rfl, X0, rfl⟩)
    | (go_at_call 22; refine (l04_ready_any ts _ g _ _ _ _ (HB.out.mono exq) (HL.out.mono exq) (HR.out.mono exq) (HS.out.mono exq)).mono ?_; rintro e w' ⟨rfl, X1, rfl⟩; rw [HRD.out])
    | (go_at_call 29; refine (HT1.out _ exq).mono ?_; rintro e w' ⟨v1, rfl, hv1, X3, rfl⟩; (obtain ⟨qv1, bv1, ov1, cv1, rfl, hmv1, hpv1, hcv1⟩ := hv1.ex); (have HV1 := Lib.hid hv1); (have HPV1 := Lib.hid hpv1); (have HCV1 := Lib.hid hcv1); clear hv1 hpv1 hcv1))
  rename_i i9_1_1 i9_1_2 i9_1_3
  revert ts g which other w hwb hob q0 cp0 q1 cp1 q2 cp2 q3 cp3 HB HL HR HS HWF HCD hg1 hg3 hg4 hg5 HRD HGA HG2 TL hlen HT1 HTL HTN HCK i9_1_1 X0 X1 X3 qv1 bv1 ov1 cv1 hmv1 HV1 HPV1 HCV1 i9_1_2 i9_1_3
  exact HG.out
end Go.Proofs.YtfjkiemjmnnbkaaGreatDoor

/-
  The law ScaleTuned: its walk.
-/
namespace Go.Proofs.YtfjkiemjmnnbkaaGreatDoor
open Go.RowKit Kr
set_option linter.unusedSimpArgs false

set_option maxRecDepth 100000 in
set_option maxHeartbeats 8000000 in
noncomputable def l04td_any_c2 : { G : Prop // G → l04td_any_c1.val } := by
  apply Subtype.mk
  case property =>
  intro hG
  have HG := Lib.hid hG
  clear hG
  intro ts g which other w hwb hob q0 cp0 q1 cp1 q2 cp2 q3 cp3 HB HL HR HS HWF HCD hg1 hg3 hg4 hg5 HRD HGA HG2 TL hlen HT1 HTL HTN HCK i9_1_1 X0 X1 X3 qv1 bv1 ov1 cv1 hmv1 HV1 HPV1 HCV1 i9_1_2 i9_1_3
  obtain ⟨A, hA⟩ : ∃ A, World.ext _ X3 = A := ⟨_, rfl⟩
  have hwA : w.Exts A := by rw [← hA]; exact exq
  have a0 : A.cell? ⟨w.heap.size, 0, none⟩ = some (.slice q0 ts.length cp0) := by rw [← hA]; simp [go_sem]
  have g0 : A.cell? ⟨w.heap.size + 1, 0, none⟩ = some (.slice q1 g.loads.length cp1) := by rw [← hA]; simp [go_sem]
  have g1 : A.cell? ⟨w.heap.size + 1, 1, none⟩ = some (.int .i64 g.added) := by rw [← hA]; simp [go_sem]
  have g2 : A.cell? ⟨w.heap.size + 1, 2, none⟩ = some (.int .i64 g.base) := by rw [← hA]; simp [go_sem]
  have g3 : A.cell? ⟨w.heap.size + 1, 3, none⟩ = some (.int .i64 g.jitter) := by rw [← hA]; simp [go_sem]
  have g4 : A.cell? ⟨w.heap.size + 1, 4, none⟩ = some (.slice q2 g.runners.length cp2) := by rw [← hA]; simp [go_sem]
  have g5 : A.cell? ⟨w.heap.size + 1, 5, none⟩ = some (.slice q3 g.strokes.length cp3) := by rw [← hA]; simp [go_sem]
  have g6 : A.cell? ⟨w.heap.size + 1, 6, none⟩ = some (.int .i64 g.spread) := by rw [← hA]; simp [go_sem]
  have g7 : A.cell? ⟨w.heap.size + 1, 7, none⟩ = some (.bool g.stamp) := by rw [← hA]; simp [go_sem]
  have hv1 := HV1.out.mono (w' := A) (by rw [← hA]; exact World.Exts.refl _)
  have hpv := HPV1.out
  have hcv := HCV1.out
  rw [hA] at hpv hcv ⊢
  have l1 := Lays.of_cell a0
  have l2 := Lays.of_cell g0
  have htb : ∀ s ∈ TL, 0 ≤ s.lo ∧ s.lo ≤ s.hi ∧ s.hi ≤ 7000000 := by rw [← HTL.out]; exact totals_bd HCK.out
  obtain ⟨rfl, hlv⟩ := hpv hlen
  clear hA HV1 HPV1 HCV1 hpv
  clear X0 X1 X3
  have HV1 := Lib.hid hv1
  clear hv1
  have HCV := Lib.hid hcv
  clear hcv
  have HTB := Lib.hid htb
  clear htb
  go_loopw [60] (fun i wr => ∃ j : Nat, j ≤ TL.length ∧ i = .int .i64 j ∧ A.Exts wr) (fun i _ => TL.length - (intOf i).toNat)
  case atStart => exact ⟨0, Nat.zero_le _, rfl, World.Exts.refl _⟩
  case round =>
    obtain ⟨j, hj, rfl, hE⟩ := hrel
    obtain ⟨X, rfl⟩ := hE
    rcases Nat.lt_or_ge j TL.length with hlt | hge
    ·
      obtain ⟨s, hs⟩ := some_of_lt hlt
      have hcs := HCV.out j s hs
      have c0 := hcs 0 _ rfl
      have c1 := hcs 1 _ rfl
      simp only [Nat.add_zero] at c0
      have hsb := HTB.out s (List.mem_of_getElem? hs)
      have d0 : decide (s.hi < s.lo) = false := by simp; omega
      clear hcs
      rcases Nat.eq_zero_or_pos j with h0 | h0
      · subst h0
        clear hs
        simp only [Nat.zero_mul, Nat.add_zero] at c0 c1
        go_upto_region 12 with (fail)
        refine wp_region_ext (by kernel_rfl) (by kernel_rfl) ?_
        repeat (go_big_quiet_step (fail))
        refine wpQuiet_nil ?_
        rintro _ ⟨X, rfl⟩
        go_wp2_with fail
        go_roundw
        case rel => exact ⟨1, by omega, by go_num, exq⟩
        case measure => simp [intOf]; omega
      · obtain ⟨p, hp⟩ := some_of_lt (xs := TL) (k := j - 1) (by omega)
        have hcp := HCV.out (j - 1) p hp
        have b1 := hcp 1 _ rfl
        have hpb := HTB.out p (List.mem_of_getElem? hp)
        have hps : p.hi + 1 < s.lo := by
          have h1 := List.pairwise_iff_getElem.1 HTN.out.2 (j - 1) j (by omega) hlt (by omega)
          rw [List.getElem?_eq_getElem (by omega), Option.some.injEq] at hp hs
          rw [hp, hs] at h1
          exact h1
        have e1 : IntKind.i64.wrap ((j : Int) - 1) = ((j - 1 : Nat) : Int) := by rw [IntWalk.i64_in _ (by omega)]; omega
        have e2 : IntKind.i64.wrap (p.hi + 1) = p.hi + 1 := IntWalk.i64_in _ (by omega)
        have d1 : decide (s.lo ≤ p.hi + 1) = false := by simp; omega
        have d2 : decide ((0 : Int) < (j : Int)) = true := by simp; omega
        have d3 : decide (0 < j) = true := by simp; omega
        have d4 : (0 < j) = True := eq_true (by omega)
        have w1 : (0 : Int) ≤ ((j - 1 : Nat) : Int) := by omega
        have w2 : ((j - 1 : Nat) : Int) < (TL.length : Int) := by omega
        clear hcp hs hp
        go_upto_region 12 with (fail)
        refine wp_region_ext (by kernel_rfl) (by kernel_rfl) ?_
        repeat (go_big_quiet_step (fail))
        refine wpQuiet_nil ?_
        rintro _ ⟨X, rfl⟩
        go_wp2_with fail
        go_roundw
        case rel => exact ⟨j + 1, by omega, by go_num, exq⟩
        case measure => simp [intOf]; omega
    obtain rfl : j = TL.length := by omega
    go_upto_region 15 with (fail)
    rename_i i9_2_1 i9_2_2 i9_2_3 i9_2_4 i9_2_5
    revert ts g which other w hwb hob q0 cp0 q1 cp1 q2 cp2 q3 cp3 HB HL HR HS HWF HCD hg1 hg3 hg4 hg5 HRD HGA HG2 TL hlen HT1 HTL HTN HCK i9_1_1 bv1 ov1 cv1 hmv1 i9_1_2 A hwA a0 g0 g1 g2 g3 g4 g5 g6 g7 l1 l2 hlv HV1 HCV HTB u8 u12 u13 u61 u62 u63 u64 u65 u66 u67 u68 u69 u70 u71 u72 u73 u74 u75 u76 u77 u78 u79 u80 u81 u82 u83 u84 u85 u86 X hj hge i9_2_1 i9_2_2 i9_2_3 i9_2_4 i9_2_5
    exact HG.out
end Go.Proofs.YtfjkiemjmnnbkaaGreatDoor

/-
  The law ScaleTuned: its walk.
-/
namespace Go.Proofs.YtfjkiemjmnnbkaaGreatDoor
open Go.RowKit Kr
set_option linter.unusedSimpArgs false

set_option maxRecDepth 100000 in
set_option maxHeartbeats 8000000 in
noncomputable def l04td_any_c3 : { G : Prop // G → l04td_any_c2.val } := by
  apply Subtype.mk
  case property =>
  intro hG
  have HG := Lib.hid hG
  clear hG
  intro ts g which other w hwb hob q0 cp0 q1 cp1 q2 cp2 q3 cp3 HB HL HR HS HWF HCD hg1 hg3 hg4 hg5 HRD HGA HG2 TL hlen HT1 HTL HTN HCK i9_1_1 bv1 ov1 cv1 hmv1 i9_1_2 A hwA a0 g0 g1 g2 g3 g4 g5 g6 g7 l1 l2 hlv HV1 HCV HTB u8 u12 u13 u61 u62 u63 u64 u65 u66 u67 u68 u69 u70 u71 u72 u73 u74 u75 u76 u77 u78 u79 u80 u81 u82 u83 u84 u85 u86 X hj hge i9_2_1 i9_2_2 i9_2_3 i9_2_4 i9_2_5
  obtain ⟨A1, hA1⟩ : ∃ W, World.ext A X = W := ⟨_, rfl⟩
  have hE1 : A.Exts A1 := by rw [← hA1]; exact ⟨X, rfl⟩
  rw [hA1]
  clear hA1 X hge hj
  replace a0 := hE1.cell a0
  replace g0 := hE1.cell g0
  replace g1 := hE1.cell g1
  replace g2 := hE1.cell g2
  replace g3 := hE1.cell g3
  replace g4 := hE1.cell g4
  replace g5 := hE1.cell g5
  replace g6 := hE1.cell g6
  replace g7 := hE1.cell g7
  replace l1 := Lays.of_cell a0
  replace l2 := Lays.of_cell g0
  replace hlv := hE1.lays hlv
  obtain ⟨f, hf⟩ := some_of_lt (xs := TL) (k := 0) hlen
  obtain ⟨z, hz⟩ := some_of_lt (xs := TL) (k := TL.length - 1) (by omega)
  obtain ⟨kw, hkw⟩ : ∃ k : Nat, k = (which % (TL.length : Int)).toNat := ⟨_, rfl⟩
  have hem1 := Int.emod_nonneg which (show (TL.length : Int) ≠ 0 by omega)
  have hem2 := Int.emod_lt_of_pos which (show 0 < (TL.length : Int) by omega)
  have hkl : kw < TL.length := by omega
  have e2 : which.tmod (TL.length : Int) = (kw : Int) := by rw [Int.tmod_eq_emod_of_nonneg hwb.1]; omega
  obtain ⟨s, hs⟩ := some_of_lt (xs := TL) (k := kw) hkl
  have c0 := hE1.cell (HCV.out 0 f hf 0 _ rfl)
  have c1 := hE1.cell (HCV.out (TL.length - 1) z hz 1 _ rfl)
  have c2 := hE1.cell (HCV.out kw s hs 0 _ rfl)
  have c3 := hE1.cell (HCV.out kw s hs 1 _ rfl)
  simp only [Nat.zero_mul, Nat.add_zero] at c0 c2
  have e1 : IntKind.i64.wrap ((TL.length : Int) - 1) = ((TL.length - 1 : Nat) : Int) := by rw [IntWalk.i64_in _ (by omega)]; omega
  have w1 : (0 : Int) ≤ ((TL.length - 1 : Nat) : Int) := by omega
  have w2 : ((TL.length - 1 : Nat) : Int) < (TL.length : Int) := by omega
  have w3 : (0 : Int) < (TL.length : Int) := by omega
  have w4 : (0 : Int) ≤ (kw : Int) := by omega
  have w5 : (kw : Int) < (TL.length : Int) := by omega
  have w6 : ((TL.length : Int) == 0) = false := beq_eq_false_iff_ne.2 (by omega)
  have hsb := HTB.out s (List.mem_of_getElem? hs)
  have HF := Lib.hid hf
  clear hf
  have HZ := Lib.hid hz
  clear hz
  have HS1 := Lib.hid hs
  clear hs
  clear hkw hem1 hem2
  refine wp_region_ext_tail 13 (by kernel_rfl) (by kernel_rfl) ?_
  simp only [List.take_succ_cons, List.take_zero, List.drop_succ_cons, List.drop_zero]
  repeat (go_big_quiet_step (fail))
  refine wpQuiet_nil ?_
  rintro _ ⟨X, rfl⟩
  clear e1 w1 w2
  go_upto_region 17 with (fail)
  obtain ⟨A2, hA2⟩ : ∃ W, World.ext A1 X = W := ⟨_, rfl⟩
  have hE2 : A1.Exts A2 := by rw [← hA2]; exact ⟨X, rfl⟩
  rw [hA2]
  have hown := World.ownsRow_lit (base := A2.heap.size) (e := 3) (size := 1) A2 #[.int .i64 f.lo, .int .i64 z.hi, .int .i64 other] 3 (Nat.le_refl _) (by decide) rfl
  clear hA2 c0 c1 c2 c3 e2 w3 w4 w5 w6
  have hq1 : s.hi - s.lo + 1 ≠ 0 := by omega
  obtain ⟨d, hd⟩ : ∃ d, d = which % (s.hi - s.lo + 1) := ⟨_, rfl⟩
  have hd1 := Int.emod_nonneg which hq1
  have hd2 := Int.emod_lt_of_pos which (show 0 < s.hi - s.lo + 1 by omega)
  rw [← hd] at hd1 hd2
  have e3 : which.tmod (s.hi - s.lo + 1) = d := by rw [Int.tmod_eq_emod_of_nonneg hwb.1, hd]
  have w7 : (s.hi - s.lo + 1 == 0) = false := beq_eq_false_iff_ne.2 hq1
  have f1 : IntKind.i64.wrap (s.hi - s.lo) = s.hi - s.lo := IntWalk.i64_in _ (by omega)
  have f2 : IntKind.i64.wrap (s.hi - s.lo + 1) = s.hi - s.lo + 1 := IntWalk.i64_in _ (by omega)
  have f3 : IntKind.i64.wrap (s.lo + d) = s.lo + d := IntWalk.i64_in _ (by omega)
  have f4 : IntKind.i64.wrap (s.lo - 1) = s.lo - 1 := IntWalk.i64_in _ (by omega)
  have f5 : IntKind.i64.wrap (s.hi + 1) = s.hi + 1 := IntWalk.i64_in _ (by omega)
  have HOWN := Lib.hid hown
  clear hown
  clear hd hq1
  refine wp_region_calls 20 (fun i => i == 19) (fun _ v W => ∃ q k, v = .slice q 3 k ∧ IsRow (fun x : Int => [.int .i64 x]) 1 W v [s.lo + d, s.lo - 1, s.hi + 1]) (by kernel_rfl) (fun ν => by kernel_rfl) (by kernel_rfl) (by kernel_rfl) (by kernel_rfl) (by kernel_rfl) ?mono ?_
  rotate_left 1
  apply Exists.intro
  refine ⟨fun ν L hL => ?_, fun c oc hc hU ν W hE hΦ => ?_, fun ν W hE hΦ => ?_⟩
  · simp only [modU, cOp, List.mapIdx_cons, List.mapIdx_nil, Nat.zero_add, Nat.reduceAdd, Nat.reduceBEq, Bool.or_false, Bool.false_or, Bool.or_true, Bool.true_or, Bool.or_self, Bool.false_eq_true, if_false, if_true, List.take_succ_cons, List.take_zero]
    repeat (go_big_quiet_step (fail))
    exact wpQuiet_nil hL
  · simp at hU
    subst hU
    simp only [List.getElem?_cons_succ, List.getElem?_cons_zero, Option.some.injEq] at hc
    subst hc
    exact .inr ⟨.slice (some ⟨W.heap.size, 0, none⟩) 3 3, W.alloc (.cells #[.int .i64 (s.lo + d), .int .i64 (s.lo - 1), .int .i64 (s.hi + 1)] 3), by kernel_rfl, exq, ⟨_, _, rfl, row_three _ _ _ _ _ rfl⟩⟩
  rotate_left 1
  case mono => exact fun _ v W W' h hE => by obtain ⟨q, k, k1, k2⟩ := h; exact ⟨q, k, k1, k2.mono hE⟩
  obtain ⟨q9, k9, e9, hr9⟩ := hΦ 19 (by decide) rfl
  simp only [List.drop_succ_cons, List.drop_zero]
  generalize ν 19 = v9 at e9 hr9 ⊢
  subst e9
  have how := ownsRow_exts HOWN.out (show World.Exts _ W from World.Exts.trans exq hE)
  have hEW : A2.Exts W := World.Exts.trans exq hE
  have HOW := Lib.hid how
  clear how
  clear hΦ hE e3 w7 f1 f2 f3 f4 f5
  go_wp2_with (at_builtin; refine wpList_append_rowL (.tmp 109) (.tmp 128) (ys := [s.lo + d, s.lo - 1, s.hi + 1]) (enc := fun x : Int => [.int .i64 x]) elem_int rfl rfl rfl HOW.out rfl hr9 (fun _ _ => rfl) (fun y _ u hu => by simp at hu; subst hu; rfl) (by simp) (by decide) hEW.size ?_)
  intro v' w' hown' happ
  have hE3 : A2.Exts w' := happ.exts A2 hEW (Nat.le_refl _)
  have hr6 : IsRow (fun x : Int => [.int .i64 x]) 1 w' v' [f.lo, z.hi, other, s.lo + d, s.lo - 1, s.hi + 1] := IsRow.of_owns (by simpa using hown') (fun _ _ => rfl)
  obtain ⟨q6, b6, o6, c6, e6, hm6, hp6, hc6⟩ := hr6.ex
  subst e6
  obtain ⟨rfl, hl6⟩ := hp6 (by simp)
  simp only [List.length_cons, List.length_nil, Nat.zero_add, Nat.reduceAdd] at hm6 ⊢
  have hE4 := hE2.trans hE3
  have hEw := hwA.trans (hE1.trans hE4)
  replace a0 := hE4.cell a0
  replace g0 := hE4.cell g0
  replace g1 := hE4.cell g1
  replace g2 := hE4.cell g2
  replace g3 := hE4.cell g3
  replace g4 := hE4.cell g4
  replace g5 := hE4.cell g5
  replace g6 := hE4.cell g6
  replace g7 := hE4.cell g7
  replace l1 := Lays.of_cell a0
  replace l2 := Lays.of_cell g0
  have hv2 := HV1.out.mono (hE1.trans hE4)
  clear hown' happ HOWN HOW hEW hr9 hr6 hp6 hE4 hE3 hE2 hE1 hwA HV1 HCV hlv
  have HC6 := Lib.hid hc6
  clear hc6
  have HV1 := Lib.hid hv2
  clear hv2
  go_wp2_with fail
  rename_i i9_3_1 i9_3_2
  revert ts g which other w hwb hob q0 cp0 q1 cp1 q2 cp2 q3 cp3 HB HL HR HS HWF HCD hg1 hg3 hg4 hg5 HRD HGA HG2 TL hlen HT1 HTL HTN HCK i9_1_1 bv1 ov1 cv1 hmv1 i9_1_2 A HTB u8 u12 u13 u61 u62 u63 u64 u65 u66 u67 u68 u69 u70 u71 u72 u73 u74 u75 u76 u77 u78 u79 u80 u81 u82 u83 u84 u85 u86 i9_2_1 i9_2_2 i9_2_3 A1 f z kw hkl s hsb HF HZ HS1 X A2 d hd1 hd2 ν W q9 k9 w' b6 o6 c6 hl6 hm6 hEw a0 g0 g1 g2 g3 g4 g5 g6 g7 l1 l2 HC6 HV1 i9_3_1 i9_3_2
  exact HG.out
end Go.Proofs.YtfjkiemjmnnbkaaGreatDoor

/-
  The law ScaleTuned: its walk.
-/
namespace Go.Proofs.YtfjkiemjmnnbkaaGreatDoor
open Go.RowKit Kr
set_option linter.unusedSimpArgs false

set_option maxRecDepth 100000 in
set_option maxHeartbeats 8000000 in
noncomputable def l04td_any_c4 : { G : Prop // G → l04td_any_c3.val } := by
  apply Subtype.mk
  case property =>
  intro hG
  have HG := Lib.hid hG
  clear hG
  intro ts g which other w hwb hob q0 cp0 q1 cp1 q2 cp2 q3 cp3 HB HL HR HS HWF HCD hg1 hg3 hg4 hg5 HRD HGA HG2 TL hlen HT1 HTL HTN HCK i9_1_1 bv1 ov1 cv1 hmv1 i9_1_2 A HTB u8 u12 u13 u61 u62 u63 u64 u65 u66 u67 u68 u69 u70 u71 u72 u73 u74 u75 u76 u77 u78 u79 u80 u81 u82 u83 u84 u85 u86 i9_2_1 i9_2_2 i9_2_3 A1 f z kw hkl s hsb HF HZ HS1 X A2 d hd1 hd2 ν W q9 k9 w' b6 o6 c6 hl6 hm6 hEw a0 g0 g1 g2 g3 g4 g5 g6 g7 l1 l2 HC6 HV1 i9_3_1 i9_3_2
  obtain ⟨L6, hL6⟩ : ∃ L, [f.lo, z.hi, other, s.lo + d, s.lo - 1, s.hi + 1] = L := ⟨_, rfl⟩
  have hl6n : L6.length = 6 := by rw [← hL6]; rfl
  have hc6 := HC6.out
  rw [hL6] at hc6
  have HCS := Lib.hid hc6
  clear hc6
  have HLN := Lib.hid hl6n
  clear hl6n
  clear HC6 hL6
  go_loopw [132] (fun i wr => ∃ j : Nat, j ≤ 6 ∧ i = .int .i64 j ∧ w'.Exts wr) (fun i _ => 6 - (intOf i).toNat)
  case atStart => exact ⟨0, Nat.zero_le _, rfl, World.Exts.refl _⟩
  case round =>
    obtain ⟨j, hj, rfl, hE⟩ := hrel
    rcases Nat.lt_or_ge j 6 with hlt | hge
    rotate_left
    · have hEa := hEw.trans hE
      go_wp2_with fail
      go_ret
      exact ⟨rfl, (exf hEa)⟩
    obtain ⟨x, hx⟩ := some_of_lt (xs := L6) (k := j) (by rw [HLN.out]; exact hlt)
    have c0 := hE.cell (HCS.out j x hx 0 _ rfl)
    simp only [Nat.mul_one, Nat.add_zero] at c0
    have nc0 := Lays.of_cell c0
    clear hx
    obtain ⟨Wa, hWa⟩ : ∃ W, W = wr := ⟨_, rfl⟩
    subst hWa
    have e0 := hE.cell a0
    have y0 := hE.cell g0
    have y1 := hE.cell g1
    have y2 := hE.cell g2
    have y3 := hE.cell g3
    have y4 := hE.cell g4
    have y5 := hE.cell g5
    have y6 := hE.cell g6
    have y7 := hE.cell g7
    have n0 := Lays.of_cell e0
    have n1 := Lays.of_cell y0
    have hEa := hEw.trans hE
    have hvr := HV1.out.mono hE
    have TT := fun (W : World) (hE9 : Wa.Exts W) => scale_Truth_any ts _ g _ _ _ x W (HB.out.mono (hEa.trans hE9)) (HGA.out.mono (hEa.trans hE9))
    have HTT := Lib.hid TT
    clear TT
    have HVR := Lib.hid hvr
    clear hvr
    cases hin : inL TL x
    · have hno : ¬ has (totals (ts.map Prod.fst) g) x := fun h => by rw [HTL.out] at h; rw [inL_iff.2 h] at hin; cases hin
      have htr := truth_none HCK.out hno
      have HTR := Lib.hid htr
      clear htr
      have HIN := Lib.hid hin
      clear hin
      clear hno
      go_wp2_with (first
        | (go_at_call 36; refine (HTT.out _ exq).mono ?_; rintro e w9 ⟨v1, v2, t1, t2, er, rfl, h1, h2, h3, X8, rfl⟩; rw [HTR.out] at h1; obtain ⟨⟨rfl, rfl⟩, rfl⟩ := (by simpa using h1 : (t1 = [] ∧ t2 = []) ∧ 6 = er); (obtain ⟨qa, ca, rfl⟩ := h2.len); (obtain ⟨qc, cc, rfl⟩ := h3.len); clear h1 h2 h3; simp only [List.length_nil])
        | (go_at_call 33; refine (l04_in_any TL _ x _ (HVR.out.mono exq)).mono ?_; rw [HIN.out]; rintro e w9 ⟨rfl, X9, rfl⟩))
      go_roundw
      case rel => exact ⟨j + 1, by omega, by go_num, hE.trans exq⟩
      case measure => simp [intOf]; omega
    have hhas : has (totals (ts.map Prod.fst) g) x := by rw [HTL.out]; exact inL_iff.1 hin
    obtain ⟨ch, ws, etr, hch, hws, htof, hsum, htun, -, -⟩ := truth_some HCK.out hhas
    have HTR := Lib.hid etr
    clear etr
    have HIN := Lib.hid hin
    clear hin
    have HCH := Lib.hid hch
    clear hch
    have HWS := Lib.hid hws
    clear hws
    have HTO := Lib.hid htof
    clear htof
    have HSU := Lib.hid hsum
    clear hsum
    have HTN2 := Lib.hid htun
    clear htun
    clear hhas
    rename_i i9_4_1
    revert ts g which other w hwb hob q0 cp0 q1 cp1 q2 cp2 q3 cp3 HB HL HR HS HWF HCD hg1 hg3 hg4 hg5 HRD HGA HG2 TL hlen HT1 HTL HTN HCK i9_1_1 bv1 ov1 cv1 hmv1 i9_1_2 A HTB i9_4_1 u12 u13 u61 u62 u63 u64 u65 u66 u67 u68 u69 u70 u71 u72 u73 u74 u75 u76 u77 u78 u79 u80 u81 u82 u83 u84 u85 u86 i9_2_1 i9_2_2 i9_2_3 A1 f z kw hkl s hsb HF HZ HS1 X A2 d hd1 hd2 ν W q9 k9 w' b6 o6 c6 hl6 hm6 hEw a0 g0 g1 g2 g3 g4 g5 g6 g7 l1 l2 HV1 i9_3_1 i9_3_2 L6 HCS HLN u8 u17 u18 u19 u20 u21 u22 u24 u25 u27 u28 u29 u30 u31 u133 u134 u135 u136 u137 u138 u139 u140 u141 u142 u143 u144 u145 u146 u147 u148 u149 u150 u151 u152 u153 u154 u155 u156 u157 u158 u159 u160 u161 u162 u163 u164 u165 u166 u167 u168 u169 u170 u171 u172 u173 u174 u175 u176 u177 u178 u179 u180 u181 u182 u183 u184 u185 u186 u187 u188 u189 u190 u191 u192 u193 u194 u195 u196 u197 u198 u199 u200 u201 u202 u203 u204 u205 u206 u207 u208 u209 u210 u211 u212 u213 u214 u215 u216 u217 u218 u219 u220 u221 u222 u223 u224 u225 u226 u227 u228 u229 u230 u231 u232 u233 u234 u235 u236 u237 u238 u239 u240 u241 u242 u243 u244 u245 u246 u247 u248 u249 u250 u251 u252 u253 u254 u255 u256 u257 u258 u259 u260 u261 u262 u263 u264 u265 u266 u267 u268 u269 u270 u271 u272 u273 u274 u275 u276 u277 u278 u279 u280 u281 u282 u283 u284 u285 u286 u287 u288 u289 j hj hlt x Wa hE c0 nc0 e0 y0 y1 y2 y3 y4 y5 y6 y7 n0 n1 hEa HTT HVR ch ws HTR HIN HCH HWS HTO HSU HTN2
    exact HG.out
end Go.Proofs.YtfjkiemjmnnbkaaGreatDoor
