/-
  Several texts in one: see the heads of its parts.
-/
import Derived.Test.YtfjkiemjmnnbkaaGreatDoorAm
import Derived.Test.YtfjkiemjmnnbkaaGreatDoorRy
import Derived.Test.YtfjkiemjmnnbkaaGreatDoorWd
import Derived.Test.YtfjkiemjmnnbkaaGreatDoorHp
import Derived.Test.YtfjkiemjmnnbkaaGreatDoorWdG
import Derived.Deep.DeepCutAuto

/-
  The law ScaleWider: its walk.
-/
namespace Go.Proofs.YtfjkiemjmnnbkaaGreatDoor
open Go.RowKit Kr
set_option linter.unusedSimpArgs false

set_option maxRecDepth 100000 in
set_option maxHeartbeats 8000000 in
noncomputable def l04wd_any_c1 : { G : Prop // G → ∀ (ts : List (Kr.Scale × Value)) (v : Value) (g : Gear) (lv rv sv : Value) (n : Norm) (more : Kr.Trial) (by_ : List Int) (bv : Value) (w : World) (_ : BayAt w v ts)
    (_ : IsRow (fun t : Kr.Load => [.int .i64 t.scale, .int .i64 t.shown]) 2 w lv g.loads) (_ : IsRow (fun x : Int => [.int .i64 x]) 1 w rv g.runners) (_ : IsRow (fun x : Int => [.int .i64 x]) 1 w sv g.strokes) (_ : ∀ l ∈ g.loads, (Lit.int .i64 l.scale).wf = true) (_ : IsRow (fun x : Int => [.int .u32 x]) 1 w bv by_) (_ : ∀ x ∈ by_, 0 ≤ x ∧ x ≤ 4294967295) (_ : CondsAt w),
    Calls Tryz.prog 9 #[.agg #[v], .agg #[lv, .int .i64 g.added, .int .i64 g.base, .int .i64 g.jitter, rv, sv, .int .i64 g.spread, .bool g.stamp], .agg #[.int .i64 n.total.lo, .int .i64 n.total.hi, .int .i64 n.added, .int .i64 n.warm, .int .i64 n.hard.lo, .int .i64 n.hard.hi, .bool n.stamp], .agg #[.int .i64 more.weight, .int .i64 more.shown], bv] w fun e w' => e = .returned (.bool true) ∧ w.Exts w' } := by
  apply Subtype.mk
  case property =>
  intro hG
  have HG := Lib.hid hG
  clear hG
  intro ts v g lv rv sv n more by_ bv w hrow hl hr hs hwf hby hbb hcd
  obtain ⟨q0, cp0, rfl⟩ := hrow.row.len
  obtain ⟨q1, cp1, rfl⟩ := hl.len
  obtain ⟨q2, cp2, rfl⟩ := hr.len
  obtain ⟨q3, cp3, rfl⟩ := hs.len
  have HB := Lib.hid hrow
  clear hrow
  have HL := Lib.hid hl
  clear hl
  have HR := Lib.hid hr
  clear hr
  have HS := Lib.hid hs
  clear hs
  have HWF := Lib.hid hwf
  clear hwf
  have HCD := Lib.hid hcd
  clear hcd
  obtain ⟨qb, cb, rfl⟩ := hby.len
  have HBY := Lib.hid hby
  clear hby
  have HBB := Lib.hid hbb
  clear hbb
  cases hrd : readyB ts g
  case false =>
    as_aux_lemma =>
    have HRD := Lib.hid hrd
    clear hrd
    go_enter Tryz.func9, Tryz.ntmps9
    go_wp2_with (first
      | (go_at_call 21; refine (l04_alive_any _ (HCD.out.mono exq)).mono ?_; rintro e w' ⟨rfl, X0, rfl⟩)
      | (go_at_call 22; refine (l04_ready_any ts _ g _ _ _ _ (HB.out.mono exq) (HL.out.mono exq) (HR.out.mono exq) (HS.out.mono exq)).mono ?_; rintro e w' ⟨rfl, X1, rfl⟩; rw [HRD.out]))
    go_ret
    exact ⟨rfl, exq⟩
  obtain ⟨hgr, hck⟩ := ready_parts hrd
  have hgn := great_not hgr
  have hga : GearAt w (g, .slice q1 g.loads.length cp1, .slice q2 g.runners.length cp2, .slice q3 g.strokes.length cp3) := ⟨HL.out, HR.out, HS.out, by dsimp only; omega, HWF.out⟩
  obtain ⟨hg1, hg2, hg3, hg4, hg5⟩ := hgn
  have hg2' : ∀ x ∈ ts, x.1.trials.length ≤ 1000 := fun x hx => Nat.le_trans (hg2 x hx) (by omega)
  have HRD := Lib.hid hrd
  clear hrd
  have HGA := Lib.hid hga
  clear hga
  have HG2 := Lib.hid hg2'
  clear hg2'
  clear hgr hg2
  cases hn : normB n
  case false =>
    as_aux_lemma =>
    have HN := Lib.hid hn
    clear hn
    clear hck
    go_enter Tryz.func9, Tryz.ntmps9
    go_wp2_with (first
      | (go_at_call 21; refine (l04_alive_any _ (HCD.out.mono exq)).mono ?_; rintro e w' ⟨rfl, X0, rfl⟩)
      | (go_at_call 22; refine (l04_ready_any ts _ g _ _ _ _ (HB.out.mono exq) (HL.out.mono exq) (HR.out.mono exq) (HS.out.mono exq)).mono ?_; rintro e w' ⟨rfl, X1, rfl⟩; rw [HRD.out])
      | (go_at_call 23; refine (r04_Norm_any n _).mono ?_; rintro e w' ⟨rfl, X2, rfl⟩; rw [HN.out]))
    go_ret
    exact ⟨rfl, exq⟩
  have HN := Lib.hid hn
  clear hn
  rcases Nat.eq_zero_or_pos ts.length with h0 | h0
  ·
    as_aux_lemma =>
    have hb0 : ((ts.length : Int) == 0) = true := by simp [h0]
    clear hck h0
    go_enter Tryz.func9, Tryz.ntmps9
    go_wp2_with (first
      | (go_at_call 21; refine (l04_alive_any _ (HCD.out.mono exq)).mono ?_; rintro e w' ⟨rfl, X0, rfl⟩)
      | (go_at_call 22; refine (l04_ready_any ts _ g _ _ _ _ (HB.out.mono exq) (HL.out.mono exq) (HR.out.mono exq) (HS.out.mono exq)).mono ?_; rintro e w' ⟨rfl, X1, rfl⟩; rw [HRD.out])
      | (go_at_call 23; refine (r04_Norm_any n _).mono ?_; rintro e w' ⟨rfl, X2, rfl⟩; rw [HN.out]))
    go_ret
    exact ⟨rfl, exq⟩
  have hb0 : ((ts.length : Int) == 0) = false := beq_eq_false_iff_ne.2 (by omega)
  obtain ⟨er, her⟩ : ∃ er : Int, er = (if totals (ts.map Prod.fst) g = [] then 6 else 0) := ⟨_, rfl⟩
  have T1 := fun (W : World) (hE : w.Exts W) => scale_Totals_any ts _ g _ _ _ W (HB.out.mono hE) (HGA.out.mono hE)
  simp only [wd_totals hck, ← her] at T1
  have her4 : er = 0 ∨ er = 6 := by split at her <;> omega
  have HCK := Lib.hid hck
  clear hck
  have HT1 := Lib.hid T1
  clear T1
  have HER := Lib.hid her
  clear her
  have HER4 := Lib.hid her4
  clear her4
  go_enter Tryz.func9, Tryz.ntmps9
  go_upto_region 7 with (first
    | (go_at_call 21; refine (l04_alive_any _ (HCD.out.mono exq)).mono ?_; rintro e w' ⟨rfl, X0, rfl⟩)
    | (go_at_call 22; refine (l04_ready_any ts _ g _ _ _ _ (HB.out.mono exq) (HL.out.mono exq) (HR.out.mono exq) (HS.out.mono exq)).mono ?_; rintro e w' ⟨rfl, X1, rfl⟩; rw [HRD.out])
    | (go_at_call 23; refine (r04_Norm_any n _).mono ?_; rintro e w' ⟨rfl, X2, rfl⟩; rw [HN.out])
    | (go_at_call 29; refine (HT1.out _ exq).mono ?_; rintro e w' ⟨v1, rfl, hv1, X3, rfl⟩; (obtain ⟨qv1, cv1, rfl⟩ := hv1.len); (have HV1 := Lib.hid hv1); clear hv1))
  obtain ⟨A, hA⟩ : ∃ A, World.ext _ X3 = A := ⟨_, rfl⟩
  have hwA : w.Exts A := by rw [← hA]; exact exq
  have hv1 := HV1.out.mono (w' := A) (by rw [← hA]; exact World.Exts.refl _)
  have a0 : A.cell? ⟨w.heap.size, 0, none⟩ = some (.slice q0 ts.length cp0) := by rw [← hA]; simp [go_sem]
  have g0 : A.cell? ⟨w.heap.size + 1, 0, none⟩ = some (.slice q1 g.loads.length cp1) := by rw [← hA]; simp [go_sem]
  have g1 : A.cell? ⟨w.heap.size + 1, 1, none⟩ = some (.int .i64 g.added) := by rw [← hA]; simp [go_sem]
  have g2 : A.cell? ⟨w.heap.size + 1, 2, none⟩ = some (.int .i64 g.base) := by rw [← hA]; simp [go_sem]
  have g3 : A.cell? ⟨w.heap.size + 1, 3, none⟩ = some (.int .i64 g.jitter) := by rw [← hA]; simp [go_sem]
  have g4 : A.cell? ⟨w.heap.size + 1, 4, none⟩ = some (.slice q2 g.runners.length cp2) := by rw [← hA]; simp [go_sem]
  have g5 : A.cell? ⟨w.heap.size + 1, 5, none⟩ = some (.slice q3 g.strokes.length cp3) := by rw [← hA]; simp [go_sem]
  have g6 : A.cell? ⟨w.heap.size + 1, 6, none⟩ = some (.int .i64 g.spread) := by rw [← hA]; simp [go_sem]
  have g7 : A.cell? ⟨w.heap.size + 1, 7, none⟩ = some (.bool g.stamp) := by rw [← hA]; simp [go_sem]
  have m0 : A.cell? ⟨w.heap.size + 1 + 1, 0, none⟩ = some (.int .i64 n.total.lo) := by rw [← hA]; simp [go_sem]
  have m1 : A.cell? ⟨w.heap.size + 1 + 1, 1, none⟩ = some (.int .i64 n.total.hi) := by rw [← hA]; simp [go_sem]
  have m2 : A.cell? ⟨w.heap.size + 1 + 1, 2, none⟩ = some (.int .i64 n.added) := by rw [← hA]; simp [go_sem]
  have m3 : A.cell? ⟨w.heap.size + 1 + 1, 3, none⟩ = some (.int .i64 n.warm) := by rw [← hA]; simp [go_sem]
  have m4 : A.cell? ⟨w.heap.size + 1 + 1, 4, none⟩ = some (.int .i64 n.hard.lo) := by rw [← hA]; simp [go_sem]
  have m5 : A.cell? ⟨w.heap.size + 1 + 1, 5, none⟩ = some (.int .i64 n.hard.hi) := by rw [← hA]; simp [go_sem]
  have m6 : A.cell? ⟨w.heap.size + 1 + 1, 6, none⟩ = some (.bool n.stamp) := by rw [← hA]; simp [go_sem]
  have o0 : A.cell? ⟨w.heap.size + 1 + 1 + 1, 0, none⟩ = some (.int .i64 more.weight) := by rw [← hA]; simp [go_sem]
  have o1 : A.cell? ⟨w.heap.size + 1 + 1 + 1, 1, none⟩ = some (.int .i64 more.shown) := by rw [← hA]; simp [go_sem]
  rw [hA]
  have HW1 := Lib.hid hv1
  clear hv1
  clear hA HV1
  clear X0 X1 X2 X3
  have l1 := Lays.of_cell a0
  have l2 := Lays.of_cell g0
  have l3 := Lays.of_cell m0
  have l4 := Lays.of_cell o0
  rename_i i9_1_1 i9_1_2 i9_1_3 i9_1_4 i9_1_5
  revert ts g n more by_ w q0 cp0 q1 cp1 q2 cp2 q3 cp3 HB HL HR HS HWF HCD qb cb HBY HBB hg1 hg3 hg4 hg5 HRD HGA HG2 HN h0 hb0 er HCK HT1 HER HER4 i9_1_1 qv1 cv1 i9_1_2 i9_1_3 i9_1_4 i9_1_5 A hwA a0 g0 g1 g2 g3 g4 g5 g6 g7 m0 m1 m2 m3 m4 m5 m6 o0 o1 HW1 l1 l2 l3 l4
  exact HG.out
end Go.Proofs.YtfjkiemjmnnbkaaGreatDoor

/-
  The law ScaleWider: its walk.
-/
namespace Go.Proofs.YtfjkiemjmnnbkaaGreatDoor
open Go.RowKit Kr
set_option linter.unusedSimpArgs false

set_option maxRecDepth 100000 in
set_option maxHeartbeats 8000000 in
noncomputable def l04wd_any_c2 : { G : Prop // G → l04wd_any_c1.val } := by
  apply Subtype.mk
  case property =>
  intro hG
  have HG := Lib.hid hG
  clear hG
  intro ts g n more by_ w q0 cp0 q1 cp1 q2 cp2 q3 cp3 HB HL HR HS HWF HCD qb cb HBY HBB hg1 hg3 hg4 hg5 HRD HGA HG2 HN h0 hb0 er HCK HT1 HER HER4 i9_1_1 qv1 cv1 i9_1_2 i9_1_3 i9_1_4 i9_1_5 A hwA a0 g0 g1 g2 g3 g4 g5 g6 g7 m0 m1 m2 m3 m4 m5 m6 o0 o1 HW1 l1 l2 l3 l4
  go_cut [60] (fun c wx => c = .bool false ∧ A = wx)
  case first =>
    rcases HER4.out with h | h
    all_goals
      subst h
      go_wp2_with fail
      go_meet
      exact ⟨rfl, rfl⟩
  case rest =>
  obtain ⟨rfl, rfl⟩ := hcut
  go_upto_region 9 with (fail)
  have ch0 := chooseL_bd HBB.out 0
  obtain ⟨kx, hkx⟩ : ∃ kx : Nat, kx = (chooseL by_ 0 % (ts.length : Int)).toNat := ⟨_, rfl⟩
  have hem1 := Int.emod_nonneg (chooseL by_ 0) (show (ts.length : Int) ≠ 0 by omega)
  have hem2 := Int.emod_lt_of_pos (chooseL by_ 0) (show 0 < (ts.length : Int) by omega)
  have hkl : kx < ts.length := by omega
  have e0 : (chooseL by_ 0).tmod (ts.length : Int) = (kx : Int) := by rw [Int.tmod_eq_emod_of_nonneg ch0.1]; omega
  generalize hr0 : chooseL by_ 0 = r0 at e0
  have HR0 := Lib.hid hr0
  clear hr0
  clear hkx hem1 hem2 ch0
  refine wp_region_ext (by kernel_rfl) (by kernel_rfl) ?_
  repeat (go_big_quiet_step ((go_at_call 25; exact Calls.in_ext_eq (l04_choose_at by_ _ 0 _ _ (HBY.out.mono (hwA.trans ⟨_, rfl⟩)) HBB.out (by omega) rfl) (by rw [HR0.out]))))
  refine wpQuiet_nil ?_
  rintro _ ⟨X, rfl⟩
  clear e0 HR0
  go_upto_region 11 with (go_at_call 44; refine (r04_TwinBay_new ts _ _ (HB.out.mono (exf hwA)) (by omega) HG2.out).mono ?_; rintro e w' ⟨vb, ts1, rfl, hB1, hF1, ⟨X4, rfl⟩, hT1, hO1, hN1⟩; (obtain ⟨gS, cS, rfl, k1, k2, k3, -, k5⟩ := hN1.resolve_left (fun e => by rw [e] at hF1; have := congrArg List.length hF1; simp at this; omega)); (have HB1 := Lib.hid hB1); (have HF1 := Lib.hid hF1); (have HO1 := Lib.hid hO1); (have HK3 := Lib.hid k3); (have HK5 := Lib.hid k5); clear hB1 hF1 hT1 hO1 hN1 k3 k5)
  obtain ⟨W0, hW0⟩ : ∃ W, World.ext (World.ext A X) X4 = W := ⟨_, rfl⟩
  have hE0 : A.Exts W0 := by rw [← hW0]; exact exq
  have hgS : A.heap.size ≤ gS := Nat.le_trans (World.size_ext_le _ X) k1
  have hk3 := HK3.out
  have hk5 := HK5.out
  have ho1 := HO1.out
  have hsl : ts1.length = ts.length := by have h := congrArg List.length HF1.out; simpa using h
  rw [hW0] at hk3 hk5 ho1 ⊢
  have hsc : SC W0 gS ts1 := by
    refine ⟨hk3, ?_⟩
    have hne : ts1 ≠ [] := fun e => by rw [e] at hsl; simp at hsl; omega
    rcases ho1.resolve_left hne with h | h
    · have := h gS rfl; omega
    · exact h gS rfl
  clear hW0 HB1 HK3 HK5 HO1 k1 ho1 hk3
  have hfr := wd_rows (A := A) (hE0.alloc (.cells #[.slice (some ⟨gS, 0, none⟩) ts1.length cS] 24)) (hk5.exts ((World.Exts.refl W0).alloc _)) hgS (laysAs_size W0 _ rfl : LaysAs (W0.alloc (.cells [.slice (some ⟨gS, 0, none⟩) ts1.length cS].toArray 24)) W0.heap.size (.cells [.slice (some ⟨gS, 0, none⟩) ts1.length cS].toArray 24 (0, 0))) hE0.size
  have hsc1 := hsc.exts ((World.Exts.refl W0).alloc (.cells #[.slice (some ⟨gS, 0, none⟩) ts1.length cS] 24))
  obtain ⟨pb, hpb⟩ : ∃ p, W0.heap.size = p := ⟨_, rfl⟩
  have hpA : A.heap.size ≤ pb := by rw [← hpb]; exact hE0.size
  obtain ⟨W1, hW1⟩ : ∃ W, W0.alloc (.cells #[.slice (some ⟨gS, 0, none⟩) ts1.length cS] 24) = W := ⟨_, rfl⟩
  rw [hpb] at hfr ⊢
  rw [hW1] at hfr hsc1 ⊢
  clear hpb hW1 hk5 hsc hE0
  clear X4 X W0
  have HSC := Lib.hid hsc1
  clear hsc1
  have HFR := Lib.hid hfr
  clear hfr
  have HSL := Lib.hid hsl
  clear hsl
  rename_i i9_2_1 i9_2_2
  revert ts g n more by_ w q0 cp0 q1 cp1 q2 cp2 q3 cp3 HB HL HR HS HWF HCD qb cb HBY HBB hg1 hg3 hg4 hg5 HRD HGA HG2 HN h0 hb0 er HCK HT1 HER HER4 i9_1_1 qv1 cv1 A hwA a0 g0 g1 g2 g3 g4 g5 g6 g7 m0 m1 m2 m3 m4 m5 m6 o0 o1 HW1 l1 l2 l3 l4 u30 u31 u32 u33 u34 u35 u36 u37 u38 u39 u40 u41 u42 u43 u44 u45 u46 u47 u48 u49 u50 u51 u52 u53 u54 u55 u56 u57 u58 u59 u61 u62 u63 u64 u65 u66 u67 u68 u69 u70 u71 u72 u73 u74 u75 u76 u77 u78 u79 u80 u81 u82 u83 u84 u85 u86 u87 u88 u89 u90 u91 u92 u93 u94 u95 u96 u97 u98 u99 u100 u101 u102 u103 u104 u105 u106 u107 u108 u109 u110 u111 u112 u113 u114 u115 u116 u117 u118 u119 u120 u121 u122 u123 u124 u125 u126 u127 u128 u129 u130 u131 u132 u133 u134 u135 u136 u137 u138 u139 u140 u141 u142 u143 u144 u145 u146 u147 u148 u149 u150 u151 u152 u153 u154 u155 u156 u157 u158 u159 u160 u161 u162 u163 u164 u165 u166 u167 u168 u169 u170 u171 u172 u173 u174 u175 u176 u177 u178 u179 u180 u181 u182 u183 u184 u185 u186 u187 u188 u189 u190 u191 u192 u193 u194 u195 u196 u197 u198 u199 u200 u201 u202 u203 u204 u205 u206 u207 u208 u209 u210 u211 u212 u213 u214 u215 u216 u217 u218 u219 u220 u221 u222 u223 u224 u225 u226 u227 u228 u229 u230 u231 u232 u233 u234 u235 u236 u237 u238 u239 u240 u241 u242 u245 u246 u247 u248 u249 u250 u251 u252 u253 u254 u255 u256 u257 u258 u259 u260 u261 u262 u263 u264 kx hkl r0 ts1 gS cS k2 HF1 i9_2_1 i9_2_2 hgS pb hpA W1 HSC HFR HSL
  exact HG.out
end Go.Proofs.YtfjkiemjmnnbkaaGreatDoor

/-
  The law ScaleWider: its walk.
-/
namespace Go.Proofs.YtfjkiemjmnnbkaaGreatDoor
open Go.RowKit Kr
set_option linter.unusedSimpArgs false

set_option maxRecDepth 100000 in
set_option maxHeartbeats 8000000 in
noncomputable def l04wd_any_c3 : { G : Prop // G → l04wd_any_c2.val } := by
  apply Subtype.mk
  case property =>
  intro hG
  have HG := Lib.hid hG
  clear hG
  intro ts g n more by_ w q0 cp0 q1 cp1 q2 cp2 q3 cp3 HB HL HR HS HWF HCD qb cb HBY HBB hg1 hg3 hg4 hg5 HRD HGA HG2 HN h0 hb0 er HCK HT1 HER HER4 i9_1_1 qv1 cv1 A hwA a0 g0 g1 g2 g3 g4 g5 g6 g7 m0 m1 m2 m3 m4 m5 m6 o0 o1 HW1 l1 l2 l3 l4 u30 u31 u32 u33 u34 u35 u36 u37 u38 u39 u40 u41 u42 u43 u44 u45 u46 u47 u48 u49 u50 u51 u52 u53 u54 u55 u56 u57 u58 u59 u61 u62 u63 u64 u65 u66 u67 u68 u69 u70 u71 u72 u73 u74 u75 u76 u77 u78 u79 u80 u81 u82 u83 u84 u85 u86 u87 u88 u89 u90 u91 u92 u93 u94 u95 u96 u97 u98 u99 u100 u101 u102 u103 u104 u105 u106 u107 u108 u109 u110 u111 u112 u113 u114 u115 u116 u117 u118 u119 u120 u121 u122 u123 u124 u125 u126 u127 u128 u129 u130 u131 u132 u133 u134 u135 u136 u137 u138 u139 u140 u141 u142 u143 u144 u145 u146 u147 u148 u149 u150 u151 u152 u153 u154 u155 u156 u157 u158 u159 u160 u161 u162 u163 u164 u165 u166 u167 u168 u169 u170 u171 u172 u173 u174 u175 u176 u177 u178 u179 u180 u181 u182 u183 u184 u185 u186 u187 u188 u189 u190 u191 u192 u193 u194 u195 u196 u197 u198 u199 u200 u201 u202 u203 u204 u205 u206 u207 u208 u209 u210 u211 u212 u213 u214 u215 u216 u217 u218 u219 u220 u221 u222 u223 u224 u225 u226 u227 u228 u229 u230 u231 u232 u233 u234 u235 u236 u237 u238 u239 u240 u241 u242 u245 u246 u247 u248 u249 u250 u251 u252 u253 u254 u255 u256 u257 u258 u259 u260 u261 u262 u263 u264 kx hkl r0 ts1 gS cS k2 HF1 i9_2_1 i9_2_2 hgS pb hpA W1 HSC HFR HSL
  obtain ⟨⟨s, tv⟩, hs1⟩ := some_of_lt (xs := ts1) (k := kx) (by rw [HSL.out]; exact hkl)
  have hrk : (bxRow pb (.slice (some ⟨gS, 0, none⟩) ts1.length cS) :: ts1.map trRow)[kx + 1]? = some (trRow (s, tv)) := by simp [hs1]
  obtain ⟨hG1, hR1⟩ := HFR.out.split (kx + 1) hrk
  have hts : s.trials.length ≤ 1000 := by
    have h1 : s ∈ ts.map Prod.fst := by rw [← HF1.out]; exact List.mem_map.2 ⟨_, List.mem_of_getElem? hs1, rfl⟩
    obtain ⟨y, hy, e⟩ := List.mem_map.1 h1
    rw [← e]; exact HG2.out y hy
  have w4 : (0 : Int) ≤ (kx : Int) := by omega
  have w5 : (kx : Int) < (ts1.length : Int) := by rw [HSL.out]; omega
  haveI : Nonempty (GW (WdG A A.heap.size gS pb (.slice (some ⟨gS, 0, none⟩) ts1.length cS) ts1 kx tv)) := ⟨⟨W1, hG1, HSC.out⟩⟩
  have kb := fun (Y : GW (WdG A A.heap.size gS pb (.slice (some ⟨gS, 0, none⟩) ts1.length cS) ts1 kx tv)) => WdG.box Y
  have k6 := fun (Y : GW (WdG A A.heap.size gS pb (.slice (some ⟨gS, 0, none⟩) ts1.length cS) ts1 kx tv)) => WdG.cell (j := 6) Y hs1 rfl
  have ko0 := fun (Y : GW (WdG A A.heap.size gS pb (.slice (some ⟨gS, 0, none⟩) ts1.length cS) ts1 kx tv)) => Y.h.1.fr.ext.cell o0
  have ko1 := fun (Y : GW (WdG A A.heap.size gS pb (.slice (some ⟨gS, 0, none⟩) ts1.length cS) ts1 kx tv)) => Y.h.1.fr.ext.cell o1
  have HS1 := Lib.hid hs1
  clear hs1
  refine wp_region_inv 14 (fun i => i == 10 || i == 11) (FrPhi A.heap.size ((bxRow pb (.slice (some ⟨gS, 0, none⟩) ts1.length cS) :: ts1.map trRow).eraseIdx (kx + 1)) tv (appTab 100 101 10 11 undef undef 95 [.int .i64 more.weight, .int .i64 more.shown] 2 (s.trials.length + 1) (s.trials.flatMap trialEnc ++ [.int .i64 more.weight, .int .i64 more.shown])))
    (WdG A A.heap.size gS pb (.slice (some ⟨gS, 0, none⟩) ts1.length cS) ts1 kx tv)
    (fun listed W => FrInv A A.heap.size [] ((bxRow pb (.slice (some ⟨gS, 0, none⟩) ts1.length cS) :: ts1.map trRow).eraseIdx (kx + 1)) ⟨95, 2, tv, s.trials.length, s.trials.flatMap trialEnc⟩ 11 listed W ∧ SC W gS ts1)
    (by kernel_rfl) (fun ν => by kernel_rfl) (by kernel_rfl) (by kernel_rfl) (by kernel_rfl) (by kernel_rfl) (fun _ _ h => ⟨h.1.1, h.2⟩) (fun listed W i hi hU h => ⟨h.1.same (fun e => by subst e; simp at hU), h.2⟩) ⟨FrInv.start hG1 hR1, HSC.out.exts (World.Exts.refl W1).drew⟩ ?_
  apply Exists.intro
  refine ⟨fun ν L hL => ?_, fun c oc hc hU ν listed W hsz hInv hun hΦ => ?_, fun ν listed W hInv hall hΦ => ?_⟩
  · simp only [modU, cOp, List.mapIdx_cons, List.mapIdx_nil, Nat.zero_add, Nat.reduceAdd, Nat.reduceBEq, Bool.or_false, Bool.false_or, Bool.or_true, Bool.true_or, Bool.or_self, Bool.false_eq_true, if_false, if_true, List.take_succ_cons, List.take_zero]
    repeat (go_big_quiet_step (fail))
    exact wpQuiet_nil hL
  · simp at hU
    rcases hU with rfl | rfl
    · simp only [List.getElem?_cons_succ, List.getElem?_cons_zero, Option.some.injEq] at hc
      subst hc
      exact gives_trials (a := more.weight) (b := more.shown) rfl rfl ⟨⟨hInv.1.exts (by decide) ((World.Exts.refl W).alloc _), hInv.2.exts ((World.Exts.refl W).alloc _)⟩, FrInv.litPhi (r := ⟨95, 2, tv, s.trials.length, s.trials.flatMap trialEnc⟩) hInv.1.1 rfl, fun _ _ _ _ h => h.exts ((World.Exts.refl W).alloc _)⟩
    · simp only [List.getElem?_cons_succ, List.getElem?_cons_zero, Option.some.injEq] at hc
      subst hc
      obtain ⟨nb, hν, hlay, hnb⟩ := (hΦ 10 rfl ⟨⟨10, .data⟩, by simp, rfl, rfl⟩).getLit rfl
      refine gives_append (.tmp 77) (.tmp 79) elem_Trial rfl rfl (hInv.1.2 hun) [.int .i64 more.weight, .int .i64 more.shown] nb hν (fun j u hj => LaysAs.cell hlay j u hj) rfl (fun u hu => by simp at hu; rcases hu with rfl | rfl <;> rfl) (by show s.trials.length ≤ _; omega) (by decide) hInv.1.1.fr.sz ?_
      intro v' w' hown happ
      obtain ⟨d1, d2, d3⟩ := hInv.1.done (ν := ν) (len := 15) (U := fun i => i == 10 || i == 11) (v1 := undef) (v2 := undef) (lit := [.int .i64 more.weight, .int .i64 more.shown]) (ci := 100) (cb := 101) (cl := 10) hun hown happ (by rw [hsz]; decide) (by decide) (by decide) (by decide)
      refine ⟨⟨d1, hInv.2.appended happ (fun e => ?_)⟩, d2, d3⟩
      obtain ⟨cs1, fr1, hT1⟩ := RowT.of_owns (hInv.1.2 hun) gS e.symm
      obtain ⟨-, cs2, fr2, hT2⟩ := hInv.2
      rw [hT1] at hT2
      simp at hT2
  simp only [List.drop_succ_cons, List.drop_zero]
  obtain ⟨h11, hap11⟩ := (hΦ 11 (by decide) rfl).getApp rfl
  obtain ⟨qv, cv, ev⟩ := owns_len h11
  have hj1 := FrG.join (rs := bxRow pb (.slice (some ⟨gS, 0, none⟩) ts1.length cS) :: ts1.map trRow) (kx + 1) (by simp [HSL.out]; omega) hInv.1.1 h11 hap11
  have hsc2 := hInv.2
  have s0 := hsc2.1.cell _ _ (flat_row (enc := scaleEnc) (size := 7) (fun _ => rfl) HS1.out (show (scaleEnc (s, tv))[6]? = some tv from rfl))
  have f0 := hsc2.1.free (kx * 7 + 6) (by rw [flat_len (enc := scaleEnc) (size := 7) ts1 (fun _ _ => rfl), HSL.out]; omega)
  have nl := Lays.of_cell s0
  generalize ν 11 = vn at *
  subst ev
  have hp2 : FrAt A (W.setCell ⟨gS, kx * 7 + 6, none⟩ (.slice qv (s.trials.length + 1) cv)) A.heap.size [] (bxRow pb (.slice (some ⟨gS, 0, none⟩) ts1.length cS) :: (ts1.set kx (tried s more, .slice qv (s.trials.length + 1) cv)).map trRow) ∧ SC (W.setCell ⟨gS, kx * 7 + 6, none⟩ (.slice qv (s.trials.length + 1) cv)) gS (ts1.set kx (tried s more, .slice qv (s.trials.length + 1) cv)) := by
    refine ⟨?_, hsc2.put HS1.out (by omega) rfl⟩
    obtain ⟨-, cs2, fr2, hT2⟩ := hsc2
    refine FrAt.other ?_ hT2 (fun r hr => ?_) hgS _ _
    · rw [List.map_set, trRow_tried]
      exact hj1
    · rcases List.mem_cons.1 hr with rfl | hr
      · exact (by decide : 24 ≠ 59)
      · obtain ⟨x, -, rfl⟩ := List.mem_map.1 hr
        exact (by decide : 95 ≠ 59)
  have HPU := Lib.hid hp2
  clear hp2
  clear hInv hΦ hall h11 hap11 hj1 hsc2 kb k6 ko0 ko1 hG1 hR1 hrk HSC HFR
  go_upto_region 12 with (fail)
  generalize hW2 : World.setCell W ⟨gS, kx * 7 + 6, none⟩ _ = W2
  rw [hW2] at HPU
  clear s0 f0 nl hW2 this
  obtain ⟨ts2, hts2⟩ : ∃ t, ts1.set kx (tried s more, .slice qv (s.trials.length + 1) cv) = t := ⟨_, rfl⟩
  have htf : ts2.map Prod.fst = (ts1.map Prod.fst).set kx (tried s more) := by rw [← hts2, List.map_set]
  have hfs : (ts1.map Prod.fst)[kx]? = some s := by rw [List.getElem?_map, HS1.out]; rfl
  rw [HF1.out] at htf hfs
  have hbt : BayAt W2 (.slice (some ⟨gS, 0, none⟩) ts1.length cS) ts2 := by
    have h1 := HPU.out
    rw [hts2] at h1
    exact wd_bay h1.1 h1.2 (by rw [← hts2, List.length_set]) k2
  have hE2 := HPU.out.1.ext
  have b0 := (BlkAt.of_owns (HPU.out.1.row 0 rfl)).cell 0 _ rfl
  have hl2 : ts2.length = ts1.length := by rw [← hts2, List.length_set]
  clear HPU hts2 HS1 HF1
  have HBT := Lib.hid hbt
  clear hbt
  have HTF := Lib.hid htf
  clear htf
  have HFS := Lib.hid hfs
  clear hfs
  have HL2 := Lib.hid hl2
  clear hl2
  rename_i i9_3_1 i9_3_2 i9_3_3 i9_3_4
  revert ts g n more by_ w q0 cp0 q1 cp1 q2 cp2 q3 cp3 HB HL HR HS HWF HCD qb cb HBY HBB hg1 hg3 hg4 hg5 HRD HGA HG2 HN h0 hb0 er HCK HT1 HER HER4 i9_1_1 qv1 cv1 A hwA a0 g0 g1 g2 g3 g4 g5 g6 g7 m0 m1 m2 m3 m4 m5 m6 o0 o1 HW1 l1 l2 l3 l4 u30 u31 u32 u33 u34 u35 u36 u37 u38 u39 u40 u41 u42 u43 u44 u45 u46 u47 u48 u49 u50 u51 u52 u53 u54 u55 u56 u57 u58 u59 u61 u62 u63 u64 u65 u66 u67 u68 u69 u70 u71 u72 u73 u74 u75 u76 u77 u78 u79 u80 u81 u82 u83 u84 u85 u86 u87 u88 u89 u90 u91 u92 u93 u94 u95 u96 u97 u98 u99 u100 u101 u102 u103 u104 u105 u106 u107 u108 u109 u110 u111 u112 u113 u114 u115 u116 u117 u118 u119 u120 u121 u122 u123 u124 u125 u126 u127 u128 u129 u130 u131 u132 u133 u134 u135 u136 u137 u138 u139 u140 u141 u142 u143 u144 u145 u146 u147 u148 u149 u150 u151 u152 u153 u154 u155 u156 u157 u158 u159 u160 u161 u162 u163 u164 u165 u166 u167 u168 u169 u170 u171 u172 u173 u174 u175 u176 u177 u178 u179 u180 u181 u182 u183 u184 u185 u186 u187 u188 u189 u190 u191 u192 u193 u194 u195 u196 u197 u198 u199 u200 u201 u202 u203 u204 u205 u206 u207 u208 u209 u210 u211 u212 u213 u214 u215 u216 u217 u218 u219 u220 u221 u222 u223 u224 u225 u226 u227 u228 u229 u230 u231 u232 u233 u234 u235 u236 u237 u238 u239 u240 u241 u242 u245 u246 u247 u248 u249 u250 u251 u252 u253 u254 u255 u256 u257 u258 u259 u260 u261 u262 u263 u264 kx hkl r0 ts1 gS cS k2 hgS pb hpA W1 HSL s tv hts w4 w5 ν listed W qv cv i9_3_1 i9_3_2 i9_3_3 i9_3_4 W2 ts2 hE2 b0 HBT HTF HFS HL2
  exact HG.out
end Go.Proofs.YtfjkiemjmnnbkaaGreatDoor

/-
  The law ScaleWider: its walk.
-/
namespace Go.Proofs.YtfjkiemjmnnbkaaGreatDoor
open Go.RowKit Kr
set_option linter.unusedSimpArgs false

set_option maxRecDepth 100000 in
set_option maxHeartbeats 8000000 in
noncomputable def l04wd_any_c4 : { G : Prop // G → l04wd_any_c3.val } := by
  apply Subtype.mk
  case property =>
  intro hG
  have HG := Lib.hid hG
  clear hG
  intro ts g n more by_ w q0 cp0 q1 cp1 q2 cp2 q3 cp3 HB HL HR HS HWF HCD qb cb HBY HBB hg1 hg3 hg4 hg5 HRD HGA HG2 HN h0 hb0 er HCK HT1 HER HER4 i9_1_1 qv1 cv1 A hwA a0 g0 g1 g2 g3 g4 g5 g6 g7 m0 m1 m2 m3 m4 m5 m6 o0 o1 HW1 l1 l2 l3 l4 u30 u31 u32 u33 u34 u35 u36 u37 u38 u39 u40 u41 u42 u43 u44 u45 u46 u47 u48 u49 u50 u51 u52 u53 u54 u55 u56 u57 u58 u59 u61 u62 u63 u64 u65 u66 u67 u68 u69 u70 u71 u72 u73 u74 u75 u76 u77 u78 u79 u80 u81 u82 u83 u84 u85 u86 u87 u88 u89 u90 u91 u92 u93 u94 u95 u96 u97 u98 u99 u100 u101 u102 u103 u104 u105 u106 u107 u108 u109 u110 u111 u112 u113 u114 u115 u116 u117 u118 u119 u120 u121 u122 u123 u124 u125 u126 u127 u128 u129 u130 u131 u132 u133 u134 u135 u136 u137 u138 u139 u140 u141 u142 u143 u144 u145 u146 u147 u148 u149 u150 u151 u152 u153 u154 u155 u156 u157 u158 u159 u160 u161 u162 u163 u164 u165 u166 u167 u168 u169 u170 u171 u172 u173 u174 u175 u176 u177 u178 u179 u180 u181 u182 u183 u184 u185 u186 u187 u188 u189 u190 u191 u192 u193 u194 u195 u196 u197 u198 u199 u200 u201 u202 u203 u204 u205 u206 u207 u208 u209 u210 u211 u212 u213 u214 u215 u216 u217 u218 u219 u220 u221 u222 u223 u224 u225 u226 u227 u228 u229 u230 u231 u232 u233 u234 u235 u236 u237 u238 u239 u240 u241 u242 u245 u246 u247 u248 u249 u250 u251 u252 u253 u254 u255 u256 u257 u258 u259 u260 u261 u262 u263 u264 kx hkl r0 ts1 gS cS k2 hgS pb hpA W1 HSL s tv hts w4 w5 ν listed W qv cv i9_3_1 i9_3_2 i9_3_3 i9_3_4 W2 ts2 hE2 b0 HBT HTF HFS HL2
  obtain ⟨rd2, hrd2⟩ : ∃ r, readyB ts2 g = r := ⟨_, rfl⟩
  have nb0 := Lays.of_cell b0
  have z0 := hE2.cell a0
  have y0 := hE2.cell g0
  have y1 := hE2.cell g1
  have y2 := hE2.cell g2
  have y3 := hE2.cell g3
  have y4 := hE2.cell g4
  have y5 := hE2.cell g5
  have y6 := hE2.cell g6
  have y7 := hE2.cell g7
  have nz := Lays.of_cell z0
  have ny := Lays.of_cell y0
  have hEw := hwA.trans hE2
  have HRD2 := Lib.hid hrd2
  clear hrd2
  go_upto_if 85 with (go_at_call 22; refine (l04_ready_any ts2 _ g _ _ _ _ (HBT.out.mono exq) (HL.out.mono (exf hEw)) (HR.out.mono (exf hEw)) (HS.out.mono (exf hEw))).mono ?_; rintro e w' ⟨rfl, X1, rfl⟩; rw [HRD2.out])
  go_cut [] (fun wx => W2.Exts wx)
  case first =>
    as_aux_lemma =>
    cases rd2
    · go_wp2_with fail
      go_meet
      exact exq
    · obtain ⟨hgr2, hck2⟩ := ready_parts HRD2.out
      have ham : amongB (totals (ts2.map Prod.fst) g) (totals (ts.map Prod.fst) g) = true := by
        rw [HTF.out] at hck2 ⊢
        exact wd_tried HFS.out HCK.out hck2
      obtain ⟨er2, her2⟩ : ∃ er : Int, er = (if totals (ts2.map Prod.fst) g = [] then 6 else 0) := ⟨_, rfl⟩
      have T2 := fun (W : World) (hE : W2.Exts W) => scale_Totals_any ts2 _ g _ _ _ W (HBT.out.mono hE) (HGA.out.mono (hEw.trans hE))
      simp only [wd_totals hck2, ← her2] at T2
      have her3 : er2 = 0 ∨ er2 = 6 := by split at her2 <;> omega
      have hw1 := HW1.out.mono hE2
      generalize totals (ts2.map Prod.fst) g = TL2 at *
      generalize totals (ts.map Prod.fst) g = TL at *
      have HT2 := Lib.hid T2
      clear T2
      have HAM := Lib.hid ham
      clear ham
      have HW9 := Lib.hid hw1
      clear hw1
      clear her2 hgr2 hck2
      rcases her3 with h | h
      all_goals
        subst h
        go_wp2_with (first
          | (go_at_call 29; refine (HT2.out _ exq).mono ?_; rintro e w' ⟨v2, rfl, hv2, X6, rfl⟩; (obtain ⟨qv2, cv2, rfl⟩ := hv2.len); (have HV2 := Lib.hid hv2); clear hv2)
          | (go_at_call 45; refine (l04_among_any TL2 TL _ _ _ (HV2.out.mono exq) (HW9.out.mono exq)).mono ?_; rintro e w' ⟨rfl, X7, rfl⟩; rw [HAM.out]))
        go_meet
        exact exq
  case rest =>
  obtain ⟨X9, rfl⟩ := hcut
  have hEx := hE2.ext X9
  obtain ⟨V, hV⟩ : ∃ V, World.ext W2 X9 = V := ⟨_, rfl⟩
  rw [hV] at hEx ⊢
  clear hV X9 z0 y0 y1 y2 y3 y4 y5 y6 y7 nz ny nb0 b0 hEw hE2 HRD2 HBT HTF HFS HL2 rd2
  have hwV := hwA.trans hEx
  replace a0 := hEx.cell a0
  replace g0 := hEx.cell g0
  replace g1 := hEx.cell g1
  replace g2 := hEx.cell g2
  replace g3 := hEx.cell g3
  replace g4 := hEx.cell g4
  replace g5 := hEx.cell g5
  replace g6 := hEx.cell g6
  replace g7 := hEx.cell g7
  replace m0 := hEx.cell m0
  replace m1 := hEx.cell m1
  replace m2 := hEx.cell m2
  replace m3 := hEx.cell m3
  replace m4 := hEx.cell m4
  replace m5 := hEx.cell m5
  replace m6 := hEx.cell m6
  replace l1 := Lays.of_cell a0
  replace l2 := Lays.of_cell g0
  replace l3 := Lays.of_cell m0
  have hw1 := HW1.out.mono hEx
  clear HW1 o0 o1 l4
  have HW1 := Lib.hid hw1
  clear hw1
  go_upto_region 16 with (fail)
  rename_i i9_4_1 i9_4_2 i9_4_3 i9_4_4 i9_4_5 i9_4_6 i9_4_7 i9_4_8 i9_4_9 i9_4_10 i9_4_11 i9_4_12 i9_4_13 i9_4_14 i9_4_15 i9_4_16 i9_4_17 i9_4_18 i9_4_19 i9_4_20 i9_4_21 i9_4_22 i9_4_23 i9_4_24 i9_4_25 i9_4_26 i9_4_27 i9_4_28 i9_4_29 i9_4_30 i9_4_31 i9_4_32 i9_4_33 i9_4_34 i9_4_35 i9_4_36 i9_4_37 i9_4_38 i9_4_39 i9_4_40 i9_4_41 i9_4_42 i9_4_43 i9_4_44 i9_4_45 i9_4_46 i9_4_47 i9_4_48 i9_4_49 i9_4_50 i9_4_51 i9_4_52 i9_4_53 i9_4_54 i9_4_55 i9_4_56 i9_4_57 i9_4_58 i9_4_59 i9_4_60 i9_4_61 i9_4_62 i9_4_63 i9_4_64 i9_4_65 i9_4_66 i9_4_67 i9_4_68 i9_4_69 i9_4_70 i9_4_71 i9_4_72 i9_4_73 i9_4_74 i9_4_75 i9_4_76 i9_4_77 i9_4_78 i9_4_79 i9_4_80 i9_4_81 i9_4_82 i9_4_83 i9_4_84 i9_4_85 i9_4_86 i9_4_87 i9_4_88 i9_4_89 i9_4_90 i9_4_91 i9_4_92 i9_4_93 i9_4_94 i9_4_95 i9_4_96 i9_4_97 i9_4_98 i9_4_99 i9_4_100 i9_4_101 i9_4_102 i9_4_103 i9_4_104 i9_4_105 i9_4_106 i9_4_107 i9_4_108 i9_4_109 i9_4_110 i9_4_111 i9_4_112 i9_4_113 i9_4_114 i9_4_115 i9_4_116 i9_4_117 i9_4_118 i9_4_119 i9_4_120 i9_4_121 i9_4_122 i9_4_123 i9_4_124 i9_4_125 i9_4_126 i9_4_127 i9_4_128 i9_4_129 i9_4_130 i9_4_131 i9_4_132 i9_4_133 i9_4_134 i9_4_135 i9_4_136 i9_4_137 i9_4_138 i9_4_139 i9_4_140 i9_4_141 i9_4_142 i9_4_143 i9_4_144 i9_4_145 i9_4_146 i9_4_147 i9_4_148 i9_4_149 i9_4_150 i9_4_151 i9_4_152 i9_4_153 i9_4_154 i9_4_155 i9_4_156 i9_4_157 i9_4_158 i9_4_159 i9_4_160 i9_4_161 i9_4_162 i9_4_163 i9_4_164 i9_4_165 i9_4_166 i9_4_167 i9_4_168 i9_4_169 i9_4_170 i9_4_171 i9_4_172 i9_4_173 i9_4_174 i9_4_175 i9_4_176 i9_4_177 i9_4_178 i9_4_179 i9_4_180 i9_4_181 i9_4_182 i9_4_183 i9_4_184 i9_4_185 i9_4_186 i9_4_187 i9_4_188 i9_4_189 i9_4_190 i9_4_191 i9_4_192 i9_4_193 i9_4_194 i9_4_195 i9_4_196 i9_4_197 i9_4_198 i9_4_199 i9_4_200 i9_4_201 i9_4_202 i9_4_203 i9_4_204 i9_4_205 i9_4_206 i9_4_207 i9_4_208 i9_4_209 i9_4_210 i9_4_211 i9_4_212 i9_4_213 i9_4_214 i9_4_215 i9_4_216 i9_4_217 i9_4_218 i9_4_219 i9_4_220 i9_4_221 i9_4_222 i9_4_223 i9_4_224 i9_4_225 i9_4_226 i9_4_227 i9_4_228 i9_4_229 i9_4_230 i9_4_231 i9_4_232 i9_4_233 i9_4_234
  revert ts g n more by_ w q0 cp0 q1 cp1 q2 cp2 q3 cp3 HB HL HR HS HWF HCD qb cb HBY HBB hg1 hg3 hg4 hg5 HRD HGA HG2 HN h0 hb0 er HCK HT1 HER HER4 i9_1_1 qv1 cv1 A hwA i9_4_1 i9_4_2 i9_4_3 i9_4_4 i9_4_5 i9_4_6 i9_4_7 i9_4_8 i9_4_9 i9_4_10 i9_4_11 i9_4_12 i9_4_13 i9_4_14 i9_4_15 i9_4_16 i9_4_17 i9_4_18 i9_4_19 i9_4_20 i9_4_21 i9_4_22 i9_4_23 i9_4_24 i9_4_25 i9_4_26 i9_4_27 i9_4_28 i9_4_29 i9_4_30 i9_4_31 i9_4_32 i9_4_33 i9_4_34 i9_4_35 i9_4_36 i9_4_37 i9_4_38 i9_4_39 i9_4_40 i9_4_41 i9_4_42 i9_4_43 i9_4_44 i9_4_45 i9_4_46 i9_4_47 i9_4_48 i9_4_49 i9_4_50 i9_4_51 i9_4_52 i9_4_53 i9_4_54 i9_4_55 i9_4_56 i9_4_57 i9_4_58 i9_4_59 i9_4_60 i9_4_61 i9_4_62 i9_4_63 i9_4_64 i9_4_65 i9_4_66 i9_4_67 i9_4_68 i9_4_69 i9_4_70 i9_4_71 i9_4_72 i9_4_73 i9_4_74 i9_4_75 i9_4_76 i9_4_77 i9_4_78 i9_4_79 i9_4_80 i9_4_81 i9_4_82 i9_4_83 i9_4_84 i9_4_85 i9_4_86 i9_4_87 i9_4_88 i9_4_89 i9_4_90 i9_4_91 i9_4_92 i9_4_93 i9_4_94 i9_4_95 i9_4_96 i9_4_97 i9_4_98 i9_4_99 i9_4_100 i9_4_101 i9_4_102 i9_4_103 i9_4_104 i9_4_105 i9_4_106 i9_4_107 i9_4_108 i9_4_109 i9_4_110 i9_4_111 i9_4_112 i9_4_113 i9_4_114 i9_4_115 i9_4_116 i9_4_117 i9_4_118 i9_4_119 i9_4_120 i9_4_121 i9_4_122 i9_4_123 i9_4_124 i9_4_125 i9_4_126 i9_4_127 i9_4_128 i9_4_129 i9_4_130 i9_4_131 i9_4_132 i9_4_133 i9_4_134 i9_4_135 i9_4_136 i9_4_137 i9_4_138 i9_4_139 i9_4_140 i9_4_141 i9_4_142 i9_4_143 i9_4_144 i9_4_145 i9_4_146 i9_4_147 i9_4_148 i9_4_149 i9_4_150 i9_4_151 i9_4_152 i9_4_153 i9_4_154 i9_4_155 i9_4_156 i9_4_157 i9_4_158 i9_4_159 i9_4_160 i9_4_161 i9_4_162 i9_4_163 i9_4_164 i9_4_165 i9_4_166 i9_4_167 i9_4_168 i9_4_169 i9_4_170 i9_4_171 i9_4_172 i9_4_173 i9_4_174 i9_4_175 i9_4_176 i9_4_177 i9_4_178 i9_4_179 i9_4_180 i9_4_181 i9_4_182 i9_4_183 i9_4_184 i9_4_185 i9_4_186 i9_4_187 i9_4_188 i9_4_189 i9_4_190 i9_4_191 i9_4_192 i9_4_193 i9_4_194 i9_4_195 i9_4_196 i9_4_197 i9_4_198 i9_4_199 i9_4_200 i9_4_201 i9_4_202 i9_4_203 i9_4_204 i9_4_205 i9_4_206 i9_4_207 i9_4_208 i9_4_209 i9_4_210 i9_4_211 i9_4_212 i9_4_213 i9_4_214 i9_4_215 i9_4_216 i9_4_217 i9_4_218 i9_4_219 i9_4_220 i9_4_221 i9_4_222 i9_4_223 i9_4_224 i9_4_225 i9_4_226 i9_4_227 i9_4_228 i9_4_229 i9_4_230 i9_4_231 i9_4_232 kx hkl r0 ts1 gS cS k2 hgS pb hpA W1 HSL s tv hts w4 w5 ν listed W qv cv W2 ts2 X1 u10 u16 u17 u30 u31 u32 u33 u34 u35 u36 u37 u38 u39 u40 u41 u42 u43 u44 u45 u46 u47 u48 u49 u50 u51 u52 u53 u54 u55 u56 u57 u58 u59 u60 u61 u62 u63 u64 u65 u66 u67 u68 u69 u70 u71 u72 u73 u74 u75 u76 u77 u78 u79 u80 u81 u82 u83 u84 u85 u86 u87 u88 u89 u90 u91 u92 u93 u94 u95 u96 u97 u98 u99 u100 u101 u102 u103 u104 u105 u106 u107 u108 u109 u110 u111 u112 u113 u114 u115 u116 u117 u118 u119 u120 u121 u122 u123 u124 u125 u126 u127 u128 u129 u130 u131 u132 u133 u134 u135 u136 u137 u138 u139 u140 u141 u142 u143 u144 u145 u146 u147 u148 u149 u150 u151 u152 u153 u154 u155 u156 u157 u158 u159 u160 u161 u162 u163 u164 u165 u166 u167 u168 u169 u170 u171 u172 u173 u174 u175 u176 u177 u178 u179 u180 u181 u182 u183 u184 u185 u186 u187 u188 u189 u190 u191 u192 u193 u194 u195 u196 u197 u198 u199 u200 u201 u202 u203 u204 u205 u206 u207 u208 u209 u210 u211 u212 u213 u214 u215 u216 u217 u218 u219 u220 u221 u222 u223 u224 u225 u226 u227 u228 u229 u230 u231 u232 u233 u234 u235 u236 u237 u238 u239 u240 u241 u242 u245 u246 u247 u248 u249 u250 u251 u252 u253 u254 u255 u256 u257 u258 u259 u260 u261 u262 u263 u264 V hEx hwV a0 g0 g1 g2 g3 g4 g5 g6 g7 m0 m1 m2 m3 m4 m5 m6 l1 l2 l3 HW1 i9_4_233 i9_4_234
  exact HG.out
end Go.Proofs.YtfjkiemjmnnbkaaGreatDoor

/-
  The law ScaleWider: its walk.
-/
namespace Go.Proofs.YtfjkiemjmnnbkaaGreatDoor
open Go.RowKit Kr
set_option linter.unusedSimpArgs false

set_option maxRecDepth 100000 in
set_option maxHeartbeats 8000000 in
noncomputable def l04wd_any_c5 : { G : Prop // G → l04wd_any_c4.val } := by
  apply Subtype.mk
  case property =>
  intro hG
  have HG := Lib.hid hG
  clear hG
  intro ts g n more by_ w q0 cp0 q1 cp1 q2 cp2 q3 cp3 HB HL HR HS HWF HCD qb cb HBY HBB hg1 hg3 hg4 hg5 HRD HGA HG2 HN h0 hb0 er HCK HT1 HER HER4 i9_1_1 qv1 cv1 A hwA i9_4_1 i9_4_2 i9_4_3 i9_4_4 i9_4_5 i9_4_6 i9_4_7 i9_4_8 i9_4_9 i9_4_10 i9_4_11 i9_4_12 i9_4_13 i9_4_14 i9_4_15 i9_4_16 i9_4_17 i9_4_18 i9_4_19 i9_4_20 i9_4_21 i9_4_22 i9_4_23 i9_4_24 i9_4_25 i9_4_26 i9_4_27 i9_4_28 i9_4_29 i9_4_30 i9_4_31 i9_4_32 i9_4_33 i9_4_34 i9_4_35 i9_4_36 i9_4_37 i9_4_38 i9_4_39 i9_4_40 i9_4_41 i9_4_42 i9_4_43 i9_4_44 i9_4_45 i9_4_46 i9_4_47 i9_4_48 i9_4_49 i9_4_50 i9_4_51 i9_4_52 i9_4_53 i9_4_54 i9_4_55 i9_4_56 i9_4_57 i9_4_58 i9_4_59 i9_4_60 i9_4_61 i9_4_62 i9_4_63 i9_4_64 i9_4_65 i9_4_66 i9_4_67 i9_4_68 i9_4_69 i9_4_70 i9_4_71 i9_4_72 i9_4_73 i9_4_74 i9_4_75 i9_4_76 i9_4_77 i9_4_78 i9_4_79 i9_4_80 i9_4_81 i9_4_82 i9_4_83 i9_4_84 i9_4_85 i9_4_86 i9_4_87 i9_4_88 i9_4_89 i9_4_90 i9_4_91 i9_4_92 i9_4_93 i9_4_94 i9_4_95 i9_4_96 i9_4_97 i9_4_98 i9_4_99 i9_4_100 i9_4_101 i9_4_102 i9_4_103 i9_4_104 i9_4_105 i9_4_106 i9_4_107 i9_4_108 i9_4_109 i9_4_110 i9_4_111 i9_4_112 i9_4_113 i9_4_114 i9_4_115 i9_4_116 i9_4_117 i9_4_118 i9_4_119 i9_4_120 i9_4_121 i9_4_122 i9_4_123 i9_4_124 i9_4_125 i9_4_126 i9_4_127 i9_4_128 i9_4_129 i9_4_130 i9_4_131 i9_4_132 i9_4_133 i9_4_134 i9_4_135 i9_4_136 i9_4_137 i9_4_138 i9_4_139 i9_4_140 i9_4_141 i9_4_142 i9_4_143 i9_4_144 i9_4_145 i9_4_146 i9_4_147 i9_4_148 i9_4_149 i9_4_150 i9_4_151 i9_4_152 i9_4_153 i9_4_154 i9_4_155 i9_4_156 i9_4_157 i9_4_158 i9_4_159 i9_4_160 i9_4_161 i9_4_162 i9_4_163 i9_4_164 i9_4_165 i9_4_166 i9_4_167 i9_4_168 i9_4_169 i9_4_170 i9_4_171 i9_4_172 i9_4_173 i9_4_174 i9_4_175 i9_4_176 i9_4_177 i9_4_178 i9_4_179 i9_4_180 i9_4_181 i9_4_182 i9_4_183 i9_4_184 i9_4_185 i9_4_186 i9_4_187 i9_4_188 i9_4_189 i9_4_190 i9_4_191 i9_4_192 i9_4_193 i9_4_194 i9_4_195 i9_4_196 i9_4_197 i9_4_198 i9_4_199 i9_4_200 i9_4_201 i9_4_202 i9_4_203 i9_4_204 i9_4_205 i9_4_206 i9_4_207 i9_4_208 i9_4_209 i9_4_210 i9_4_211 i9_4_212 i9_4_213 i9_4_214 i9_4_215 i9_4_216 i9_4_217 i9_4_218 i9_4_219 i9_4_220 i9_4_221 i9_4_222 i9_4_223 i9_4_224 i9_4_225 i9_4_226 i9_4_227 i9_4_228 i9_4_229 i9_4_230 i9_4_231 i9_4_232 kx hkl r0 ts1 gS cS k2 hgS pb hpA W1 HSL s tv hts w4 w5 ν listed W qv cv W2 ts2 X1 u10 u16 u17 u30 u31 u32 u33 u34 u35 u36 u37 u38 u39 u40 u41 u42 u43 u44 u45 u46 u47 u48 u49 u50 u51 u52 u53 u54 u55 u56 u57 u58 u59 u60 u61 u62 u63 u64 u65 u66 u67 u68 u69 u70 u71 u72 u73 u74 u75 u76 u77 u78 u79 u80 u81 u82 u83 u84 u85 u86 u87 u88 u89 u90 u91 u92 u93 u94 u95 u96 u97 u98 u99 u100 u101 u102 u103 u104 u105 u106 u107 u108 u109 u110 u111 u112 u113 u114 u115 u116 u117 u118 u119 u120 u121 u122 u123 u124 u125 u126 u127 u128 u129 u130 u131 u132 u133 u134 u135 u136 u137 u138 u139 u140 u141 u142 u143 u144 u145 u146 u147 u148 u149 u150 u151 u152 u153 u154 u155 u156 u157 u158 u159 u160 u161 u162 u163 u164 u165 u166 u167 u168 u169 u170 u171 u172 u173 u174 u175 u176 u177 u178 u179 u180 u181 u182 u183 u184 u185 u186 u187 u188 u189 u190 u191 u192 u193 u194 u195 u196 u197 u198 u199 u200 u201 u202 u203 u204 u205 u206 u207 u208 u209 u210 u211 u212 u213 u214 u215 u216 u217 u218 u219 u220 u221 u222 u223 u224 u225 u226 u227 u228 u229 u230 u231 u232 u233 u234 u235 u236 u237 u238 u239 u240 u241 u242 u245 u246 u247 u248 u249 u250 u251 u252 u253 u254 u255 u256 u257 u258 u259 u260 u261 u262 u263 u264 V hEx hwV a0 g0 g1 g2 g3 g4 g5 g6 g7 m0 m1 m2 m3 m4 m5 m6 l1 l2 l3 HW1 i9_4_233 i9_4_234
  refine wp_region_calls 6 (fun i => i == 1 || i == 3 || i == 4 || i == 5) (fun c v W => TwinsAt ts g V.heap.size c W v) (by kernel_rfl) (fun ν => by kernel_rfl) (by kernel_rfl) (by kernel_rfl) (by kernel_rfl) (by kernel_rfl) ?mono ?_
  rotate_left 1
  apply Exists.intro
  refine ⟨fun ν L hL => ?_, fun c oc hc hU ν W hE hΦ => ?_, fun ν W hE hΦ => ?_⟩
  · simp only [modU, cOp, List.mapIdx_cons, List.mapIdx_nil, Nat.zero_add, Nat.reduceAdd, Nat.reduceBEq, Bool.or_false, Bool.false_or, Bool.or_true, Bool.true_or, Bool.or_self, Bool.false_eq_true, if_false, if_true, List.take_succ_cons, List.take_zero]
    repeat (go_big_quiet_step (fail))
    exact wpQuiet_nil hL
  · simp at hU
    have hwW : w.Exts W := hwV.trans hE
    have hszW := hE.size
    rcases hU with ((rfl | rfl) | rfl) | rfl
    · simp only [List.getElem?_cons_succ, List.getElem?_cons_zero, Option.some.injEq] at hc
      subst hc
      refine Oper.gives_fn rfl rfl rfl (enters_of Tryz.func44 (by kernel_rfl) rfl) ?_ rfl
      refine (r04_TwinBay_new ts _ W (HB.out.mono hwW) (by omega) HG2.out).mono ?_
      rintro e W' ⟨v', ts', rfl, h1, h2, h3, h4, h5, h6⟩
      exact ⟨_, rfl, h3, fun _ => ⟨v', ts', rfl, h1, h2, h4, h5, NewBay.of h6 (by omega)⟩, fun e => (by cases e), fun e => (by cases e), fun e => (by cases e)⟩
    · simp only [List.getElem?_cons_succ, List.getElem?_cons_zero, Option.some.injEq] at hc
      subst hc
      refine Oper.gives_fn rfl rfl rfl (enters_of Tryz.func46 (by kernel_rfl) rfl) ?_ rfl
      refine (r04_TwinGear_new g _ _ _ W (HGA.out.mono hwW) (by omega) (by omega) (by omega)).mono ?_
      rintro e W' ⟨l', r', s', rfl, h1, h2, h3⟩
      exact ⟨_, rfl, h2, fun e => (by cases e), fun _ => ⟨l', r', s', rfl, h1, NewGear.of h3 (by omega)⟩, fun e => (by cases e), fun e => (by cases e)⟩
    · simp only [List.getElem?_cons_succ, List.getElem?_cons_zero, Option.some.injEq] at hc
      subst hc
      exact .inr ⟨.pointer (some ⟨W.heap.size, 0, none⟩), W.alloc (.cells #[.slice none 0 0] 24), by kernel_rfl, exq, fun e => (by cases e), fun e => (by cases e), fun _ => ⟨_, rfl, by omega, laysAs_size W _ rfl⟩, fun e => (by cases e)⟩
    · simp only [List.getElem?_cons_succ, List.getElem?_cons_zero, Option.some.injEq] at hc
      subst hc
      exact .inr ⟨.pointer (some ⟨W.heap.size, 0, none⟩), W.alloc (.cells #[.slice none 0 0, .int .i64 0, .int .i64 0, .int .i64 0, .slice none 0 0, .slice none 0 0, .int .i64 0, .bool false] 50), by kernel_rfl, exq, fun e => (by cases e), fun e => (by cases e), fun e => (by cases e), fun _ => ⟨_, rfl, by omega, laysAs_size W _ rfl⟩⟩
  rotate_left 1
  case mono => exact fun c v W W' h hE => h.mono hE
  obtain ⟨vb, ts', hν1, hbA, hts, hbT, hbS, hbN⟩ := (hΦ 1 (by decide) rfl).1 rfl
  obtain ⟨l', r', s', hν3, hgA, hgN⟩ := (hΦ 3 (by decide) rfl).2.1 rfl
  obtain ⟨p4, hν4, hb4, hp4⟩ := (hΦ 4 (by decide) rfl).2.2.1 rfl
  obtain ⟨p5, hν5, hb5, hp5⟩ := (hΦ 5 (by decide) rfl).2.2.2 rfl
  simp only [List.drop_succ_cons, List.drop_zero]
  generalize ν 1 = v1 at hν1 ⊢
  generalize ν 3 = v3 at hν3 ⊢
  generalize ν 4 = v4 at hν4 ⊢
  generalize ν 5 = v5 at hν5 ⊢
  subst hν1 hν3 hν4 hν5
  clear hΦ
  obtain ⟨b1, b2, b3, hTU⟩ := TuAt.start hE hp4 hp5 hb4 hb5 hbA hbT hbS hbN hgN
  have c4 := LaysAs.cell hp4 0 _ rfl
  have c50 := LaysAs.cell hp5 0 _ rfl
  have c51 := LaysAs.cell hp5 1 _ rfl
  have c52 := LaysAs.cell hp5 2 _ rfl
  have c53 := LaysAs.cell hp5 3 _ rfl
  have c54 := LaysAs.cell hp5 4 _ rfl
  have c55 := LaysAs.cell hp5 5 _ rfl
  have c56 := LaysAs.cell hp5 6 _ rfl
  have c57 := LaysAs.cell hp5 7 _ rfl
  have f4 : W.frozen? ⟨p4, 0, none⟩ = false := laysAs_frozen hp4
  have f5 := fun i => (laysAs_frozen (i := i) hp5 : W.frozen? ⟨p5, i, none⟩ = false)
  have f50 := f5 0
  have f51 := f5 1
  have f52 := f5 2
  have f53 := f5 3
  have f54 := f5 4
  have f55 := f5 5
  have f56 := f5 6
  have f57 := f5 7
  clear f5
  have hd45 : Differ p4 p5 := ⟨fun e => by subst e; unfold LaysAs at hp4 hp5; rw [hp4] at hp5; simp at hp5⟩
  have hd54 : Differ p5 p4 := ⟨fun e => hd45.ne e.symm⟩
  obtain ⟨qS, cS, eS⟩ := hbA.row.len
  obtain ⟨qL, cL, eL⟩ := hgA.l.len
  obtain ⟨qR, cR, eR⟩ := hgA.r.len
  obtain ⟨qK, cK, eK⟩ := hgA.s.len
  dsimp only at eS eL eR eK
  subst eS eL eR eK
  have hsl : ts'.length = ts.length := by have h := congrArg List.length hts; simpa using h
  have hne : ts' ≠ [] := fun e => by rw [e] at hsl; simp at hsl; omega
  obtain ⟨gT, cT, eT, -⟩ := hTU.sc.resolve_left hne
  simp only [Value.slice.injEq] at eT
  obtain ⟨rfl, -, rfl⟩ := eT
  clear hne
  have HSL2 := Lib.hid hsl
  clear hsl
  have hTV := ((((((((hTU.put4 0 (.slice (some ⟨gT, 0, none⟩) ts'.length cS)).put5 0 (.slice qL g.loads.length cL)).put5 1 (.int .i64 g.added)).put5 2 (.int .i64 g.base)).put5 3 (.int .i64 g.jitter)).put5 4 (.slice qR g.runners.length cR)).put5 5 (.slice qK g.strokes.length cK)).put5 6 (.int .i64 g.spread)).put5 7 (.bool g.stamp)
  dsimp only [List.set_cons_zero, List.set_cons_succ] at hTV
  have HTV := Lib.hid hTV
  clear hTV
  have HTS := Lib.hid hts
  clear hts
  clear hTU hbA hgA hbT hbS hbN hgN hp4 hp5
  go_upto_region 17 with (fail)
  obtain ⟨V5, hV⟩ : ∃ V5, (((((((((W.setCell ⟨p4, 0, none⟩ (.slice (some ⟨gT, 0, none⟩) ts'.length cS)).setCell ⟨p5, 0, none⟩ (.slice qL g.loads.length cL)).setCell ⟨p5, 1, none⟩ (.int .i64 g.added)).setCell ⟨p5, 2, none⟩ (.int .i64 g.base)).setCell ⟨p5, 3, none⟩ (.int .i64 g.jitter)).setCell ⟨p5, 4, none⟩ (.slice qR g.runners.length cR)).setCell ⟨p5, 5, none⟩ (.slice qK g.strokes.length cK)).setCell ⟨p5, 6, none⟩ (.int .i64 g.spread)).setCell ⟨p5, 7, none⟩ (.bool g.stamp)) = V5 := ⟨_, rfl⟩
  have hTV := HTV.out
  rw [hV] at hTV ⊢
  have HTU := Lib.hid hTV
  clear hTV
  clear hV HTV c4 c50 c51 c52 c53 c54 c55 c56 c57 f4 f50 f51 f52 f53 f54 f55 f56 f57 hE
  clear hd45 hd54 hb4 hb5
  rename_i i9_5_1 i9_5_2 i9_5_3 i9_5_4 i9_5_5
  revert ts g n more by_ w q0 cp0 q1 cp1 q2 cp2 q3 cp3 HB HL HR HS HWF HCD qb cb HBY HBB hg1 hg3 hg4 hg5 HRD HGA HG2 HN h0 hb0 er HCK HT1 HER HER4 i9_1_1 qv1 cv1 A hwA i9_4_1 i9_4_2 i9_4_3 i9_4_4 i9_4_5 i9_4_6 i9_4_7 i9_4_8 i9_4_9 i9_4_10 i9_4_11 i9_4_12 i9_4_13 i9_4_14 i9_4_15 i9_4_16 i9_4_17 i9_4_18 i9_4_19 i9_4_20 i9_4_21 i9_4_22 i9_4_23 i9_4_24 i9_4_25 i9_4_26 i9_4_27 i9_4_28 i9_4_29 i9_4_30 i9_4_31 i9_4_32 i9_4_33 i9_4_34 i9_4_35 i9_4_36 i9_4_37 i9_4_38 i9_4_39 i9_4_40 i9_4_41 i9_4_42 i9_4_43 i9_4_44 i9_4_45 i9_4_46 i9_4_47 i9_4_48 i9_4_49 i9_4_50 i9_4_51 i9_4_52 i9_4_53 i9_4_54 i9_4_55 i9_4_56 i9_4_57 i9_4_58 i9_4_59 i9_4_60 i9_4_61 i9_4_62 i9_4_63 i9_4_64 i9_4_65 i9_4_66 i9_4_67 i9_4_68 i9_4_69 i9_4_70 i9_4_71 i9_4_72 i9_4_73 i9_4_74 i9_4_75 i9_4_76 i9_4_77 i9_4_78 i9_4_79 i9_4_80 i9_4_81 i9_4_82 i9_4_83 i9_4_84 i9_4_85 i9_4_86 i9_4_87 i9_4_88 i9_4_89 i9_4_90 i9_4_91 i9_4_92 i9_4_93 i9_4_94 i9_4_95 i9_4_96 i9_4_97 i9_4_98 i9_4_99 i9_4_100 i9_4_101 i9_4_102 i9_4_103 i9_4_104 i9_4_105 i9_4_106 i9_4_107 i9_4_108 i9_4_109 i9_4_110 i9_4_111 i9_4_112 i9_4_113 i9_4_114 i9_4_115 i9_4_116 i9_4_117 i9_4_118 i9_4_119 i9_4_120 i9_4_121 i9_4_122 i9_4_123 i9_4_124 i9_4_125 i9_4_126 i9_4_127 i9_4_128 i9_4_129 i9_4_130 i9_4_131 i9_4_132 i9_4_133 i9_4_134 i9_4_135 i9_4_136 i9_4_137 i9_4_138 i9_4_139 i9_4_140 i9_4_141 i9_4_142 i9_4_143 i9_4_144 i9_4_145 i9_4_146 i9_4_147 i9_4_148 i9_4_149 i9_4_150 i9_4_151 i9_4_152 i9_4_153 i9_4_154 i9_4_155 i9_4_156 i9_4_157 i9_4_158 i9_4_159 i9_4_160 i9_4_161 i9_4_162 i9_4_163 i9_4_164 i9_4_165 i9_4_166 i9_4_167 i9_4_168 i9_4_169 i9_4_170 i9_4_171 i9_4_172 i9_4_173 i9_4_174 i9_4_175 i9_4_176 i9_4_177 i9_4_178 i9_4_179 i9_4_180 i9_4_181 i9_4_182 i9_4_183 i9_4_184 i9_4_185 i9_4_186 i9_4_187 i9_4_188 i9_4_189 i9_4_190 i9_4_191 i9_4_192 i9_4_193 i9_4_194 i9_4_195 i9_4_196 i9_4_197 i9_4_198 i9_4_199 i9_4_200 i9_4_201 i9_4_202 i9_4_203 i9_4_204 i9_4_205 i9_4_206 i9_4_207 i9_4_208 i9_4_209 i9_4_210 i9_4_211 i9_4_212 i9_4_213 i9_4_214 i9_4_215 i9_4_216 i9_4_217 i9_4_218 i9_4_219 i9_4_220 i9_4_221 i9_4_222 i9_4_223 i9_4_224 i9_4_225 i9_4_226 i9_4_227 i9_4_228 i9_4_229 i9_4_230 i9_4_231 i9_4_232 kx hkl r0 ts1 gS i9_5_1 k2 hgS pb hpA W1 HSL s tv hts w4 w5 i9_5_2 listed i9_5_3 qv cv W2 ts2 X1 u10 u16 u17 u30 u31 u32 u33 u34 u35 u36 u37 u38 u39 u40 u41 u42 u43 u44 u45 u46 u47 u48 u49 u50 u51 u52 u53 u54 u55 u56 u57 u58 u59 u60 u61 u62 u63 u64 u65 u66 u67 u68 u69 u70 u71 u72 u73 u74 u75 u76 u77 u78 u79 u80 u81 u82 u83 u84 u85 u86 u87 u88 u89 u90 u91 u92 u93 u94 u95 u96 u97 u98 u99 u100 u101 u102 u103 u104 u105 u106 u107 u108 u109 u110 u111 u112 u113 u114 u115 u116 u117 u118 u119 u120 u121 u122 u123 u124 u125 u126 u127 u128 u129 u130 u131 u132 u133 u134 u135 u136 u137 u138 u139 u140 u141 u142 u143 u144 u145 u146 u147 u148 u149 u150 u151 u152 u153 u154 u155 u156 u157 u158 u159 u160 u161 u162 u163 u164 u165 u166 u167 u168 u169 u170 u171 u172 u173 u174 u175 u176 u177 u178 u179 u180 u181 u182 u183 u184 u185 u186 u187 u188 u189 u190 u191 u192 u193 u194 u195 u196 u197 u198 u199 u200 u201 u202 u203 u204 u205 u206 u207 u208 u209 u210 u211 u212 u213 u214 u215 u216 u217 u218 u219 u220 u221 u222 u223 u224 u225 u226 u227 u228 u229 u230 u231 u232 u233 u234 u235 u236 u237 u238 u239 u240 u241 u242 u245 u246 u247 u248 u249 u250 u251 u252 u253 u254 u255 u256 u257 u258 u259 u260 u261 u262 u263 u264 V hEx hwV a0 g0 g1 g2 g3 g4 g5 g6 g7 m0 m1 m2 m3 m4 m5 m6 l1 l2 l3 HW1 ν W ts' p4 p5 b1 b2 b3 cS qL cL qR cR qK cK gT HSL2 HTS i9_5_4 i9_5_5 V5 HTU
  exact HG.out
end Go.Proofs.YtfjkiemjmnnbkaaGreatDoor
