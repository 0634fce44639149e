/-
  Several texts in one: see the heads of its parts.
-/
import Derived.Test.YtfjkiemjmnnbkaaGreatDoorAm
import Derived.Test.YtfjkiemjmnnbkaaGreatDoorRy
import Derived.Test.YtfjkiemjmnnbkaaGreatDoorWd
import Derived.Test.YtfjkiemjmnnbkaaGreatDoorHp
import Derived.Test.YtfjkiemjmnnbkaaGreatDoorTeG
import Derived.Test.YtfjkiemjmnnbkaaGreatDoorLDr
import Derived.Test.YtfjkiemjmnnbkaaGreatDoorJk
import Derived.Deep.DeepCutAuto

/-
  The law ScaleTrue: its walk.
-/
namespace Go.Proofs.YtfjkiemjmnnbkaaGreatDoor
open Go.RowKit Kr
set_option linter.unusedSimpArgs false

set_option maxRecDepth 100000 in
set_option maxHeartbeats 8000000 in
noncomputable def l04te_any_c1 : { G : Prop // G → ∀ (ts : List (Kr.Scale × Value)) (v : Value) (n : Norm) (ws : List Int) (wv : Value) (by_ : List Int) (bv : Value) (w : World) (_ : BayAt w v ts) (_ : IsRow (fun x : Int => [.int .u32 x]) 1 w wv ws) (_ : ∀ x ∈ ws, 0 ≤ x ∧ x ≤ 4294967295)
    (_ : IsRow (fun x : Int => [.int .u32 x]) 1 w bv by_) (_ : ∀ x ∈ by_, 0 ≤ x ∧ x ≤ 4294967295) (_ : CondsAt w),
    Calls Tryz.prog 4 #[.agg #[v], .agg #[.int .i64 n.total.lo, .int .i64 n.total.hi, .int .i64 n.added, .int .i64 n.warm, .int .i64 n.hard.lo, .int .i64 n.hard.hi, .bool n.stamp], wv, bv] w fun e w' => e = .returned (.bool true) ∧ w.Exts w' } := by
  apply Subtype.mk
  case property =>
  intro hG
  have HG := Lib.hid hG
  clear hG
  intro ts v n ws wv by_ bv w hrow hws hwb hby hbb hcd
  obtain ⟨q0, cp0, rfl⟩ := hrow.row.len
  obtain ⟨qw, cw, rfl⟩ := hws.len
  obtain ⟨qb, cb, rfl⟩ := hby.len
  have hrdy := fun (W : World) (hE : w.Exts W) => l04_ready_any ts _ emptyG (.slice none 0 0) (.slice none 0 0) (.slice none 0 0) W (hrow.mono hE) (IsRow.nil _) (IsRow.nil _) (IsRow.nil _)
  have HB := Lib.hid hrow
  clear hrow
  have HWS := Lib.hid hws
  clear hws
  have HWB := Lib.hid hwb
  clear hwb
  have HBY := Lib.hid hby
  clear hby
  have HBB := Lib.hid hbb
  clear hbb
  have HCD := Lib.hid hcd
  clear hcd
  cases hrd : readyB ts emptyG
  case false =>
    as_aux_lemma =>
    rw [hrd] at hrdy
    dsimp only [emptyG] at hrdy
    have HRDY := Lib.hid hrdy
    clear hrdy
    clear hrd
    go_enter Tryz.func4, Tryz.ntmps4
    go_wp2_with (first
      | (go_at_call 21; refine (l04_alive_any _ (HCD.out.mono exq)).mono ?_; rintro e w' ⟨rfl, X0, rfl⟩)
      | (go_at_call 22; refine (HRDY.out _ exq).mono ?_; rintro e w' ⟨rfl, X1, rfl⟩))
    go_ret
    exact ⟨rfl, exq⟩
  rw [hrd] at hrdy
  obtain ⟨hgr, hck⟩ := ready_parts hrd
  obtain ⟨hn8, -, -, -, -⟩ := great_not hgr
  dsimp only [emptyG] at hrdy
  have HRDY := Lib.hid hrdy
  clear hrdy
  clear hrd hgr
  rcases Nat.eq_zero_or_pos ts.length with h0 | h0
  ·
    as_aux_lemma =>
    have hb0 : ((ts.length : Int) == 0) = true := by simp [h0]
    clear hck h0
    go_enter Tryz.func4, Tryz.ntmps4
    go_wp2_with (first
      | (go_at_call 21; refine (l04_alive_any _ (HCD.out.mono exq)).mono ?_; rintro e w' ⟨rfl, X0, rfl⟩)
      | (go_at_call 22; refine (HRDY.out _ exq).mono ?_; rintro e w' ⟨rfl, X1, rfl⟩))
    go_ret
    exact ⟨rfl, exq⟩
  have hb0 : ((ts.length : Int) == 0) = false := beq_eq_false_iff_ne.2 (by omega)
  cases hn : normB n
  case false =>
    as_aux_lemma =>
    have HN := Lib.hid hn
    clear hn
    clear hck
    go_enter Tryz.func4, Tryz.ntmps4
    go_wp2_with (first
      | (go_at_call 21; refine (l04_alive_any _ (HCD.out.mono exq)).mono ?_; rintro e w' ⟨rfl, X0, rfl⟩)
      | (go_at_call 22; refine (HRDY.out _ exq).mono ?_; rintro e w' ⟨rfl, X1, rfl⟩)
      | (go_at_call 23; refine (r04_Norm_any n _).mono ?_; rintro e w' ⟨rfl, X2, rfl⟩; rw [HN.out]))
    go_ret
    exact ⟨rfl, exq⟩
  have hne : ts ≠ [] := fun e => by rw [e] at h0; simp at h0
  have hbay := (check_zero hck).1
  have hrt : ∀ x ∈ ts, right x.1 = true := fun x hx => bayOk_right hbay _ (List.mem_map.2 ⟨x, hx, rfl⟩)
  have HN := Lib.hid hn
  clear hn
  have HNE := Lib.hid hne
  clear hne
  have HBAY := Lib.hid hbay
  clear hbay
  have HRT := Lib.hid hrt
  clear hrt
  clear hck
  go_enter Tryz.func4, Tryz.ntmps4
  go_wp2_with (first
    | (go_at_call 21; refine (l04_alive_any _ (HCD.out.mono exq)).mono ?_; rintro e w' ⟨rfl, X0, rfl⟩)
    | (go_at_call 22; refine (HRDY.out _ exq).mono ?_; rintro e w' ⟨rfl, X1, rfl⟩)
    | (go_at_call 23; refine (r04_Norm_any n _).mono ?_; rintro e w' ⟨rfl, X2, rfl⟩; rw [HN.out])
    | (go_at_call 24; refine (l04_drawn_any ts _ by_ _ _ (HB.out.mono exq) (HBY.out.mono exq) HBB.out HNE.out hn8 HRT.out).mono ?_; rintro e w' ⟨v', ts', vt, rfl, h1, h2, h3, h4, h5, h6, h7⟩; (obtain ⟨qS, cS, eS⟩ := h1.row.len); (obtain ⟨qT, cT, eT⟩ := h3.len); subst eS; subst eT; (have H1 := Lib.hid h1); (have H2 := Lib.hid h2); (have H3 := Lib.hid h3); (have H5 := Lib.hid h5); (have H6 := Lib.hid h6); (have H7 := Lib.hid h7); clear h1 h2 h3 h5 h6 h7; (obtain ⟨X4, rfl⟩ := h4)))
  obtain ⟨A, hA⟩ : ∃ A, (World.ext _ X4).setCell ⟨w.heap.size, 0, none⟩ (.slice qS ts'.length cS) = A := ⟨_, rfl⟩
  have hsz : (World.ext _ X4).heap.size = A.heap.size := by rw [← hA]; simp
  have hbx : LaysAs (World.ext _ X4) w.heap.size (.cells [.slice q0 ts.length cp0].toArray 24 (0, 0)) := LaysAs.exts (laysAs_size w _ rfl) exq
  have hbA : BayAt A (.slice qS ts'.length cS) ts' := by
    rw [← hA]
    exact ⟨row_type H1.out.row H6.out hbx (by decide), fun x hx => row_type (H1.out.tr x hx) (H5.out x hx) hbx (by decide)⟩
  have htA := row_type (i := 0) (u := .slice qS ts'.length cS) H3.out H7.out hbx (by decide)
  rw [hA] at htA
  have hwA : w.Exts A := by rw [← hA]; exact exq
  have a0 : A.cell? ⟨w.heap.size, 0, none⟩ = some (.slice qS ts'.length cS) := by rw [← hA]; simp [go_sem]
  have y0 : A.cell? ⟨w.heap.size + 2, 0, none⟩ = some (.slice qb by_.length cb) := by rw [← hA]; simp [go_sem]
  have m0 : A.cell? ⟨w.heap.size + 1, 0, none⟩ = some (.int .i64 n.total.lo) := by rw [← hA]; simp [go_sem]
  have m1 : A.cell? ⟨w.heap.size + 1, 1, none⟩ = some (.int .i64 n.total.hi) := by rw [← hA]; simp [go_sem]
  have m2 : A.cell? ⟨w.heap.size + 1, 2, none⟩ = some (.int .i64 n.added) := by rw [← hA]; simp [go_sem]
  have m3 : A.cell? ⟨w.heap.size + 1, 3, none⟩ = some (.int .i64 n.warm) := by rw [← hA]; simp [go_sem]
  have m4 : A.cell? ⟨w.heap.size + 1, 4, none⟩ = some (.int .i64 n.hard.lo) := by rw [← hA]; simp [go_sem]
  have m5 : A.cell? ⟨w.heap.size + 1, 5, none⟩ = some (.int .i64 n.hard.hi) := by rw [← hA]; simp [go_sem]
  have m6 : A.cell? ⟨w.heap.size + 1, 6, none⟩ = some (.bool n.stamp) := by rw [← hA]; simp [go_sem]
  rw [hA]
  clear hbx hsz hA H1 H3 H5 H6 H7
  clear X4 X2 X1 X0
  have l1 := Lays.of_cell a0
  have l2 := Lays.of_cell m0
  have l3 := Lays.of_cell y0
  have hDb : bayOk ((drawnD by_ (ts.map Prod.fst)).map Prod.fst) = true := by rw [drawnD_fst]; exact HBAY.out
  have hDt : ∀ x ∈ drawnD by_ (ts.map Prod.fst), TuneOk x.1 x.2 := drawnD_ok fun s hs => bayOk_right HBAY.out s hs
  have hDl : (drawnD by_ (ts.map Prod.fst)).length = ts'.length := by
    rw [drawnD_len, List.length_map]; have h := congrArg List.length H2.out; simp [drawB, drawnD_len] at h; exact h.symm
  have hnl : 0 < ts'.length := by rw [← hDl, drawnD_len, List.length_map]; exact h0
  have hnu : ts'.length ≤ 8 := by rw [← hDl, drawnD_len, List.length_map]; exact hn8
  rw [List.length_map] at htA
  generalize drawnD by_ (ts.map Prod.fst) = D at *
  have HBA := Lib.hid hbA
  clear hbA
  have HTA := Lib.hid htA
  clear htA
  have HDB := Lib.hid hDb
  clear hDb
  have HDT := Lib.hid hDt
  clear hDt
  have HDL := Lib.hid hDl
  clear hDl
  rename_i i9_1_1 i9_1_2 i9_1_3
  revert ts n ws by_ w q0 cp0 qw cw qb cb HB HWS HWB HBY HBB HCD hn8 HRDY h0 hb0 HN HNE HBAY HRT i9_1_1 ts' qS cS qT cT i9_1_2 i9_1_3 A hwA a0 y0 m0 m1 m2 m3 m4 m5 m6 l1 l2 l3 hnl hnu D H2 HBA HTA HDB HDT HDL
  exact HG.out
end Go.Proofs.YtfjkiemjmnnbkaaGreatDoor

/-
  The law ScaleTrue: its walk.
-/
namespace Go.Proofs.YtfjkiemjmnnbkaaGreatDoor
open Go.RowKit Kr
set_option linter.unusedSimpArgs false

set_option maxRecDepth 100000 in
set_option maxHeartbeats 8000000 in
noncomputable def l04te_any_c2 : { G : Prop // G → l04te_any_c1.val } := by
  apply Subtype.mk
  case property =>
  intro hG
  have HG := Lib.hid hG
  clear hG
  intro ts n ws by_ w q0 cp0 qw cw qb cb HB HWS HWB HBY HBB HCD hn8 HRDY h0 hb0 HN HNE HBAY HRT i9_1_1 ts' qS cS qT cT i9_1_2 i9_1_3 A hwA a0 y0 m0 m1 m2 m3 m4 m5 m6 l1 l2 l3 hnl hnu D H2 HBA HTA HDB HDT HDL
  have ch8 := chooseL_bd HBB.out 8
  have ch9 := chooseL_bd HBB.out 9
  have ch10 := chooseL_bd HBB.out 10
  have ch11 := chooseL_bd HBB.out 11
  have e8 : (chooseL by_ 8).tmod 10000 = addT by_ := Int.tmod_eq_emod_of_nonneg ch8.1
  have e9 : (chooseL by_ 9).tmod 20 = jitT by_ := Int.tmod_eq_emod_of_nonneg ch9.1
  have e10 : (chooseL by_ 10).tmod 30 = sprT by_ := Int.tmod_eq_emod_of_nonneg ch10.1
  obtain ⟨m11, hm11⟩ : ∃ m, m = chooseL by_ 11 % 2 := ⟨_, rfl⟩
  have e11 : (chooseL by_ 11).tmod 2 = m11 := by rw [hm11]; exact Int.tmod_eq_emod_of_nonneg ch11.1
  have e12 : (m11 == 0) = staT by_ := by rw [hm11]; rfl
  clear ch8 ch9 ch10 ch11 hm11
  generalize hr8 : chooseL by_ 8 = r8 at e8
  generalize hr9 : chooseL by_ 9 = r9 at e9
  generalize hr10 : chooseL by_ 10 = r10 at e10
  generalize hr11 : chooseL by_ 11 = r11 at e11
  have HR8 := Lib.hid hr8
  clear hr8
  have HR9 := Lib.hid hr9
  clear hr9
  have HR10 := Lib.hid hr10
  clear hr10
  have HR11 := Lib.hid hr11
  clear hr11
  go_upto_region 7 with (fail)
  refine wp_region_alloc 15 14 _ (.cells #[.slice none 0 0, .int .i64 0, .int .i64 0, .int .i64 0, .slice none 0 0, .slice none 0 0, .int .i64 0, .bool false] 50) (by kernel_rfl) (fun pp => by kernel_rfl) (by kernel_rfl) rfl rfl rfl (by decide) (fun a W => by kernel_rfl) ?_
  apply Exists.intro
  refine ⟨fun pp hpp T hT L hL => ?_, fun pp => ?_, fun pp Wp hpp hEp hop => ?_⟩
  · haveI := hT.2
    simp only [mvOp, List.set_cons_succ, List.set_cons_zero, List.take_succ_cons, List.take_zero]
    repeat (go_big_quiet_step ((go_at_call 25; first | exact Calls.in_extT_eq hT (l04_choose_at by_ _ 8 _ _ (HBY.out.mono (hwA.trans ⟨_, rfl⟩)) HBB.out (by omega) rfl) (by rw [HR8.out]) | exact Calls.in_extT_eq hT (l04_choose_at by_ _ 9 _ _ (HBY.out.mono (hwA.trans ⟨_, rfl⟩)) HBB.out (by omega) rfl) (by rw [HR9.out]) | exact Calls.in_extT_eq hT (l04_choose_at by_ _ 10 _ _ (HBY.out.mono (hwA.trans ⟨_, rfl⟩)) HBB.out (by omega) rfl) (by rw [HR10.out]) | exact Calls.in_extT_eq hT (l04_choose_at by_ _ 11 _ _ (HBY.out.mono (hwA.trans ⟨_, rfl⟩)) HBB.out (by omega) rfl) (by rw [HR11.out]))))
    exact wpQuiet_nil hL
  · rfl
  simp only [List.drop_succ_cons, List.drop_zero]
  obtain ⟨X5, rfl⟩ := hEp
  clear HR8 HR9 HR10 HR11 e8 e9 e10 e11 e12
  have hop' : LaysAs (World.ext A X5) pp (.cells [.slice none 0 0, .int .i64 0, .int .i64 0, .int .i64 0, .slice none 0 0, .slice none 0 0, .int .i64 0, .bool false].toArray 50 (0, 0)) := hop
  have p0 := LaysAs.cell hop' 0 _ rfl
  have p1 := LaysAs.cell hop' 1 _ rfl
  have p2 := LaysAs.cell hop' 2 _ rfl
  have p3 := LaysAs.cell hop' 3 _ rfl
  have p4 := LaysAs.cell hop' 4 _ rfl
  have p5 := LaysAs.cell hop' 5 _ rfl
  have p6 := LaysAs.cell hop' 6 _ rfl
  have p7 := LaysAs.cell hop' 7 _ rfl
  have q0 := laysAs_frozen (i := 0) hop'
  have q1 := laysAs_frozen (i := 1) hop'
  have q2 := laysAs_frozen (i := 2) hop'
  have q3 := laysAs_frozen (i := 3) hop'
  have q4 := laysAs_frozen (i := 4) hop'
  have q5 := laysAs_frozen (i := 5) hop'
  have q6 := laysAs_frozen (i := 6) hop'
  have q7 := laysAs_frozen (i := 7) hop'
  have npp := Lays.of_cell p0
  clear hop
  have HOP := Lib.hid hop'
  clear hop'
  go_wp2_with fail
  generalize hV : World.setCell _ ⟨pp, 7, none⟩ _ = V
  have hE5 : A.Exts (World.ext A X5) := ⟨X5, rfl⟩
  have hEV : A.Exts V := by rw [← hV]; exact (((((((hE5.setCell hpp _).setCell hpp _).setCell hpp _).setCell hpp _).setCell hpp _).setCell hpp _).setCell hpp _).setCell hpp _
  have hLV : LaysAs V pp (.cells [.slice none 0 0, .int .i64 (addT by_), .int .i64 0, .int .i64 (jitT by_), .slice none 0 0, .slice none 0 0, .int .i64 (sprT by_), .bool (staT by_)].toArray 50 (0, 0)) := by
    rw [← hV]
    exact LaysAs.set (i := 7) (LaysAs.set (i := 6) (LaysAs.set (i := 5) (LaysAs.set (i := 4) (LaysAs.set (i := 3) (LaysAs.set (i := 2) (LaysAs.set (i := 1) (LaysAs.set (i := 0) HOP.out _) _) _) _) _) _) _) _
  have hF := te_start (D := D) (ws := ws) hEV hpp hLV
  clear hV p0 p1 p2 p3 p4 p5 p6 p7 q0 q1 q2 q3 q4 q5 q6 q7 npp HOP hLV
  have HFS := Lib.hid hF
  clear hF
  clear hE5 X5
  rename_i i9_2_1 i9_2_2
  revert ts n ws by_ w q0 cp0 qw cw qb cb HB HWS HWB HBY HBB HCD hn8 HRDY h0 hb0 HN HNE HBAY HRT i9_1_1 ts' qS cS qT cT A hwA a0 y0 m0 m1 m2 m3 m4 m5 m6 l1 l2 l3 hnl hnu D H2 HBA HTA HDB HDT HDL m11 r8 r9 r10 r11 pp hpp i9_2_1 i9_2_2 V hEV HFS
  exact HG.out
end Go.Proofs.YtfjkiemjmnnbkaaGreatDoor

/-
  The law ScaleTrue: its walk.
-/
namespace Go.Proofs.YtfjkiemjmnnbkaaGreatDoor
open Go.RowKit Kr
set_option linter.unusedSimpArgs false

set_option maxRecDepth 100000 in
set_option maxHeartbeats 8000000 in
noncomputable def l04te_any_c3 : { G : Prop // G → l04te_any_c2.val } := by
  apply Subtype.mk
  case property =>
  intro hG
  have HG := Lib.hid hG
  clear hG
  intro ts n ws by_ w q0 cp0 qw cw qb cb HB HWS HWB HBY HBB HCD hn8 HRDY h0 hb0 HN HNE HBAY HRT i9_1_1 ts' qS cS qT cT A hwA a0 y0 m0 m1 m2 m3 m4 m5 m6 l1 l2 l3 hnl hnu D H2 HBA HTA HDB HDT HDL m11 r8 r9 r10 r11 pp hpp i9_2_1 i9_2_2 V hEV HFS
  go_loopw [12, 86] (fun tot i wr => ∃ (k : Nat) (v0 : Value), k ≤ min ws.length 6 ∧ i = .int .i64 k ∧ tot = .int .i64 (addT by_ + sumW ws k) ∧ Hid (FrAt A wr V.heap.size (teB by_ pp v0 (.slice none 0 0) (.slice none 0 0) 0) (teR D by_ ws v0 (.slice none 0 0) (.slice none 0 0) (.slice none 0 0) k 0 0))) (fun _ i _ => min ws.length 6 - (intOf i).toNat)
  case atStart => exact ⟨0, _, Nat.zero_le _, rfl, by simp [sumW], HFS⟩
  case round =>
    obtain ⟨k, v0, hk, rfl, rfl, HFR⟩ := hrel
    rcases Nat.lt_or_ge k (min ws.length 6) with hlt | hge
    ·
      have hk1 : k < ws.length := by omega
      have hk2 : k < 6 := by omega
      have hd1 : decide ((k : Int) < min (ws.length : Int) 6) = true := by simp; omega
      obtain ⟨qw', bw, ow, cw', e, hmw, hpw, hcw⟩ := (HWS.out.mono (hwA.trans HFR.out.ext)).ex
      simp only [Value.slice.injEq] at e
      obtain ⟨rfl, -, rfl⟩ := e
      obtain ⟨rfl, hlw⟩ := hpw (by omega)
      obtain ⟨x, hx⟩ := some_of_lt hk1
      have hcs := hcw k x hx
      have w0 := hcs 0 _ rfl
      simp only [Nat.mul_one, Nat.add_zero] at w0
      have hxb := HWB.out x (List.mem_of_getElem? hx)
      have hwx : wAt ws k = x % 1000001 := by unfold wAt; rw [List.getD_eq_getElem?_getD, hx]; rfl
      have e1 : x.tmod 1000001 = x % 1000001 := Int.tmod_eq_emod_of_nonneg hxb.1
      have hsb := sumW_bd ws k
      have hwb2 := wAt_bd (ws := ws) (i := k)
      have hab := addT_bd (by_ := by_)
      have e2 : IntKind.i64.wrap (addT by_ + sumW ws k + wAt ws k) = addT by_ + sumW ws (k + 1) := by rw [sumW_succ, IntWalk.i64_in _ (by omega)]; omega
      rw [← hwx] at e1
      have HWX := Lib.hid hwx
      clear hwx
      clear hx hcs hpw hcw hmw
      have hkx : kTe by_ ts'.length k < ts'.length := kTe_lt hnl
      obtain ⟨⟨s', tv⟩, hs⟩ := some_of_lt (xs := ts') hkx
      obtain ⟨⟨s, t⟩, hD⟩ := some_of_lt (xs := D) (k := kTe by_ ts'.length k) (by rw [HDL.out]; exact hkx)
      obtain rfl : s' = drawS t s := by
        have h1 := congrArg (fun l => l[kTe by_ ts'.length k]?) H2.out
        simp only [drawB, List.getElem?_map, hs, hD, Option.map_some, Option.some.injEq] at h1
        exact h1
      have hsr : right s = true := bayOk_right HDB.out s (List.mem_map.2 ⟨_, List.mem_of_getElem? hD, rfl⟩)
      have hok : TuneOk s t := HDT.out _ (List.mem_of_getElem? hD)
      have hld : loadBy D (kTe by_ ts'.length k, wAt ws k) = ⟨s.id, readAt s.step (wAt ws k) t.1 t.2⟩ := by unfold loadBy; rw [hD]
      obtain ⟨hid, hst, hgn, hof, -, -⟩ := right_bounds hsr
      obtain ⟨hrd, hrd1, hrd2⟩ := te_reads hsr hok hwb2
      unfold TuneOk at hok
      have hkl : ldT D by_ ws (k + 1) = ldT D by_ ws k ++ [⟨s.id, readAt s.step (wAt ws k) t.1 t.2⟩] := by rw [ldT_succ, HDL.out, hld]
      obtain ⟨qS', bS, oS, cS', e, hmS, hpS, hcS⟩ := HBA.out.row.ex
      simp only [Value.slice.injEq] at e
      obtain ⟨rfl, -, rfl⟩ := e
      obtain ⟨rfl, hlS⟩ := hpS (by omega)
      have hcs := hcS _ _ hs
      have c0 := hcs 0 _ rfl
      have c1 := hcs 1 _ rfl
      have c2 := hcs 2 _ rfl
      have c3 := hcs 3 _ rfl
      have c4 := hcs 4 _ rfl
      have c5 := hcs 5 _ rfl
      have c6 := hcs 6 _ rfl
      simp only [Nat.add_zero] at c0 c1 c2 c3 c4 c5 c6
      have htr := HBA.out.tr _ (List.mem_of_getElem? hs)
      obtain ⟨qtv, ctv, etv⟩ := htr.len
      dsimp only at etv
      subst etv
      obtain ⟨qT', bT, oT, cT', e, hmT, hpT, hcT⟩ := HTA.out.ex
      simp only [Value.slice.injEq] at e
      obtain ⟨rfl, -, rfl⟩ := e
      obtain ⟨rfl, hlT⟩ := hpT (by rw [List.length_map, HDL.out]; omega)
      have hct := hcT (kTe by_ ts'.length k) t (by rw [List.getElem?_map, hD]; rfl)
      have t0 := hct 0 _ rfl
      have t1 := hct 1 _ rfl
      simp only [Nat.add_zero] at t0 t1
      have hcq := fun (W : World) (hE : A.Exts W) => scale_Reads_any (drawS t s) _ (wAt ws k) W (htr.mono hE)
      rw [hrd] at hcq
      dsimp only [drawS] at c0 c1 c2 c3 c4 c5 c6 hcq hrd1 hrd2
      simp only [List.length_map] at hcq
      have hch := chooseL_bd HBB.out (12 + k)
      have e3 : (chooseL by_ (12 + k)).tmod (ts'.length : Int) = (kTe by_ ts'.length k : Int) := by rw [Int.tmod_eq_emod_of_nonneg hch.1]; exact kTe_int hnl
      have a2 : IntKind.i64.wrap (12 + (k : Int)) = 12 + (k : Int) := IntWalk.i64_in _ (by omega)
      have w3 : ((ts'.length : Int) == 0) = false := beq_eq_false_iff_ne.2 (by omega)
      have hEw := hwA.trans HFR.out.ext
      generalize hr : chooseL by_ (12 + k) = r at e3
      generalize kTe by_ ts'.length k = kx at *
      have hcr := fun (W : World) => l04_reads_any s (.slice qtv s.trials.length ctv) t.1 t.2 (wAt ws k) W hst (by omega) (by omega) hwb2
      generalize readAt s.step (wAt ws k) t.1 t.2 = rd at *
      generalize (readsOf s.step (wAt ws k) (tunes { s with trials := List.map (fun r => ({ weight := r.weight, shown := readAt s.step r.weight t.1 t.2 } : Trial)) s.trials })) = rs at *
      have g1 : decide (rd < rs.lo) = false := by simp; exact hrd1
      have g2 : decide (rs.hi < rd) = false := by simp; exact hrd2
      have HCR := Lib.hid hcr
      clear hcr
      have HCQ := Lib.hid hcq
      clear hcq
      have w4 : (0 : Int) ≤ (kx : Int) := by omega
      have w5 : (kx : Int) < (ts'.length : Int) := by omega
      have d4 := HFR.out.ext.cell a0
      have d5 := HFR.out.ext.cell y0
      have n4 := Lays.of_cell d4
      have n5 := Lays.of_cell d5
      have HR := Lib.hid hr
      clear hr
      have HKL := Lib.hid hkl
      clear hkl
      have HRD1 := Lib.hid hrd1
      clear hrd1
      have HRD2 := Lib.hid hrd2
      clear hrd2
      clear hs hD hct hcT hpT hcs hcS hpS hld htr hrd
      go_upto_region 12 with (fail)
      refine wp_region_ext (by kernel_rfl) (by kernel_rfl) ?_
      repeat (go_big_quiet_step ((go_at_call 25; exact Calls.in_ext_eq (l04_choose_at by_ _ (12 + k) _ _ (HBY.out.mono (hEw.trans ⟨_, rfl⟩)) HBB.out (by omega) (by omega)) (by rw [HR.out]))))
      refine wpQuiet_nil ?_
      rintro _ ⟨X, rfl⟩
      go_upto_region 13 with (fail)
      obtain ⟨W1, hW1⟩ : ∃ W, World.ext wr X = W := ⟨_, rfl⟩
      have hF1 := HFR.out.exts (W' := W1) (by rw [← hW1]; exact ⟨X, rfl⟩)
      rw [hW1]
      clear hW1 d4 d5 n4 n5 e1 a2 e3 w3 w0 HR hEw
      obtain ⟨hG1, hR1⟩ := hF1.split 0 rfl
      haveI : Nonempty (GW (teG A V.heap.size D by_ ws pp v0 (.slice none 0 0) (.slice none 0 0) (.slice none 0 0) 0 k 0 0 0 v0)) := ⟨⟨W1, hG1⟩⟩
      have kA := fun (Y : GW (teG A V.heap.size D by_ ws pp v0 (.slice none 0 0) (.slice none 0 0) (.slice none 0 0) 0 k 0 0 0 v0)) => (Y.h.fr.ext.cell a0 : Y.w.cell? ⟨w.heap.size, 0, none⟩ = _)
      have kp := fun (Y : GW (teG A V.heap.size D by_ ws pp v0 (.slice none 0 0) (.slice none 0 0) (.slice none 0 0) 0 k 0 0 0 v0)) => teG_cell Y 0 _ rfl
      have k0 := fun (Y : GW (teG A V.heap.size D by_ ws pp v0 (.slice none 0 0) (.slice none 0 0) (.slice none 0 0) 0 k 0 0 0 v0)) => Y.h.fr.ext.cell c0
      have k1 := fun (Y : GW (teG A V.heap.size D by_ ws pp v0 (.slice none 0 0) (.slice none 0 0) (.slice none 0 0) 0 k 0 0 0 v0)) => Y.h.fr.ext.cell c1
      have k2 := fun (Y : GW (teG A V.heap.size D by_ ws pp v0 (.slice none 0 0) (.slice none 0 0) (.slice none 0 0) 0 k 0 0 0 v0)) => Y.h.fr.ext.cell c2
      have k3 := fun (Y : GW (teG A V.heap.size D by_ ws pp v0 (.slice none 0 0) (.slice none 0 0) (.slice none 0 0) 0 k 0 0 0 v0)) => Y.h.fr.ext.cell c3
      have k4 := fun (Y : GW (teG A V.heap.size D by_ ws pp v0 (.slice none 0 0) (.slice none 0 0) (.slice none 0 0) 0 k 0 0 0 v0)) => Y.h.fr.ext.cell c4
      have k5 := fun (Y : GW (teG A V.heap.size D by_ ws pp v0 (.slice none 0 0) (.slice none 0 0) (.slice none 0 0) 0 k 0 0 0 v0)) => Y.h.fr.ext.cell c5
      have k6 := fun (Y : GW (teG A V.heap.size D by_ ws pp v0 (.slice none 0 0) (.slice none 0 0) (.slice none 0 0) 0 k 0 0 0 v0)) => Y.h.fr.ext.cell c6
      have kt0 := fun (Y : GW (teG A V.heap.size D by_ ws pp v0 (.slice none 0 0) (.slice none 0 0) (.slice none 0 0) 0 k 0 0 0 v0)) => Y.h.fr.ext.cell t0
      have kt1 := fun (Y : GW (teG A V.heap.size D by_ ws pp v0 (.slice none 0 0) (.slice none 0 0) (.slice none 0 0) 0 k 0 0 0 v0)) => Y.h.fr.ext.cell t1
      have hkD : kx < D.length := by rw [HDL.out]; exact hkx
      refine wp_region_inv 23 (fun i => i == 18 || i == 19 || i == 20 || i == 21) (FrPhi V.heap.size ((teR D by_ ws v0 (.slice none 0 0) (.slice none 0 0) (.slice none 0 0) k 0 0).eraseIdx 0) v0 (appTab 18 19 20 21 (.int .i64 rd) (.agg #[.int .i64 s.id, .int .i64 rd]) 63 [.int .i64 s.id, .int .i64 rd] 2 (k + 1) ((ldT D by_ ws k).flatMap loadEnc ++ [.int .i64 s.id, .int .i64 rd])))
        (teG A V.heap.size D by_ ws pp v0 (.slice none 0 0) (.slice none 0 0) (.slice none 0 0) 0 k 0 0 0 v0)
        (FrInv A V.heap.size (teB by_ pp v0 (.slice none 0 0) (.slice none 0 0) 0) ((teR D by_ ws v0 (.slice none 0 0) (.slice none 0 0) (.slice none 0 0) k 0 0).eraseIdx 0) ⟨63, 2, v0, k, (ldT D by_ ws k).flatMap loadEnc⟩ 21)
        (by kernel_rfl) (fun ν => by kernel_rfl) (by kernel_rfl) (by kernel_rfl) (by kernel_rfl) (by kernel_rfl) (fun _ _ h => h.1) (fun listed W i hi hU h => h.same (fun e => by subst e; simp at hU)) (FrInv.start hG1 hR1) ?_
      apply Exists.intro
      refine ⟨fun ν L hL => ?_, fun c oc hc hU ν listed W hsz hInv hun hΦ => ?_, fun ν listed W hInv hall hΦ => ?_⟩
      · simp only [modU, cOp, List.mapIdx_cons, List.mapIdx_nil, Nat.zero_add, Nat.reduceAdd, Nat.reduceBEq, Bool.or_false, Bool.false_or, Bool.or_true, Bool.true_or, Bool.or_self, Bool.false_eq_true, if_false, if_true, List.take_succ_cons, List.take_zero]
        repeat (go_big_quiet_step (fail))
        exact wpQuiet_nil hL
      · simp at hU
        rcases hU with ((rfl | rfl) | rfl) | rfl
        · simp only [List.getElem?_cons_succ, List.getElem?_cons_zero, Option.some.injEq] at hc
          subst hc
          refine .inl (Oper.gives_fn rfl rfl rfl (enters_of Tryz.func26 (by kernel_rfl) rfl) ?_ rfl)
          simp only [List.map_cons, List.map_nil, Act.eval, go_sem, Array.getD_eq_getD_getElem?, List.getElem?_toArray, List.getElem?_cons_succ, List.getElem?_cons_zero, Option.getD_some]
          refine (HCR.out W).mono ?_
          rintro e W' ⟨rfl, hE⟩
          exact ⟨_, rfl, hInv.exts (by decide) hE, FrPhi.mkVal rfl, fun _ _ _ _ h => h.exts hE⟩
        · simp only [List.getElem?_cons_succ, List.getElem?_cons_zero, Option.some.injEq] at hc
          subst hc
          have h18 := (hΦ 18 rfl ⟨⟨18, .data⟩, by simp, rfl, rfl⟩).getVal rfl
          exact gives_load (a := s.id) (b := rd) rfl rfl h18 ⟨hInv.same (by decide), FrPhi.mkVal rfl, fun _ _ _ _ h => h⟩
        · simp only [List.getElem?_cons_succ, List.getElem?_cons_zero, Option.some.injEq] at hc
          subst hc
          have h19 := (hΦ 19 rfl ⟨⟨19, .data⟩, by simp, rfl, rfl⟩).getVal rfl
          exact gives_loads (a := s.id) (b := rd) rfl h19 ⟨hInv.exts (by decide) ((World.Exts.refl W).alloc _), FrInv.litPhi (r := ⟨63, 2, v0, k, (ldT D by_ ws k).flatMap loadEnc⟩) hInv.1 rfl, fun _ _ _ _ h => h.exts ((World.Exts.refl W).alloc _)⟩
        · simp only [List.getElem?_cons_succ, List.getElem?_cons_zero, Option.some.injEq] at hc
          subst hc
          obtain ⟨nb, hν, hlay, hnb⟩ := (hΦ 20 rfl ⟨⟨20, .data⟩, by simp, rfl, rfl⟩).getLit rfl
          refine gives_append (.tmp 104) (.tmp 123) elem_Load rfl rfl (hInv.2 hun) [.int .i64 s.id, .int .i64 rd] nb hν (fun j u hj => LaysAs.cell hlay j u hj) rfl (fun u hu => by simp at hu; rcases hu with rfl | rfl <;> rfl) (by show k ≤ _; omega) (by decide) hInv.1.fr.sz ?_
          intro v' w' hown happ
          exact hInv.done hun hown happ (by rw [hsz]; decide) (by decide) (by decide) (by decide)
      simp only [List.drop_succ_cons, List.drop_zero]
      obtain ⟨h21, hap21⟩ := (hΦ 21 (by decide) rfl).getApp rfl
      obtain ⟨qv, cv, ev⟩ := owns_len h21
      have hj1 := FrG.join (rs := teR D by_ ws v0 (.slice none 0 0) (.slice none 0 0) (.slice none 0 0) k 0 0) 0 (show 0 < 4 by decide) hInv.1 h21 hap21
      have hpush := hj1.store 0 0 rfl (ν 21)
      have s0 := LaysAs.cell (hInv.1.fr.box 0 rfl) 0 _ rfl
      have f0 : W.frozen? ⟨pp, 0, none⟩ = false := laysAs_frozen (hInv.1.fr.box 0 rfl)
      have nl := Lays.of_cell s0
      generalize ν 21 = vn at *
      subst ev
      have hp2 : FrAt A (W.setCell ⟨pp, 0, none⟩ (.slice qv (k + 1) cv)) V.heap.size (teB by_ pp (.slice qv (k + 1) cv) (.slice none 0 0) (.slice none 0 0) 0) (teR D by_ ws (.slice qv (k + 1) cv) (.slice none 0 0) (.slice none 0 0) (.slice none 0 0) (k + 1) 0 0) := by
        unfold teR
        rw [HKL.out, List.flatMap_append]
        exact hpush
      have HPU := Lib.hid hp2
      clear hp2
      clear hInv hΦ hall h21 hap21 hj1 hpush kA kp k0 k1 k2 k3 k4 k5 k6 kt0 kt1 hG1 hR1 hF1 HFR
      go_upto_region 14 with (fail)
      generalize hW2 : World.setCell W ⟨pp, 0, none⟩ _ = W2
      rw [hW2] at HPU
      clear s0 f0 nl hW2
      have b0 := HPU.out.ext.cell a0
      have nb0 := Lays.of_cell b0
      have z0 := HPU.out.ext.cell c0
      have z1 := HPU.out.ext.cell c1
      have z2 := HPU.out.ext.cell c2
      have z3 := HPU.out.ext.cell c3
      have z4 := HPU.out.ext.cell c4
      have z5 := HPU.out.ext.cell c5
      have z6 := HPU.out.ext.cell c6
      have nz := Lays.of_cell z0
      have hEA := HPU.out.ext
      have g0 := LaysAs.cell (HPU.out.box 0 rfl) 0 _ rfl
      have ng := Lays.of_cell g0
      have hlr : IsRow loadEnc 2 W2 (.slice qv (k + 1) cv) (ldT D by_ ws (k + 1)) := by
        have := HPU.out.row 0 rfl
        exact IsRow.of_owns (by rw [ldT_len]; exact this) (fun _ _ => rfl)
      obtain ⟨qv', bv', ov', cv', e, hmv, hpv, hcv⟩ := hlr.ex
      simp only [Value.slice.injEq] at e
      obtain ⟨rfl, -, rfl⟩ := e
      obtain ⟨rfl, hlv⟩ := hpv (by rw [ldT_len]; omega)
      have hc9 := hcv k ⟨s.id, rd⟩ (by rw [HKL.out, List.getElem?_append_right (Nat.le_of_eq (ldT_len _)), ldT_len, Nat.sub_self]; rfl)
      have v1 := hc9 1 _ rfl
      have nv := Lays.of_cell v1
      clear hlr hcv hpv hc9 c0 c1 c2 c3 c4 c5 c6 t0 t1
      go_upto_region 16 with (go_at_call 27; refine (HCQ.out W2 hEA).mono ?_; rintro e w' ⟨rfl, X3, rfl⟩)
      refine wp_region_ext (by kernel_rfl) (by kernel_rfl) ?_
      repeat (go_big_quiet_step (fail))
      refine wpQuiet_nil ?_
      rintro _ ⟨X, rfl⟩
      go_wp2_with fail
      go_roundw
      case rel => exact ⟨k + 1, _, by omega, by go_num, rfl, Lib.hid (HPU.out.exts exq)⟩
      case measure => simp [intOf]; omega
    have hkn : k = min ws.length 6 := by omega
    have hd0 : decide ((k : Int) < min (ws.length : Int) 6) = false := by simp; omega
    have hk6 : k ≤ 6 := by omega
    clear hkn
    go_upto_region 19 with (fail)
    rename_i i9_3_1 i9_3_2 i9_3_3 i9_3_4 i9_3_5
    revert ts n ws by_ w q0 cp0 qw cw qb cb HB HWS HWB HBY HBB HCD hn8 HRDY h0 hb0 HN HNE HBAY HRT i9_1_1 ts' qS cS qT cT A hwA a0 y0 m0 m1 m2 m3 m4 m5 m6 l1 l2 l3 hnl hnu D H2 HBA HTA HDB HDT HDL m11 r8 r9 r10 r11 pp hpp i9_2_1 V hEV HFS wr u8 u13 u14 u15 u16 u17 u87 u88 u89 u90 u91 u92 u93 u94 u95 u96 u97 u98 u99 u100 u101 u102 u103 u104 u105 u106 u107 u108 u109 u110 u111 u112 u113 u114 u115 u116 u117 u118 u119 u120 u121 u122 u123 u124 u125 u126 u127 u128 u129 u130 u131 u132 u133 u134 u135 u136 u137 u138 u139 u140 u141 u142 u143 u144 u145 u146 u147 u148 u149 u150 u151 u152 u153 u154 u155 u156 u157 u158 u159 u160 u161 u162 u163 k v0 hk HFR hge hd0 hk6 i9_3_1 i9_3_2 i9_3_3 i9_3_4 i9_3_5
    exact HG.out
end Go.Proofs.YtfjkiemjmnnbkaaGreatDoor

/-
  The law ScaleTrue: its walk.
-/
namespace Go.Proofs.YtfjkiemjmnnbkaaGreatDoor
open Go.RowKit Kr
set_option linter.unusedSimpArgs false

set_option maxRecDepth 100000 in
set_option maxHeartbeats 8000000 in
noncomputable def l04te_any_c4 : { G : Prop // G → l04te_any_c3.val } := by
  apply Subtype.mk
  case property =>
  intro hG
  have HG := Lib.hid hG
  clear hG
  intro ts n ws by_ w q0 cp0 qw cw qb cb HB HWS HWB HBY HBB HCD hn8 HRDY h0 hb0 HN HNE HBAY HRT i9_1_1 ts' qS cS qT cT A hwA a0 y0 m0 m1 m2 m3 m4 m5 m6 l1 l2 l3 hnl hnu D H2 HBA HTA HDB HDT HDL m11 r8 r9 r10 r11 pp hpp i9_2_1 V hEV HFS wr u8 u13 u14 u15 u16 u17 u87 u88 u89 u90 u91 u92 u93 u94 u95 u96 u97 u98 u99 u100 u101 u102 u103 u104 u105 u106 u107 u108 u109 u110 u111 u112 u113 u114 u115 u116 u117 u118 u119 u120 u121 u122 u123 u124 u125 u126 u127 u128 u129 u130 u131 u132 u133 u134 u135 u136 u137 u138 u139 u140 u141 u142 u143 u144 u145 u146 u147 u148 u149 u150 u151 u152 u153 u154 u155 u156 u157 u158 u159 u160 u161 u162 u163 k v0 hk HFR hge hd0 hk6 i9_3_1 i9_3_2 i9_3_3 i9_3_4 i9_3_5
  clear hge hd0
  have ch18 := chooseL_bd HBB.out 18
  have ch19 := chooseL_bd HBB.out 19
  have ch20 := chooseL_bd HBB.out 20
  have ch22 := chooseL_bd HBB.out 22
  have hE1 := HFR.out.ext
  obtain ⟨m18, hm18⟩ : ∃ m, m = chooseL by_ 18 % 200 := ⟨_, rfl⟩
  obtain ⟨m19, hm19⟩ : ∃ m, m = chooseL by_ 19 % 100 := ⟨_, rfl⟩
  have e18 : (chooseL by_ 18).tmod 200 = m18 := by rw [hm18]; exact Int.tmod_eq_emod_of_nonneg ch18.1
  have e19 : (chooseL by_ 19).tmod 100 = m19 := by rw [hm19]; exact Int.tmod_eq_emod_of_nonneg ch19.1
  have f18 : IntKind.i64.wrap (m18 - 100) = basT by_ := by rw [hm18]; exact IntWalk.i64_in _ (by omega)
  have f19 : IntKind.i64.wrap (400 + m19) = harT by_ := by rw [hm19]; exact IntWalk.i64_in _ (by omega)
  generalize hr18 : chooseL by_ 18 = r18 at e18
  generalize hr19 : chooseL by_ 19 = r19 at e19
  have HR18 := Lib.hid hr18
  clear hr18
  have HR19 := Lib.hid hr19
  clear hr19
  clear hm18 hm19 ch18 ch19
  have y1 := hE1.cell y0
  have ny1 := Lays.of_cell y1
  go_upto_region 20 with (fail)
  refine wp_region_ext (by kernel_rfl) (by kernel_rfl) ?_
  repeat (go_big_quiet_step ((go_at_call 25; first | exact Calls.in_ext_eq (l04_choose_at by_ _ 18 _ _ (HBY.out.mono ((hwA.trans hE1).trans ⟨_, rfl⟩)) HBB.out (by omega) rfl) (by rw [HR18.out]) | exact Calls.in_ext_eq (l04_choose_at by_ _ 19 _ _ (HBY.out.mono ((hwA.trans hE1).trans ⟨_, rfl⟩)) HBB.out (by omega) rfl) (by rw [HR19.out]))))
  refine wpQuiet_nil ?_
  rintro _ ⟨X, rfl⟩
  obtain ⟨W1, hW1⟩ : ∃ W, World.ext wr X = W := ⟨_, rfl⟩
  have hF1 := HFR.out.exts (W' := W1) (by rw [← hW1]; exact ⟨X, rfl⟩)
  rw [hW1]
  clear hW1 y1 ny1 HR18 HR19 e18 e19 f18 f19 HFR hE1
  have HF1 := Lib.hid hF1
  clear hF1
  have hE1 := HF1.out.ext
  have y1 := hE1.cell y0
  have ny1 := Lays.of_cell y1
  have p2 := LaysAs.cell (HF1.out.box 0 rfl) 2 _ rfl
  have p3 := LaysAs.cell (HF1.out.box 0 rfl) 3 _ rfl
  have q2 : W1.frozen? ⟨pp, 2, none⟩ = false := laysAs_frozen (HF1.out.box 0 rfl)
  have np := Lays.of_cell p2
  have bb := basT_bd (by_ := by_)
  have bi := biaT_bd (by_ := by_)
  have bj := jitT_bd (by_ := by_)
  have be := errT_bd (by_ := by_) 21 bj.1
  obtain ⟨m20, hm20⟩ : ∃ m, m = chooseL by_ 20 % 50 := ⟨_, rfl⟩
  have e20 : (chooseL by_ 20).tmod 50 = m20 := by rw [hm20]; exact Int.tmod_eq_emod_of_nonneg ch20.1
  have f20 : m20 - 25 = biaT by_ := by rw [hm20]; rfl
  have g20 : 0 ≤ m20 := by rw [hm20]; omega
  have g21 : m20 ≤ 49 := by rw [hm20]; omega
  clear hm20 ch20
  have hEw := hwA.trans hE1
  go_upto_region 23 with (first
    | (go_at_call 25; refine (l04_choose_at by_ _ 20 _ _ (HBY.out.mono (exf hEw)) HBB.out (by omega) rfl).mono ?_; rintro e w' ⟨rfl, X1, rfl⟩)
    | (go_at_call 28; refine (l04_err_any by_ _ 21 _ (jitT by_) _ _ (HBY.out.mono (exf hEw)) HBB.out (by omega) rfl ⟨bj.1, by omega⟩ (by simp only [World.cell?_ext]; exact y1)).mono ?_; rintro e w' ⟨rfl, X2, rfl⟩))
  generalize hW2 : World.setCell _ ⟨pp, 2, none⟩ _ = W2
  have hF2 : FrAt A W2 V.heap.size (teB by_ pp v0 (.slice none 0 0) (.slice none 0 0) (begT by_)) (teR D by_ ws v0 (.slice none 0 0) (.slice none 0 0) (.slice none 0 0) k 0 0) := by
    rw [← hW2]
    exact (HF1.out.exts exq).store 0 2 rfl _
  clear hW2 HF1 e20 f20 g20 g21 p2 p3 q2 np y1 ny1 hE1 hEw be bi bb bj
  have HF2 := Lib.hid hF2
  clear hF2
  have hE2 := HF2.out.ext
  have hEw := hwA.trans hE2
  have y1 := hE2.cell y0
  have ny1 := Lays.of_cell y1
  have e22 : (chooseL by_ 22).tmod 5 = (nrT by_ : Int) := by rw [Int.tmod_eq_emod_of_nonneg ch22.1]; exact nrT_int
  clear ch22
  go_wp2_with (go_at_call 25; refine (l04_choose_at by_ _ 22 _ _ (HBY.out.mono (exf hEw)) HBB.out (by omega) rfl).mono ?_; rintro e w' ⟨rfl, X3, rfl⟩)
  obtain ⟨W3, hW3⟩ : ∃ W, World.ext W2 X3 = W := ⟨_, rfl⟩
  have hF3 := HF2.out.exts (W' := W3) (by rw [← hW3]; exact ⟨X3, rfl⟩)
  rw [hW3]
  clear hW3 y1 ny1 e22 hE2 hEw HF2
  have HF3 := Lib.hid hF3
  clear hF3
  rename_i i9_4_1 i9_4_2
  revert ts n ws by_ w q0 cp0 qw cw qb cb HB HWS HWB HBY HBB HCD hn8 HRDY h0 hb0 HN HNE HBAY HRT i9_1_1 ts' qS cS qT cT A hwA a0 y0 m0 m1 m2 m3 m4 m5 m6 l1 l2 l3 hnl hnu D H2 HBA HTA HDB HDT HDL m11 r8 r9 r10 r11 pp hpp i9_2_1 V hEV HFS wr u8 u13 u14 u15 u16 u17 u87 u88 u89 u90 u91 u92 u93 u94 u95 u96 u97 u98 u99 u100 u101 u102 u103 u104 u105 u106 u107 u108 u109 u110 u111 u112 u113 u114 u115 u116 u117 u118 u119 u120 u121 u122 u123 u124 u125 u126 u127 u128 u129 u130 u131 u132 u133 u134 u135 u136 u137 u138 u139 u140 u141 u142 u143 u144 u145 u146 u147 u148 u149 u150 u151 u152 u153 u154 u155 u156 u157 u158 u159 u160 u161 u162 u163 k v0 hk hk6 i9_3_1 i9_3_2 i9_3_3 m18 m19 r18 r19 X W1 m20 X1 X2 W2 i9_4_1 i9_4_2 X3 W3 HF3
  exact HG.out
end Go.Proofs.YtfjkiemjmnnbkaaGreatDoor

/-
  The law ScaleTrue: its walk.
-/
namespace Go.Proofs.YtfjkiemjmnnbkaaGreatDoor
open Go.RowKit Kr
set_option linter.unusedSimpArgs false

set_option maxRecDepth 100000 in
set_option maxHeartbeats 8000000 in
noncomputable def l04te_any_c5 : { G : Prop // G → l04te_any_c4.val } := by
  apply Subtype.mk
  case property =>
  intro hG
  have HG := Lib.hid hG
  clear hG
  intro ts n ws by_ w q0 cp0 qw cw qb cb HB HWS HWB HBY HBB HCD hn8 HRDY h0 hb0 HN HNE HBAY HRT i9_1_1 ts' qS cS qT cT A hwA a0 y0 m0 m1 m2 m3 m4 m5 m6 l1 l2 l3 hnl hnu D H2 HBA HTA HDB HDT HDL m11 r8 r9 r10 r11 pp hpp i9_2_1 V hEV HFS wr u8 u13 u14 u15 u16 u17 u87 u88 u89 u90 u91 u92 u93 u94 u95 u96 u97 u98 u99 u100 u101 u102 u103 u104 u105 u106 u107 u108 u109 u110 u111 u112 u113 u114 u115 u116 u117 u118 u119 u120 u121 u122 u123 u124 u125 u126 u127 u128 u129 u130 u131 u132 u133 u134 u135 u136 u137 u138 u139 u140 u141 u142 u143 u144 u145 u146 u147 u148 u149 u150 u151 u152 u153 u154 u155 u156 u157 u158 u159 u160 u161 u162 u163 k v0 hk hk6 i9_3_1 i9_3_2 i9_3_3 m18 m19 r18 r19 X W1 m20 X1 X2 W2 i9_4_1 i9_4_2 X3 W3 HF3
  have hnr := nrT_bd (by_ := by_)
  go_loopw [22, 23, 189] (fun t u i wr => ∃ (a : Nat) (v1 v3 : Value) (cq : Bool), a ≤ nrT by_ ∧ i = .int .i64 a ∧ v3 = u ∧ t = .bool cq ∧ Hid (coolT by_ n.warm a = cq) ∧ Hid (FrAt A wr V.heap.size (teB by_ pp v0 v1 (.slice none 0 0) (begT by_)) (teR D by_ ws v0 v1 (.slice none 0 0) v3 k a 0))) (fun _ _ i _ => nrT by_ - (intOf i).toNat)
  case atStart => exact ⟨0, _, _, true, Nat.zero_le _, rfl, rfl, rfl, Lib.hid rfl, HF3⟩
  case round =>
    obtain ⟨a, v1, v3, cq, ha, rfl, rfl, rfl, HCB, HFR⟩ := hrel
    rcases Nat.lt_or_ge a (nrT by_) with hlt | hge
    ·
      have hE1 := HFR.out.ext
      have hEw := hwA.trans hE1
      have y1 := hE1.cell y0
      have ny1 := Lays.of_cell y1
      have chd := chooseL_bd HBB.out (23 + a)
      have e23 : (chooseL by_ (23 + a)).tmod 80 = dT by_ a := Int.tmod_eq_emod_of_nonneg chd.1
      clear chd
      go_upto_region 29 with (go_at_call 25; refine (l04_choose_at by_ _ (23 + a) _ _ (HBY.out.mono (exf hEw)) HBB.out (by omega) (by omega)).mono ?_; rintro e w' ⟨rfl, X1, rfl⟩)
      obtain ⟨W1, hW1⟩ : ∃ W, World.ext wr X1 = W := ⟨_, rfl⟩
      have hF1 := HFR.out.exts (W' := W1) (by rw [← hW1]; exact ⟨X1, rfl⟩)
      rw [hW1]
      clear hW1 y1 ny1 e23 hE1 hEw HFR
      have bb := basT_bd (by_ := by_)
      have bi := biaT_bd (by_ := by_)
      have bj := jitT_bd (by_ := by_)
      have bd := dT_bd (by_ := by_) a
      have be := errT_bd (by_ := by_) (28 + a) bj.1
      have s1 : IntKind.i64.wrap (basT by_ + dT by_ a) = basT by_ + dT by_ a := IntWalk.i64_in _ (by omega)
      have s2 : IntKind.i64.wrap (basT by_ + dT by_ a + biaT by_) = basT by_ + dT by_ a + biaT by_ := IntWalk.i64_in _ (by omega)
      have s3 : IntKind.i64.wrap (28 + (a : Int)) = 28 + (a : Int) := IntWalk.i64_in _ (by omega)
      have s4 : IntKind.i64.wrap (basT by_ + dT by_ a + biaT by_ + errT by_ (28 + a) (jitT by_)) = runT by_ a := IntWalk.i64_in _ (by omega)
      have HS4 := Lib.hid s4
      clear s4
      obtain ⟨hG1, hR1⟩ := hF1.split 1 rfl
      haveI : Nonempty (GW (teG A V.heap.size D by_ ws pp v0 v1 (.slice none 0 0) v3 (begT by_) k a 0 1 v1)) := ⟨⟨W1, hG1⟩⟩
      have kp3 := fun (Y : GW (teG A V.heap.size D by_ ws pp v0 v1 (.slice none 0 0) v3 (begT by_) k a 0 1 v1)) => teG_cell Y 3 _ rfl
      have kp4 := fun (Y : GW (teG A V.heap.size D by_ ws pp v0 v1 (.slice none 0 0) v3 (begT by_) k a 0 1 v1)) => teG_cell Y 4 _ rfl
      refine wp_region_inv 17 (fun i => i == 12 || i == 13 || i == 14 || i == 15) (FrPhi V.heap.size ((teR D by_ ws v0 v1 (.slice none 0 0) v3 k a 0).eraseIdx 1) v1 (appTab 12 13 14 15 (.int .i64 (errT by_ (28 + a) (jitT by_))) (.int .i64 (runT by_ a)) 3 [.int .i64 (runT by_ a)] 1 (a + 1) (intCs (runL by_ a) ++ [.int .i64 (runT by_ a)])))
        (teG A V.heap.size D by_ ws pp v0 v1 (.slice none 0 0) v3 (begT by_) k a 0 1 v1)
        (FrInv A V.heap.size (teB by_ pp v0 v1 (.slice none 0 0) (begT by_)) ((teR D by_ ws v0 v1 (.slice none 0 0) v3 k a 0).eraseIdx 1) ⟨3, 1, v1, a, intCs (runL by_ a)⟩ 15)
        (by kernel_rfl) (fun ν => by kernel_rfl) (by kernel_rfl) (by kernel_rfl) (by kernel_rfl) (by kernel_rfl) (fun _ _ h => h.1) (fun listed W i hi hU h => h.same (fun e => by subst e; simp at hU)) (FrInv.start hG1 hR1) ?_
      apply Exists.intro
      refine ⟨fun ν L hL => ?_, fun c oc hc hU ν listed W hsz hInv hun hΦ => ?_, fun ν listed W hInv hall hΦ => ?_⟩
      · simp only [modU, cOp, List.mapIdx_cons, List.mapIdx_nil, Nat.zero_add, Nat.reduceAdd, Nat.reduceBEq, Bool.or_false, Bool.false_or, Bool.or_true, Bool.true_or, Bool.or_self, Bool.false_eq_true, if_false, if_true, List.take_succ_cons, List.take_zero]
        repeat (go_big_quiet_step (fail))
        exact wpQuiet_nil hL
      · simp at hU
        rcases hU with ((rfl | rfl) | rfl) | rfl
        · simp only [List.getElem?_cons_succ, List.getElem?_cons_zero, Option.some.injEq] at hc
          subst hc
          refine .inl (gives_valC rfl rfl rfl (enters_of Tryz.func28 (by kernel_rfl) rfl) rfl ?_)
          refine (l04_err_any by_ _ (28 + a) _ (jitT by_) _ W (HBY.out.mono (hwA.trans hInv.1.fr.ext)) HBB.out (by omega) (by omega) ⟨bj.1, by omega⟩ (hInv.1.fr.ext.cell y0)).mono ?_
          rintro e W' ⟨rfl, hE⟩
          exact ⟨_, rfl, hInv.exts (by decide) hE, FrPhi.mkVal rfl, fun _ _ _ _ h => h.exts hE⟩
        · simp only [List.getElem?_cons_succ, List.getElem?_cons_zero, Option.some.injEq] at hc
          subst hc
          have h12 := (hΦ 12 rfl ⟨⟨12, .data⟩, by simp, rfl, rfl⟩).getVal rfl
          refine gives_sum (a := basT by_ + dT by_ a + biaT by_) (b := errT by_ (28 + a) (jitT by_)) rfl rfl h12 ?_
          rw [HS4.out]
          exact ⟨hInv.same (by decide), FrPhi.mkVal rfl, fun _ _ _ _ h => h⟩
        · simp only [List.getElem?_cons_succ, List.getElem?_cons_zero, Option.some.injEq] at hc
          subst hc
          have h13 := (hΦ 13 rfl ⟨⟨13, .data⟩, by simp, rfl, rfl⟩).getVal rfl
          exact gives_ints (a := runT by_ a) rfl h13 ⟨hInv.exts (by decide) ((World.Exts.refl W).alloc _), FrInv.litPhi (r := ⟨3, 1, v1, a, intCs (runL by_ a)⟩) hInv.1 rfl, fun _ _ _ _ h => h.exts ((World.Exts.refl W).alloc _)⟩
        · simp only [List.getElem?_cons_succ, List.getElem?_cons_zero, Option.some.injEq] at hc
          subst hc
          obtain ⟨nb, hν, hlay, hnb⟩ := (hΦ 14 rfl ⟨⟨14, .data⟩, by simp, rfl, rfl⟩).getLit rfl
          refine gives_append (.tmp 198) (.tmp 211) elem_int rfl rfl (hInv.2 hun) [.int .i64 (runT by_ a)] nb hν (fun j u hj => LaysAs.cell hlay j u hj) rfl (fun u hu => by simp at hu; subst hu; rfl) (by show a ≤ _; omega) (by decide) hInv.1.fr.sz ?_
          intro v' w' hown happ
          exact hInv.done hun hown happ (by rw [hsz]; decide) (by decide) (by decide) (by decide)
      simp only [List.drop_succ_cons, List.drop_zero]
      obtain ⟨h15, hap15⟩ := (hΦ 15 (by decide) rfl).getApp rfl
      obtain ⟨qv, cv, ev⟩ := owns_len h15
      have hj1 := FrG.join (rs := teR D by_ ws v0 v1 (.slice none 0 0) v3 k a 0) 1 (show 1 < 4 by decide) hInv.1 h15 hap15
      have hpush := hj1.store 0 4 rfl (ν 15)
      have s0 := LaysAs.cell (hInv.1.fr.box 0 rfl) 4 _ rfl
      have f0 : W.frozen? ⟨pp, 4, none⟩ = false := laysAs_frozen (hInv.1.fr.box 0 rfl)
      have nl := Lays.of_cell s0
      generalize ν 15 = vn at *
      subst ev
      have hp2 : FrAt A (W.setCell ⟨pp, 4, none⟩ (.slice qv (a + 1) cv)) V.heap.size (teB by_ pp v0 (.slice qv (a + 1) cv) (.slice none 0 0) (begT by_)) [⟨63, 2, v0, k, (ldT D by_ ws k).flatMap loadEnc⟩, ⟨3, 1, .slice qv (a + 1) cv, a + 1, intCs (runL by_ (a + 1))⟩, ⟨3, 1, .slice none 0 0, 0, intCs (strL by_ 0)⟩, ⟨3, 1, v3, a, intCs (warmL by_ a)⟩] := by
        rw [runL_succ, intCs_snoc]
        exact hpush
      have HPU := Lib.hid hp2
      clear hp2
      clear hInv hΦ hall h15 hap15 hj1 hpush kp3 kp4 hG1 hR1 hF1 s1 s2 s3 HS4 be bb bi bj
      go_upto_region 30 with (fail)
      generalize hW2 : World.setCell W ⟨pp, 4, none⟩ _ = W2
      rw [hW2] at HPU
      clear s0 f0 nl hW2
      have hown := HPU.out.row 3 rfl
      have hw2 := HPU.out.sz
      have HOWN := Lib.hid hown
      clear hown
      go_wp2_with (at_builtin; refine wpList_append1W (.tmp 214) (.tmp 216) elem_int rfl rfl rfl (ownsRow_exts HOWN.out exq) [.int .i64 (dT by_ a)] _ (by simp) rfl rfl ?h1 ?h2 ?h4 ?h3 ?_)
      case h1 => intro u hu; simp at hu; subst hu; rfl
      case h2 => omega
      case h4 => decide
      case h3 => exact hw2
      intro v' w' hown' happ
      have hF3 := HPU.out.appended 3 rfl hown' happ
      have hF4 : FrAt A w' V.heap.size (teB by_ pp v0 (.slice qv (a + 1) cv) (.slice none 0 0) (begT by_)) (teR D by_ ws v0 (.slice qv (a + 1) cv) (.slice none 0 0) v' k (a + 1) 0) := by
        unfold teR
        rw [warmL_succ, intCs_snoc]
        exact hF3
      have HF4 := Lib.hid hF4
      clear hF4
      clear hF3 hown' happ HOWN HPU hw2
      have hm3 := HF4.out.ext.cell m3
      have nm3 := Lays.of_cell hm3
      cases cq
      all_goals
        go_wp2_with fail
        go_roundw
        case rel => exact ⟨a + 1, _, _, _, by omega, by go_num, rfl, rfl, Lib.hid (by rw [coolT_succ, HCB.out]; rfl), HF4⟩
        case measure => simp [intOf]; omega
    have ha4 : a ≤ 4 := by omega
    go_upto_region 33 with (fail)
    rename_i i9_5_1 i9_5_2 i9_5_3 i9_5_4 i9_5_5 i9_5_6 i9_5_7 i9_5_8 i9_5_9
    revert ts n ws by_ w q0 cp0 qw cw qb cb HB HWS HWB HBY HBB HCD hn8 HRDY h0 hb0 HN HNE HBAY HRT i9_1_1 ts' qS cS qT cT A hwA a0 y0 m0 m1 m2 m3 m4 m5 m6 l1 l2 l3 hnl hnu D H2 HBA HTA HDB HDT HDL m11 r8 r9 r10 r11 pp hpp i9_2_1 V hEV HFS i9_5_1 u8 u13 u14 u15 u16 u17 u87 u88 u89 u90 u91 u92 u93 u94 u95 u96 u97 u98 u99 u100 u101 u102 u103 u104 u105 u106 u107 u108 u109 u110 u111 u112 u113 u114 u115 u116 u117 u118 u119 u120 u121 u122 u123 u124 u125 u126 u127 u128 u129 u130 u131 u132 u133 u134 u135 u136 u137 u138 u139 u140 u141 u142 u143 u144 u145 u146 u147 u148 u149 u150 u151 u152 u153 u154 u155 u156 u157 u158 u159 u160 u161 u162 u163 k v0 hk hk6 i9_3_1 i9_3_2 i9_3_3 m18 m19 r18 r19 X W1 m20 X1 X2 W2 i9_4_1 X3 W3 HF3 hnr wr u24 u25 u190 u191 u192 u193 u194 u195 u196 u197 u198 u199 u200 u201 u202 u203 u204 u205 u206 u207 u208 u209 u210 u211 u212 u213 u214 u215 u216 u217 u218 u219 u220 u221 u222 u223 u224 u225 a v1 v3 cq ha HCB HFR hge ha4 i9_5_2 i9_5_3 i9_5_4 i9_5_5 i9_5_6 i9_5_7 i9_5_8 i9_5_9
    exact HG.out
end Go.Proofs.YtfjkiemjmnnbkaaGreatDoor
