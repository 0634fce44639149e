/-
  Several texts in one: see the heads of its parts.
-/
import Derived.Test.YtfjkiemjmnnbkaaGreatDoorLTeP

/-
  The law ScaleTrue: its walk.
-/
namespace Go.Proofs.YtfjkiemjmnnbkaaGreatDoor
open Go.RowKit Kr
set_option linter.unusedSimpArgs false

set_option maxRecDepth 100000 in
set_option maxHeartbeats 8000000 in
noncomputable def l04te_any_c6 : { G : Prop // G → l04te_any_c5.val } := by
  apply Subtype.mk
  case property =>
  intro hG
  have HG := Lib.hid hG
  clear hG
  intro ts n ws by_ w q0 cp0 qw cw qb cb HB HWS HWB HBY HBB HCD hn8 HRDY h0 hb0 HN HNE HBAY HRT i9_1_1 ts' qS cS qT cT A hwA a0 y0 m0 m1 m2 m3 m4 m5 m6 l1 l2 l3 hnl hnu D H2 HBA HTA HDB HDT HDL m11 r8 r9 r10 r11 pp hpp i9_2_1 V hEV HFS i9_5_1 u8 u13 u14 u15 u16 u17 u87 u88 u89 u90 u91 u92 u93 u94 u95 u96 u97 u98 u99 u100 u101 u102 u103 u104 u105 u106 u107 u108 u109 u110 u111 u112 u113 u114 u115 u116 u117 u118 u119 u120 u121 u122 u123 u124 u125 u126 u127 u128 u129 u130 u131 u132 u133 u134 u135 u136 u137 u138 u139 u140 u141 u142 u143 u144 u145 u146 u147 u148 u149 u150 u151 u152 u153 u154 u155 u156 u157 u158 u159 u160 u161 u162 u163 k v0 hk hk6 i9_3_1 i9_3_2 i9_3_3 m18 m19 r18 r19 X W1 m20 X1 X2 W2 i9_4_1 X3 W3 HF3 hnr wr u24 u25 u190 u191 u192 u193 u194 u195 u196 u197 u198 u199 u200 u201 u202 u203 u204 u205 u206 u207 u208 u209 u210 u211 u212 u213 u214 u215 u216 u217 u218 u219 u220 u221 u222 u223 u224 u225 a v1 v3 cq ha HCB HFR hge ha4 i9_5_2 i9_5_3 i9_5_4 i9_5_5 i9_5_6 i9_5_7 i9_5_8 i9_5_9
  clear hge ha hnr
  have ch33 := chooseL_bd HBB.out 33
  have hE2 := HFR.out.ext
  have hEw := hwA.trans hE2
  have y1 := hE2.cell y0
  have ny1 := Lays.of_cell y1
  have e33 : (chooseL by_ 33).tmod 5 = (nsT by_ : Int) := by rw [Int.tmod_eq_emod_of_nonneg ch33.1]; exact nsT_int
  clear ch33
  go_wp2_with (go_at_call 25; refine (l04_choose_at by_ _ 33 _ _ (HBY.out.mono (exf hEw)) HBB.out (by omega) rfl).mono ?_; rintro e w' ⟨rfl, X3, rfl⟩)
  obtain ⟨W3, hW3⟩ : ∃ W, World.ext wr X3 = W := ⟨_, rfl⟩
  have hF3 := HFR.out.exts (W' := W3) (by rw [← hW3]; exact ⟨X3, rfl⟩)
  rw [hW3]
  clear hW3 y1 ny1 e33 hE2 hEw HFR
  have HF3 := Lib.hid hF3
  clear hF3
  have hns := nsT_bd (by_ := by_)
  go_loopw [229] (fun i wr => ∃ (b : Nat) (v2 : Value), b ≤ nsT by_ ∧ i = .int .i64 b ∧ Hid (FrAt A wr V.heap.size (teB by_ pp v0 v1 v2 (begT by_)) (teR D by_ ws v0 v1 v2 v3 k a b))) (fun i _ => nsT by_ - (intOf i).toNat)
  case atStart => exact ⟨0, _, Nat.zero_le _, rfl, HF3⟩
  case round =>
    obtain ⟨b, v2, hb, rfl, HFR⟩ := hrel
    rcases Nat.lt_or_ge b (nsT by_) with hlt | hge
    ·
      go_upto_region 36 with (fail)
      have hF1 := HFR.out
      have bh := harT_bd (by_ := by_)
      have bj := sprT_bd (by_ := by_)
      have be := errT_bd (by_ := by_) (34 + b) bj.1
      have s3 : IntKind.i64.wrap (34 + (b : Int)) = 34 + (b : Int) := IntWalk.i64_in _ (by omega)
      have s4 : IntKind.i64.wrap (harT by_ + errT by_ (34 + b) (sprT by_)) = strT by_ b := IntWalk.i64_in _ (by omega)
      have HS4 := Lib.hid s4
      clear s4
      obtain ⟨hG1, hR1⟩ := hF1.split 2 rfl
      haveI : Nonempty (GW (teG A V.heap.size D by_ ws pp v0 v1 v2 v3 (begT by_) k a b 2 v2)) := ⟨⟨wr, hG1⟩⟩
      have kp5 := fun (Y : GW (teG A V.heap.size D by_ ws pp v0 v1 v2 v3 (begT by_) k a b 2 v2)) => teG_cell Y 5 _ rfl
      have kp6 := fun (Y : GW (teG A V.heap.size D by_ ws pp v0 v1 v2 v3 (begT by_) k a b 2 v2)) => teG_cell Y 6 _ rfl
      refine wp_region_inv 13 (fun i => i == 8 || i == 9 || i == 10 || i == 11) (FrPhi V.heap.size ((teR D by_ ws v0 v1 v2 v3 k a b).eraseIdx 2) v2 (appTab 8 9 10 11 (.int .i64 (errT by_ (34 + b) (sprT by_))) (.int .i64 (strT by_ b)) 3 [.int .i64 (strT by_ b)] 1 (b + 1) (intCs (strL by_ b) ++ [.int .i64 (strT by_ b)])))
        (teG A V.heap.size D by_ ws pp v0 v1 v2 v3 (begT by_) k a b 2 v2)
        (FrInv A V.heap.size (teB by_ pp v0 v1 v2 (begT by_)) ((teR D by_ ws v0 v1 v2 v3 k a b).eraseIdx 2) ⟨3, 1, v2, b, intCs (strL by_ b)⟩ 11)
        (by kernel_rfl) (fun ν => by kernel_rfl) (by kernel_rfl) (by kernel_rfl) (by kernel_rfl) (by kernel_rfl) (fun _ _ h => h.1) (fun listed W i hi hU h => h.same (fun e => by subst e; simp at hU)) (FrInv.start hG1 hR1) ?_
      apply Exists.intro
      refine ⟨fun ν L hL => ?_, fun c oc hc hU ν listed W hsz hInv hun hΦ => ?_, fun ν listed W hInv hall hΦ => ?_⟩
      · simp only [modU, cOp, List.mapIdx_cons, List.mapIdx_nil, Nat.zero_add, Nat.reduceAdd, Nat.reduceBEq, Bool.or_false, Bool.false_or, Bool.or_true, Bool.true_or, Bool.or_self, Bool.false_eq_true, if_false, if_true, List.take_succ_cons, List.take_zero]
        repeat (go_big_quiet_step (fail))
        exact wpQuiet_nil hL
      · simp at hU
        rcases hU with ((rfl | rfl) | rfl) | rfl
        · simp only [List.getElem?_cons_succ, List.getElem?_cons_zero, Option.some.injEq] at hc
          subst hc
          refine .inl (gives_valC rfl rfl rfl (enters_of Tryz.func28 (by kernel_rfl) rfl) rfl ?_)
          refine (l04_err_any by_ _ (34 + b) _ (sprT by_) _ W (HBY.out.mono (hwA.trans hInv.1.fr.ext)) HBB.out (by omega) (by omega) ⟨bj.1, by omega⟩ (hInv.1.fr.ext.cell y0)).mono ?_
          rintro e W' ⟨rfl, hE⟩
          exact ⟨_, rfl, hInv.exts (by decide) hE, FrPhi.mkVal rfl, fun _ _ _ _ h => h.exts hE⟩
        · simp only [List.getElem?_cons_succ, List.getElem?_cons_zero, Option.some.injEq] at hc
          subst hc
          have h8 := (hΦ 8 rfl ⟨⟨8, .data⟩, by simp, rfl, rfl⟩).getVal rfl
          refine gives_sum (a := harT by_) (b := errT by_ (34 + b) (sprT by_)) rfl rfl h8 ?_
          rw [HS4.out]
          exact ⟨hInv.same (by decide), FrPhi.mkVal rfl, fun _ _ _ _ h => h⟩
        · simp only [List.getElem?_cons_succ, List.getElem?_cons_zero, Option.some.injEq] at hc
          subst hc
          have h9 := (hΦ 9 rfl ⟨⟨9, .data⟩, by simp, rfl, rfl⟩).getVal rfl
          exact gives_ints (a := strT by_ b) rfl h9 ⟨hInv.exts (by decide) ((World.Exts.refl W).alloc _), FrInv.litPhi (r := ⟨3, 1, v2, b, intCs (strL by_ b)⟩) hInv.1 rfl, fun _ _ _ _ h => h.exts ((World.Exts.refl W).alloc _)⟩
        · simp only [List.getElem?_cons_succ, List.getElem?_cons_zero, Option.some.injEq] at hc
          subst hc
          obtain ⟨nb, hν, hlay, hnb⟩ := (hΦ 10 rfl ⟨⟨10, .data⟩, by simp, rfl, rfl⟩).getLit rfl
          refine gives_append (.tmp 233) (.tmp 242) elem_int rfl rfl (hInv.2 hun) [.int .i64 (strT by_ b)] nb hν (fun j u hj => LaysAs.cell hlay j u hj) rfl (fun u hu => by simp at hu; subst hu; rfl) (by show b ≤ _; omega) (by decide) hInv.1.fr.sz ?_
          intro v' w' hown happ
          exact hInv.done hun hown happ (by rw [hsz]; decide) (by decide) (by decide) (by decide)
      simp only [List.drop_succ_cons, List.drop_zero]
      obtain ⟨h11, hap11⟩ := (hΦ 11 (by decide) rfl).getApp rfl
      obtain ⟨qv, cv, ev⟩ := owns_len h11
      have hj1 := FrG.join (rs := teR D by_ ws v0 v1 v2 v3 k a b) 2 (show 2 < 4 by decide) hInv.1 h11 hap11
      have hpush := hj1.store 0 5 rfl (ν 11)
      have s0 := LaysAs.cell (hInv.1.fr.box 0 rfl) 5 _ rfl
      have f0 : W.frozen? ⟨pp, 5, none⟩ = false := laysAs_frozen (hInv.1.fr.box 0 rfl)
      have nl := Lays.of_cell s0
      generalize ν 11 = vn at *
      subst ev
      have hp2 : FrAt A (W.setCell ⟨pp, 5, none⟩ (.slice qv (b + 1) cv)) V.heap.size (teB by_ pp v0 v1 (.slice qv (b + 1) cv) (begT by_)) (teR D by_ ws v0 v1 (.slice qv (b + 1) cv) v3 k a (b + 1)) := by
        unfold teR
        rw [strL_succ, intCs_snoc]
        exact hpush
      have HPU := Lib.hid hp2
      clear hp2
      clear hInv hΦ hall h11 hap11 hj1 hpush kp5 kp6 hG1 hR1 hF1 s3 HS4 be bh bj
      go_upto_region 37 with (fail)
      generalize hW2 : World.setCell W ⟨pp, 5, none⟩ _ = W2
      rw [hW2] at HPU
      clear s0 f0 nl hW2
      go_wp2_with fail
      go_roundw
      case rel => exact ⟨b + 1, _, by omega, by go_num, HPU⟩
      case measure => simp [intOf]; omega
    have hb4 : b ≤ 4 := by omega
    go_upto_region 38 with (fail)
    rename_i i9_6_1 i9_6_2 i9_6_3 i9_6_4 i9_6_5 i9_6_6 i9_6_7 i9_6_8 i9_6_9 i9_6_10
    revert ts n ws by_ w q0 cp0 qw cw qb cb HB HWS HWB HBY HBB HCD hn8 HRDY h0 hb0 HN HNE HBAY HRT i9_1_1 ts' qS cS qT cT A hwA a0 y0 m0 m1 m2 m3 m4 m5 m6 l1 l2 l3 hnl hnu D H2 HBA HTA HDB HDT HDL m11 r8 r9 r10 r11 pp hpp i9_2_1 V hEV HFS i9_5_1 u8 u13 u14 u15 u16 u17 u87 u88 u89 u90 u91 u92 u93 u94 u95 u96 u97 u98 u99 u100 u101 u102 u103 u104 u105 u106 u107 u108 u109 u110 u111 u112 u113 u114 u115 u116 u117 u118 u119 u120 u121 u122 u123 u124 u125 u126 u127 u128 u129 u130 u131 u132 u133 u134 u135 u136 u137 u138 u139 u140 u141 u142 u143 u144 u145 u146 u147 u148 u149 u150 u151 u152 u153 u154 u155 u156 u157 u158 u159 u160 u161 u162 u163 k v0 hk hk6 i9_3_1 i9_3_2 i9_3_3 m18 m19 r18 r19 X W1 m20 X1 X2 W2 i9_4_1 i9_6_1 i9_6_2 i9_6_3 i9_6_4 u24 u25 u190 u191 u192 u193 u194 u195 u196 u197 u198 u199 u200 u201 u202 u203 u204 u205 u206 u207 u208 u209 u210 u211 u212 u213 u214 u215 u216 u217 u218 u219 u220 u221 u222 u223 u224 u225 a v1 v3 cq HCB ha4 i9_5_2 i9_5_3 i9_5_4 i9_5_5 i9_5_6 X3 W3 HF3 hns wr u26 u230 u231 u232 u233 u234 u235 u236 u237 u238 u239 u240 u241 u242 u243 u244 u245 b v2 hb HFR hge hb4 i9_6_5 i9_6_6 i9_6_7 i9_6_8 i9_6_9 i9_6_10
    exact HG.out
end Go.Proofs.YtfjkiemjmnnbkaaGreatDoor

/-
  The law ScaleTrue: its walk.
-/
namespace Go.Proofs.YtfjkiemjmnnbkaaGreatDoor
open Go.RowKit Kr
set_option linter.unusedSimpArgs false

set_option maxRecDepth 100000 in
set_option maxHeartbeats 8000000 in
noncomputable def l04te_any_c7 : { G : Prop // G → l04te_any_c6.val } := by
  apply Subtype.mk
  case property =>
  intro hG
  have HG := Lib.hid hG
  clear hG
  intro ts n ws by_ w q0 cp0 qw cw qb cb HB HWS HWB HBY HBB HCD hn8 HRDY h0 hb0 HN HNE HBAY HRT i9_1_1 ts' qS cS qT cT A hwA a0 y0 m0 m1 m2 m3 m4 m5 m6 l1 l2 l3 hnl hnu D H2 HBA HTA HDB HDT HDL m11 r8 r9 r10 r11 pp hpp i9_2_1 V hEV HFS i9_5_1 u8 u13 u14 u15 u16 u17 u87 u88 u89 u90 u91 u92 u93 u94 u95 u96 u97 u98 u99 u100 u101 u102 u103 u104 u105 u106 u107 u108 u109 u110 u111 u112 u113 u114 u115 u116 u117 u118 u119 u120 u121 u122 u123 u124 u125 u126 u127 u128 u129 u130 u131 u132 u133 u134 u135 u136 u137 u138 u139 u140 u141 u142 u143 u144 u145 u146 u147 u148 u149 u150 u151 u152 u153 u154 u155 u156 u157 u158 u159 u160 u161 u162 u163 k v0 hk hk6 i9_3_1 i9_3_2 i9_3_3 m18 m19 r18 r19 X W1 m20 X1 X2 W2 i9_4_1 i9_6_1 i9_6_2 i9_6_3 i9_6_4 u24 u25 u190 u191 u192 u193 u194 u195 u196 u197 u198 u199 u200 u201 u202 u203 u204 u205 u206 u207 u208 u209 u210 u211 u212 u213 u214 u215 u216 u217 u218 u219 u220 u221 u222 u223 u224 u225 a v1 v3 cq HCB ha4 i9_5_2 i9_5_3 i9_5_4 i9_5_5 i9_5_6 X3 W3 HF3 hns wr u26 u230 u231 u232 u233 u234 u235 u236 u237 u238 u239 u240 u241 u242 u243 u244 u245 b v2 hb HFR hge hb4 i9_6_5 i9_6_6 i9_6_7 i9_6_8 i9_6_9 i9_6_10
  clear hge hb hns
  have hD0 : 0 < D.length := by rw [HDL.out]; exact hnl
  have ha8 : a ≤ 8 := by omega
  have hb8 : b ≤ 8 := by omega
  have hI := HFR.out
  have hg := te_gear HDB.out hD0 ha8 hb8 hI
  have htl : has (totals (drawB D) (gT D by_ ws k a b)) (addT by_ + sumW ws k) := (te_check (ws := ws) (by_ := by_) HDB.out HDT.out hD0 hk6 ha8 hb8).2
  have hck := (te_check (ws := ws) (by_ := by_) HDB.out HDT.out hD0 hk6 ha8 hb8).1
  obtain ⟨eh, hh1, hh2⟩ := te_hard (D := D) (by_ := by_) (ws := ws) (m := k) ha8 hb8
  have ew := te_warm (D := D) (by_ := by_) (ws := ws) (m := k) ha8 hb8
  obtain ⟨P, Wh, ej, el, hpa, hwh, hw0⟩ := te_all (ws := ws) (by_ := by_) HDB.out HDT.out hD0 hk6 ha8 hb8 HN.out
  have hne : totals (drawB D) (gT D by_ ws k a b) ≠ [] := fun e => by rw [e] at htl; exact has_nil _ htl
  have et : totalsR (drawB D) (gT D by_ ws k a b) = (totals (drawB D) (gT D by_ ws k a b), 0) := by unfold totalsR; rw [if_pos hck, if_neg (by simpa using hne)]
  have hT : ts'.map Prod.fst = drawB D := H2.out
  have hbw := HBA.out.mono hI.ext
  have hcw := HCD.out.mono (hwA.trans hI.ext)
  have A1 := fun (W : World) (hE : wr.Exts W) => scale_Totals_any ts' _ (gT D by_ ws k a b) v0 v1 v2 W (hbw.mono hE) (hg.mono hE)
  have A2 := fun (W : World) (hE : wr.Exts W) => scale_Warm_any (gT D by_ ws k a b) v0 v1 v2 W (hg.mono hE)
  have A3 := fun (W : World) (hE : wr.Exts W) => scale_Hard_any (gT D by_ ws k a b) v0 v1 v2 W (hg.mono hE)
  have A4 := fun (W : World) (hE : wr.Exts W) => scale_Judge_any ts' _ (gT D by_ ws k a b) v0 v1 v2 n W (hbw.mono hE) (hg.mono hE) (hcw.mono hE)
  simp only [hT, et] at A1
  simp only [ew] at A2
  simp only [eh] at A3
  simp only [hT, ej] at A4
  have hwl : ∀ (j : Nat), j < a → ∃ s : Span, ((List.range a).map fun i => warmAt (gT D by_ ws k a b) (runT by_ i))[j]? = some s ∧ s.lo ≤ dT by_ j ∧ dT by_ j ≤ s.hi := fun j hj => ⟨_, by simp [hj]; rfl, te_warm1 (D := D) (by_ := by_) (ws := ws) j⟩
  have hwn : ((List.range a).map fun i => warmAt (gT D by_ ws k a b) (runT by_ i)).length = a := by simp
  generalize hardOf (gT D by_ ws k a b) = HO at *
  generalize ((List.range a).map fun i => warmAt (gT D by_ ws k a b) (runT by_ i)) = WL at *
  generalize totals (drawB D) (gT D by_ ws k a b) = TL at *
  dsimp only [gT] at A1 A2 A3 A4
  obtain ⟨x0, x1, x2, x3, x4, rfl⟩ : ∃ x0 x1 x2 x3 x4, P = [x0, x1, x2, x3, x4] := by
    rcases P with _ | ⟨x0, _ | ⟨x1, _ | ⟨x2, _ | ⟨x3, _ | ⟨x4, _ | _⟩⟩⟩⟩⟩ <;> simp at el
    exact ⟨_, _, _, _, _, rfl⟩
  have hin1 : inL TL (addT by_ + sumW ws k) = true := inL_iff.2 htl
  have hin2 : inL [HO] (harT by_) = true := by simp [inL]; exact ⟨hh1, hh2⟩
  obtain ⟨q3, c3, e3⟩ := owns_len (hI.row 3 rfl)
  have hr3 : IsRow (fun x : Int => [.int .i64 x]) 1 wr v3 (warmL by_ a) := IsRow.of_owns (by rw [warmL_len]; exact hI.row 3 rfl) (fun _ _ => rfl)
  have o := hI.box 0 rfl
  have p0 := LaysAs.cell o 0 _ rfl
  have p1 := LaysAs.cell o 1 _ rfl
  have p2 := LaysAs.cell o 2 _ rfl
  have p3 := LaysAs.cell o 3 _ rfl
  have p4 := LaysAs.cell o 4 _ rfl
  have p5 := LaysAs.cell o 5 _ rfl
  have p6 := LaysAs.cell o 6 _ rfl
  have p7 := LaysAs.cell o 7 _ rfl
  dsimp only at e3 p0 p1 p2 p3 p4 p5 p6 p7
  subst e3
  have HI9 := Lib.hid hI.ext
  have z0 := hI.ext.cell a0
  have r0 := hI.ext.cell m0
  have r1 := hI.ext.cell m1
  have r2 := hI.ext.cell m2
  have r3 := hI.ext.cell m3
  have r4 := hI.ext.cell m4
  have r5 := hI.ext.cell m5
  have r6 := hI.ext.cell m6
  have lp := Lays.of_cell p0
  have lq := Lays.of_cell z0
  have lr := Lays.of_cell r0
  clear el eh ew ej et hck hne hT hbw hcw hg hI o htl hh1 hh2
  have HR3 := Lib.hid hr3
  clear hr3
  have HA1 := Lib.hid A1
  clear A1
  have HA2 := Lib.hid A2
  clear A2
  have HA3 := Lib.hid A3
  clear A3
  have HA4 := Lib.hid A4
  clear A4
  have HWL := Lib.hid hwl
  clear hwl
  have HWN := Lib.hid hwn
  clear hwn
  have HPA := Lib.hid hpa
  clear hpa
  have HWH := Lib.hid hwh
  clear hwh
  have HIN1 := Lib.hid hin1
  clear hin1
  have HIN2 := Lib.hid hin2
  clear hin2
  clear HFR
  go_upto_region 41 with (first
    | (go_at_call 29; refine (HA1.out _ exq).mono ?_; rintro e w' ⟨vt, rfl, ht9, X1, rfl⟩; obtain ⟨qt, ct, rfl⟩ := ht9.len; have HT9 := Lib.hid ht9; clear ht9)
    | (go_at_call 30; refine (HA2.out _ exq).mono ?_; rintro e w' ⟨vw, rfl, hw9, X2, rfl⟩; obtain ⟨qw9, cw9, rfl⟩ := hw9.len; have HW9 := Lib.hid hw9; clear hw9; simp only [HWN.out])
    | (go_at_call 31; refine (HA3.out _ exq).mono ?_; rintro e w' ⟨rfl, X3, rfl⟩))
  generalize hV1 : World.ext _ X3 = V1
  have hEV : wr.Exts V1 := by rw [← hV1]; exact exq
  have hTV := HT9.out.mono (w' := V1) (by rw [← hV1]; exact exq)
  have hWV := HW9.out.mono (w' := V1) (by rw [← hV1]; exact exq)
  clear HT9 HW9 lp lq lr
  have y1 := hEV.cell p0
  have y2 := hEV.cell p1
  have y3 := hEV.cell p2
  have y4 := hEV.cell p3
  have y5 := hEV.cell p4
  have y6 := hEV.cell p5
  have y7 := hEV.cell p6
  have y8 := hEV.cell p7
  have t0 := hEV.cell z0
  have t1 := hEV.cell r0
  have t2 := hEV.cell r1
  have t3 := hEV.cell r2
  have t4 := hEV.cell r3
  have t5 := hEV.cell r4
  have t6 := hEV.cell r5
  have t7 := hEV.cell r6
  have lp := Lays.of_cell y1
  have lq := Lays.of_cell t0
  have lr := Lays.of_cell t1
  clear hV1 p0 p1 p2 p3 p4 p5 p6 p7 z0 r0 r1 r2 r3 r4 r5 r6
  have HTV := Lib.hid hTV
  clear hTV
  have HWV := Lib.hid hWV
  clear hWV
  rename_i i9_7_1 i9_7_2 i9_7_3 i9_7_4 i9_7_5 i9_7_6
  revert ts n ws by_ w q0 cp0 qw cw qb cb HB HWS HWB HBY HBB HCD hn8 HRDY h0 hb0 HN HNE HBAY HRT i9_1_1 ts' qS cS qT cT A hwA a0 y0 m0 m1 m2 m3 m4 m5 m6 l1 l2 l3 hnl hnu D H2 HBA HTA HDB HDT HDL m11 r8 r9 r10 r11 pp hpp i9_2_1 V i9_7_1 HFS i9_5_1 u8 u13 u14 u15 u16 u17 u87 u88 u89 u90 u91 u92 u93 u94 u95 u96 u97 u98 u99 u100 u101 u102 u103 u104 u105 u106 u107 u108 u109 u110 u111 u112 u113 u114 u115 u116 u117 u118 u119 u120 u121 u122 u123 u124 u125 u126 u127 u128 u129 u130 u131 u132 u133 u134 u135 u136 u137 u138 u139 u140 u141 u142 u143 u144 u145 u146 u147 u148 u149 u150 u151 u152 u153 u154 u155 u156 u157 u158 u159 u160 u161 u162 u163 k v0 hk hk6 i9_3_1 i9_3_2 i9_3_3 m18 m19 r18 r19 X W1 m20 i9_7_2 i9_7_3 W2 i9_4_1 i9_6_1 i9_6_2 i9_6_3 i9_6_4 u24 u25 u190 u191 u192 u193 u194 u195 u196 u197 u198 u199 u200 u201 u202 u203 u204 u205 u206 u207 u208 u209 u210 u211 u212 u213 u214 u215 u216 u217 u218 u219 u220 u221 u222 u223 u224 u225 a v1 cq HCB ha4 i9_5_3 i9_5_5 i9_5_6 i9_7_4 W3 wr u26 u230 u231 u232 u233 u234 u235 u236 u237 u238 u239 u240 u241 u242 u243 u244 u245 b v2 hb4 i9_6_6 i9_6_8 hD0 ha8 hb8 Wh hw0 HO WL TL x0 x1 x2 x3 x4 q3 c3 i9_5_2 i9_5_4 HF3 i9_6_5 i9_6_7 HI9 HR3 HA1 HA2 HA3 HA4 HWL HWN HPA HWH HIN1 HIN2 X1 qt ct X2 qw9 cw9 X3 i9_7_5 i9_7_6 V1 hEV y1 y2 y3 y4 y5 y6 y7 y8 t0 t1 t2 t3 t4 t5 t6 t7 lp lq lr HTV HWV
  exact HG.out
end Go.Proofs.YtfjkiemjmnnbkaaGreatDoor

/-
  The law ScaleTrue: its walk.
-/
namespace Go.Proofs.YtfjkiemjmnnbkaaGreatDoor
open Go.RowKit Kr
set_option linter.unusedSimpArgs false

set_option maxRecDepth 100000 in
set_option maxHeartbeats 8000000 in
noncomputable def l04te_any_c8 : { G : Prop // G → l04te_any_c7.val } := by
  apply Subtype.mk
  case property =>
  intro hG
  have HG := Lib.hid hG
  clear hG
  intro ts n ws by_ w q0 cp0 qw cw qb cb HB HWS HWB HBY HBB HCD hn8 HRDY h0 hb0 HN HNE HBAY HRT i9_1_1 ts' qS cS qT cT A hwA a0 y0 m0 m1 m2 m3 m4 m5 m6 l1 l2 l3 hnl hnu D H2 HBA HTA HDB HDT HDL m11 r8 r9 r10 r11 pp hpp i9_2_1 V i9_7_1 HFS i9_5_1 u8 u13 u14 u15 u16 u17 u87 u88 u89 u90 u91 u92 u93 u94 u95 u96 u97 u98 u99 u100 u101 u102 u103 u104 u105 u106 u107 u108 u109 u110 u111 u112 u113 u114 u115 u116 u117 u118 u119 u120 u121 u122 u123 u124 u125 u126 u127 u128 u129 u130 u131 u132 u133 u134 u135 u136 u137 u138 u139 u140 u141 u142 u143 u144 u145 u146 u147 u148 u149 u150 u151 u152 u153 u154 u155 u156 u157 u158 u159 u160 u161 u162 u163 k v0 hk hk6 i9_3_1 i9_3_2 i9_3_3 m18 m19 r18 r19 X W1 m20 i9_7_2 i9_7_3 W2 i9_4_1 i9_6_1 i9_6_2 i9_6_3 i9_6_4 u24 u25 u190 u191 u192 u193 u194 u195 u196 u197 u198 u199 u200 u201 u202 u203 u204 u205 u206 u207 u208 u209 u210 u211 u212 u213 u214 u215 u216 u217 u218 u219 u220 u221 u222 u223 u224 u225 a v1 cq HCB ha4 i9_5_3 i9_5_5 i9_5_6 i9_7_4 W3 wr u26 u230 u231 u232 u233 u234 u235 u236 u237 u238 u239 u240 u241 u242 u243 u244 u245 b v2 hb4 i9_6_6 i9_6_8 hD0 ha8 hb8 Wh hw0 HO WL TL x0 x1 x2 x3 x4 q3 c3 i9_5_2 i9_5_4 HF3 i9_6_5 i9_6_7 HI9 HR3 HA1 HA2 HA3 HA4 HWL HWN HPA HWH HIN1 HIN2 X1 qt ct X2 qw9 cw9 X3 i9_7_5 i9_7_6 V1 hEV y1 y2 y3 y4 y5 y6 y7 y8 t0 t1 t2 t3 t4 t5 t6 t7 lp lq lr HTV HWV
  have A5 := fun (W : World) (hE : V1.Exts W) => HA4.out W (hEV.trans hE)
  have HA5 := Lib.hid A5
  clear A5
  go_upto_region 42 with (go_at_call 32; refine (HA5.out _ exq).mono ?_; rintro e w' ⟨vj, rfl, hj9, X6, rfl⟩; obtain ⟨qj, cj, rfl⟩ := hj9.len; have HJJ := Lib.hid hj9; clear hj9; simp only [List.length_cons, List.length_nil, Nat.zero_add, Nat.reduceAdd])
  generalize hV2 : World.ext _ X6 = V2
  have hE2 : V1.Exts V2 := by rw [← hV2]; exact exq
  have hbx : LaysAs V2 V1.heap.size (.cells #[.int .i64 HO.lo, .int .i64 HO.hi] 42 (0, 0)) := by rw [← hV2]; exact LaysAs.exts (laysAs_size V1 _ rfl) exq
  have hTV := HTV.out.mono hE2
  have hWV := HWV.out.mono hE2
  have hr3 := HR3.out.mono (hEV.trans hE2)
  have hJV := HJJ.out.mono (w' := V2) (by rw [← hV2]; exact World.Exts.refl _)
  have s0 := LaysAs.cell hbx 0 _ rfl
  have s1 := LaysAs.cell hbx 1 _ rfl
  have ls := Lays.of_cell s0
  have p1 := hE2.cell y2
  have p7 := hE2.cell y8
  have r0 := hE2.cell t1
  have r1 := hE2.cell t2
  have r2 := hE2.cell t3
  have r3 := hE2.cell t4
  have r4 := hE2.cell t5
  have r5 := hE2.cell t6
  have r6 := hE2.cell t7
  have np := Lays.of_cell p1
  have nr := Lays.of_cell r0
  have HE2 := Lib.hid ((HI9.out.trans hEV).trans hE2)
  have C1 := fun (W : World) (hE : V2.Exts W) => l04_in_any TL (.slice qt TL.length ct) (addT by_ + sumW ws k) W (hTV.mono hE)
  simp only [HIN1.out] at C1
  clear hbx hV2 HTV HWV HR3 HJJ HA1 HA2 HA3 HA4 HA5 lp lq lr y1 y2 y3 y4 y5 y6 y7 y8 t0 t1 t2 t3 t4 t5 t6 t7 hTV hE2 hEV HI9
  have HC1 := Lib.hid C1
  clear C1
  obtain ⟨q3', b3, o3, c3', e, hm3, hp3, hc3⟩ := hr3.ex
  simp only [Value.slice.injEq] at e
  obtain ⟨rfl, -, rfl⟩ := e
  obtain ⟨qw9', bw9, ow9, cw9', e, hmw, hpw, hcw⟩ := hWV.ex
  rw [HWN.out] at hmw hpw
  simp only [Value.slice.injEq] at e
  obtain ⟨rfl, -, rfl⟩ := e
  rw [warmL_len] at hm3 hp3
  clear hr3 hWV
  have HC3 := Lib.hid hc3
  clear hc3
  have HCW := Lib.hid hcw
  clear hcw
  have HP3 := Lib.hid hp3
  clear hp3
  have HPW := Lib.hid hpw
  clear hpw
  have HJV := Lib.hid hJV
  clear hJV
  go_upto_region 44 with (go_at_call 33; (first | (with_reducible refine (HC1.out _ exq).mono ?_) | (refine (l04_in_any [HO] _ (harT by_) _ (row_span1 _ HO _ (by simp))).mono ?_; rw [HIN2.out])); rintro e w' ⟨rfl, X7, rfl⟩)
  clear HC1 HIN1 HIN2 s0 s1 ls
  go_wp2_with fail
  go_loopw [311] (fun i wr => ∃ j : Nat, j ≤ a ∧ i = .int .i64 j ∧ V2.Exts wr) (fun i _ => a - (intOf i).toNat)
  case atStart => exact ⟨0, Nat.zero_le _, rfl, exq⟩
  case round =>
    obtain ⟨j, hj, rfl, hE⟩ := hrel
    obtain ⟨X, rfl⟩ := hE
    rcases Nat.lt_or_ge j a with hlt | hge
    ·
      obtain ⟨rfl, hl3⟩ := HP3.out (by omega)
      obtain ⟨rfl, hlw⟩ := HPW.out (by omega)
      have k0 := HC3.out j _ (warmL_get hlt) 0 _ rfl
      simp only [Nat.mul_one, Nat.add_zero] at k0
      obtain ⟨x, hx, hx1, hx2⟩ := HWL.out j hlt
      have hrx : IsRow (fun t : Kr.Span => [.int .i64 t.lo, .int .i64 t.hi]) 2 V2 (.slice (some ⟨bw9, ow9 + j * 2, none⟩) 1 (cw9 - j)) [x] := row_part (enc := fun t : Kr.Span => [.int .i64 t.lo, .int .i64 t.hi]) (k := 2) hlw (HCW.out j x hx) (cw9 - j) (by omega)
      have hin3 : inL [x] (dT by_ j) = true := by simp [inL]; exact ⟨hx1, hx2⟩
      have HRX := Lib.hid hrx
      clear hrx
      have HIN3 := Lib.hid hin3
      clear hin3
      clear hx hx1 hx2
      go_wp2_with (go_at_call 33; refine (l04_in_any [x] _ (dT by_ j) _ (HRX.out.mono exq)).mono ?_; rw [HIN3.out]; rintro e w' ⟨rfl, X8, rfl⟩)
      go_roundw
      case rel => exact ⟨j + 1, by omega, by go_num, exq⟩
      case measure => simp [intOf]; omega
    go_upto_region 50 with (fail)
    have hd9 : decide (j < a) = false := by simp; omega
    rw [hd9]
    clear hd9
    clear hge hj HP3 HPW HC3 HCW hm3 hmw
    obtain ⟨sg, hsg⟩ : ∃ s, staT by_ = s := ⟨_, rfl⟩
    rw [hsg] at p7
    obtain ⟨V4, hV4⟩ : ∃ W, World.ext V2 X = W := ⟨_, rfl⟩
    have hE4 : V2.Exts V4 := by rw [← hV4]; exact ⟨X, rfl⟩
    rw [hV4]
    have d1 := hE4.cell p1
    have d7 := hE4.cell p7
    have v0' := hE4.cell r0
    have v1' := hE4.cell r1
    have v2' := hE4.cell r2
    have v3' := hE4.cell r3
    have v4' := hE4.cell r4
    have v5' := hE4.cell r5
    have v6' := hE4.cell r6
    have md := Lays.of_cell d1
    have mv := Lays.of_cell v0'
    have hJ4 := HJV.out.mono hE4
    have HE4 := Lib.hid (HE2.out.trans hE4)
    clear hV4 p1 p7 r0 r1 r2 r3 r4 r5 r6 np nr HJV HE2 hE4
    have HJ4 := Lib.hid hJ4
    clear hJ4
    have HSG := Lib.hid hsg
    clear hsg
    rename_i i9_8_1 i9_8_2 i9_8_3 i9_8_4 i9_8_5 i9_8_6 i9_8_7 i9_8_8 i9_8_9 i9_8_10
    revert ts n ws by_ w q0 cp0 qw cw qb cb HB HWS HWB HBY HBB HCD hn8 HRDY h0 hb0 HN HNE HBAY HRT i9_1_1 ts' qS cS qT cT A hwA a0 y0 m0 m1 m2 m3 m4 m5 m6 l1 l2 l3 hnl hnu D H2 HBA HTA HDB HDT HDL m11 r8 r9 r10 r11 pp hpp i9_2_1 V i9_7_1 HFS i9_5_1 i9_8_1 u13 u14 u15 u16 u17 u87 u88 u89 u90 u91 u92 u93 u94 u95 u96 u97 u98 u99 u100 u101 u102 u103 u104 u105 u106 u107 u108 u109 u110 u111 u112 u113 u114 u115 u116 u117 u118 u119 u120 u121 u122 u123 u124 u125 u126 u127 u128 u129 u130 u131 u132 u133 u134 u135 u136 u137 u138 u139 u140 u141 u142 u143 u144 u145 u146 u147 u148 u149 u150 u151 u152 u153 u154 u155 u156 u157 u158 u159 u160 u161 u162 u163 k v0 hk hk6 i9_3_1 i9_3_2 i9_3_3 m18 m19 r18 r19 i9_8_2 W1 m20 i9_7_2 i9_7_3 W2 i9_4_1 i9_6_1 i9_6_2 i9_6_3 i9_6_4 u24 u25 u190 u191 u192 u193 u194 u195 u196 u197 u198 u199 u200 u201 u202 u203 u204 u205 u206 u207 u208 u209 u210 u211 u212 u213 u214 u215 u216 u217 u218 u219 u220 u221 u222 u223 u224 u225 a v1 cq HCB ha4 i9_5_3 i9_5_5 i9_5_6 i9_7_4 W3 wr u26 u230 u231 u232 u233 u234 u235 u236 u237 u238 u239 u240 u241 u242 u243 u244 u245 b v2 hb4 i9_6_6 i9_6_8 hD0 ha8 hb8 Wh hw0 HO WL TL x0 x1 x2 x3 x4 q3 c3 i9_5_2 i9_5_4 HF3 i9_6_5 i9_6_7 HWL HWN HPA HWH X1 qt ct X2 qw9 cw9 X3 V1 X6 qj cj V2 b3 o3 bw9 ow9 i9_8_3 X7 i9_8_4 u8 u36 u37 u312 u313 u314 u315 u316 u317 u318 u319 u320 u321 u322 u323 u324 j X i9_8_5 i9_8_6 i9_8_7 i9_8_8 i9_8_9 i9_8_10 sg V4 d1 d7 v0' v1' v2' v3' v4' v5' v6' md mv HE4 HJ4 HSG
    exact HG.out
end Go.Proofs.YtfjkiemjmnnbkaaGreatDoor

/-
  The law ScaleTrue: its walk.
-/
namespace Go.Proofs.YtfjkiemjmnnbkaaGreatDoor
open Go.RowKit Kr
set_option linter.unusedSimpArgs false

set_option maxRecDepth 100000 in
set_option maxHeartbeats 1500000 in
theorem l04te_any_last : l04te_any_c8.val := by
  intro ts n ws by_ w q0 cp0 qw cw qb cb HB HWS HWB HBY HBB HCD hn8 HRDY h0 hb0 HN HNE HBAY HRT i9_1_1 ts' qS cS qT cT A hwA a0 y0 m0 m1 m2 m3 m4 m5 m6 l1 l2 l3 hnl hnu D H2 HBA HTA HDB HDT HDL m11 r8 r9 r10 r11 pp hpp i9_2_1 V i9_7_1 HFS i9_5_1 i9_8_1 u13 u14 u15 u16 u17 u87 u88 u89 u90 u91 u92 u93 u94 u95 u96 u97 u98 u99 u100 u101 u102 u103 u104 u105 u106 u107 u108 u109 u110 u111 u112 u113 u114 u115 u116 u117 u118 u119 u120 u121 u122 u123 u124 u125 u126 u127 u128 u129 u130 u131 u132 u133 u134 u135 u136 u137 u138 u139 u140 u141 u142 u143 u144 u145 u146 u147 u148 u149 u150 u151 u152 u153 u154 u155 u156 u157 u158 u159 u160 u161 u162 u163 k v0 hk hk6 i9_3_1 i9_3_2 i9_3_3 m18 m19 r18 r19 i9_8_2 W1 m20 i9_7_2 i9_7_3 W2 i9_4_1 i9_6_1 i9_6_2 i9_6_3 i9_6_4 u24 u25 u190 u191 u192 u193 u194 u195 u196 u197 u198 u199 u200 u201 u202 u203 u204 u205 u206 u207 u208 u209 u210 u211 u212 u213 u214 u215 u216 u217 u218 u219 u220 u221 u222 u223 u224 u225 a v1 cq HCB ha4 i9_5_3 i9_5_5 i9_5_6 i9_7_4 W3 wr u26 u230 u231 u232 u233 u234 u235 u236 u237 u238 u239 u240 u241 u242 u243 u244 u245 b v2 hb4 i9_6_6 i9_6_8 hD0 ha8 hb8 Wh hw0 HO WL TL x0 x1 x2 x3 x4 q3 c3 i9_5_2 i9_5_4 HF3 i9_6_5 i9_6_7 HWL HWN HPA HWH X1 qt ct X2 qw9 cw9 X3 V1 X6 qj cj V2 b3 o3 bw9 ow9 i9_8_3 X7 i9_8_4 u8 u36 u37 u312 u313 u314 u315 u316 u317 u318 u319 u320 u321 u322 u323 u324 j X i9_8_5 i9_8_6 i9_8_7 i9_8_8 i9_8_9 i9_8_10 sg V4 d1 d7 v0' v1' v2' v3' v4' v5' v6' md mv HE4 HJ4 HSG
  have hb5 : isT by_ ws n k a = [inL [n.total] (addT by_ + sumW ws k), decide (addT by_ ≤ n.added), cq, inL [n.hard] (harT by_), sg || !n.stamp] := by
    unfold isT
    rw [HCB.out, HSG.out]
    simp [inL, inb]
  have hpa2 := HPA.out
  have hwh2 := HWH.out
  rw [hb5] at hpa2 hwh2
  clear HPA HWH hb5
  obtain ⟨b0, hb0'⟩ : ∃ b, inL [n.total] (addT by_ + sumW ws k) = b := ⟨_, rfl⟩
  obtain ⟨b1, hb1'⟩ : ∃ b, inL [n.hard] (harT by_) = b := ⟨_, rfl⟩
  rw [hb0', hb1'] at hpa2 hwh2
  have HB0 := Lib.hid hb0'
  clear hb0'
  have HB1 := Lib.hid hb1'
  clear hb1'
  have HPA := Lib.hid hpa2
  clear hpa2
  have HWH := Lib.hid hwh2
  clear hwh2
  cases sg
  all_goals
    refine wp_region_calls 23 (fun i => i == 2 || i == 4 || i == 13 || i == 15) (fun c v W => TeTab n.total n.hard b0 b1 c W v) (by kernel_rfl) (fun ν => by kernel_rfl) (by kernel_rfl) (by kernel_rfl) (by kernel_rfl) (by kernel_rfl) ?mono ?_
    rotate_left 1
    apply Exists.intro
    refine ⟨fun ν L hL => ?_, fun c oc hc hU ν W hE hΦ => ?_, fun ν W hE hΦ => ?_⟩
    · simp only [modU, cOp, List.mapIdx_cons, List.mapIdx_nil, Nat.zero_add, Nat.reduceAdd, Nat.reduceBEq, Bool.or_false, Bool.false_or, Bool.or_true, Bool.true_or, Bool.or_self, Bool.false_eq_true, if_false, if_true, List.take_succ_cons, List.take_zero]
      repeat (go_big_quiet_step (fail))
      exact wpQuiet_nil hL
    · simp at hU
      rcases hU with ((rfl | rfl) | rfl) | rfl
      · simp only [List.getElem?_cons_succ, List.getElem?_cons_zero, Option.some.injEq] at hc
        subst hc
        exact .inr ⟨.slice (some ⟨W.heap.size, 0, none⟩) 1 1, W.alloc (.cells #[.int .i64 n.total.lo, .int .i64 n.total.hi] 42), by kernel_rfl, exq, fun _ => ⟨_, _, rfl, row_span1 _ _ _ rfl⟩, fun e => (by cases e), fun e => (by cases e), fun e => (by cases e)⟩
      · simp only [List.getElem?_cons_succ, List.getElem?_cons_zero, Option.some.injEq] at hc
        subst hc
        obtain ⟨q2, k2, e2, h2⟩ := (hΦ 2 rfl ⟨⟨2, .data⟩, by simp, rfl, rfl⟩).1 rfl
        refine Oper.gives_fn rfl rfl rfl (enters_of Tryz.func33 (by kernel_rfl) rfl) ?_ rfl
        refine (l04_in_any [n.total] (ν 2) (addT by_ + sumW ws k) W h2).mono ?_
        rw [HB0.out]
        rintro e W' ⟨rfl, h2⟩
        exact ⟨_, rfl, h2, fun e => (by cases e), fun _ => rfl, fun e => (by cases e), fun e => (by cases e)⟩
      · simp only [List.getElem?_cons_succ, List.getElem?_cons_zero, Option.some.injEq] at hc
        subst hc
        exact .inr ⟨.slice (some ⟨W.heap.size, 0, none⟩) 1 1, W.alloc (.cells #[.int .i64 n.hard.lo, .int .i64 n.hard.hi] 42), by kernel_rfl, exq, fun e => (by cases e), fun e => (by cases e), fun _ => ⟨_, _, rfl, row_span1 _ _ _ rfl⟩, fun e => (by cases e)⟩
      · simp only [List.getElem?_cons_succ, List.getElem?_cons_zero, Option.some.injEq] at hc
        subst hc
        obtain ⟨q2, k2, e2, h2⟩ := (hΦ 13 rfl ⟨⟨13, .data⟩, by simp, rfl, rfl⟩).2.2.1 rfl
        refine Oper.gives_fn rfl rfl rfl (enters_of Tryz.func33 (by kernel_rfl) rfl) ?_ rfl
        refine (l04_in_any [n.hard] (ν 13) (harT by_) W h2).mono ?_
        rw [HB1.out]
        rintro e W' ⟨rfl, h2⟩
        exact ⟨_, rfl, h2, fun e => (by cases e), fun e => (by cases e), fun e => (by cases e), fun _ => rfl⟩
    rotate_left 1
    case mono => exact fun c v W W' h hE => h.mono hE
    have hVW : V4.Exts W := World.Exts.trans exq hE
    have e4 : ν 4 = .bool b0 := (hΦ 4 (by decide) rfl).2.1 rfl
    have e15 : ν 15 = .bool b1 := (hΦ 15 (by decide) rfl).2.2.2 rfl
    simp only [List.drop_succ_cons, List.drop_zero]
    rw [e4, e15]
    clear hΦ e4 e15
    generalize hb4' : decide (addT by_ ≤ n.added) = b4 at *
    go_wp2_with fail
    generalize hV6 : World.alloc W _ = V6
    obtain ⟨b5, hpa5, hwh5, hR5⟩ : ∃ b5, (∀ (i : Nat) (k : Int) (x : Bool), [x0, x1, x2, x3, x4][i]? = some k → [b0, b4, cq, b1, b5][i]? = some x → agrees k x = true ∧ 0 ≤ k ∧ k ≤ 2) ∧ agrees Wh ([b0, b4, cq, b1, b5].all id) = true ∧ IsRow (fun x : Bool => [Value.bool x]) 1 V6 (.slice (some ⟨W.heap.size, 0, none⟩) 5 5) [b0, b4, cq, b1, b5] := by
      rw [← hV6]
      exact ⟨_, HPA.out, HWH.out, row_bools W _ _ _ _ _ _ rfl⟩
    have hV6e : V4.Exts V6 := by rw [← hV6]; exact (exf hVW)
    have hEF := (hwA.trans HE4.out).trans hV6e
    have hJ6 := HJ4.out.mono hV6e
    obtain ⟨qj', bj9, oj9, cj', e, hmj, hpj, hcj⟩ := hJ6.ex
    simp only [Value.slice.injEq] at e
    obtain ⟨rfl, -, rfl⟩ := e
    obtain ⟨rfl, hlj⟩ := hpj (by simp)
    obtain ⟨q6', b6, o6, c6', e, hm6, hp6, hc6⟩ := hR5.ex
    simp only [Value.slice.injEq] at e
    obtain ⟨rfl, -, rfl⟩ := e
    obtain ⟨e6, hl6⟩ := hp6 (by simp)
    simp only [Option.some.injEq, Addr.mk.injEq] at e6
    obtain ⟨rfl, rfl, -⟩ := e6
    obtain ⟨bs, hbs⟩ : ∃ bs, [b0, b4, cq, b1, b5] = bs := ⟨_, rfl⟩
    obtain ⟨ps, hps⟩ : ∃ ps, [x0, x1, x2, x3, x4] = ps := ⟨_, rfl⟩
    have hbl : 5 ≤ bs.length := by rw [← hbs]; simp
    have hbu : bs.length ≤ 5 := by rw [← hbs]; simp
    have hpl : 5 ≤ ps.length := by rw [← hps]; simp
    rw [hbs] at hpa5 hwh5 hc6
    rw [hps] at hpa5 hcj
    clear hR5 hJ6 hbs hps hV6 hVW HPA HWH HB0 HB1 hb4' hp6 hpj
    have HPA := Lib.hid hpa5
    clear hpa5
    have HWH := Lib.hid hwh5
    clear hwh5
    have HC6 := Lib.hid hc6
    clear hc6
    have HCJ := Lib.hid hcj
    clear hcj
    have HEF := Lib.hid hEF
    clear hEF
    go_loopw [39, 351] (fun al i wr => ∃ j : Nat, j ≤ 5 ∧ i = .int .i64 j ∧ al = .bool ((bs.take j).all id) ∧ V6.Exts wr) (fun _ i _ => 5 - (intOf i).toNat)
    case atStart => exact ⟨0, Nat.zero_le _, rfl, rfl, World.Exts.refl _⟩
    case round =>
      obtain ⟨j, hj, rfl, rfl, hE⟩ := hrel
      obtain ⟨X, rfl⟩ := hE
      rcases Nat.lt_or_ge j 5 with hlt | hge
      · obtain ⟨x, hx⟩ := some_of_lt (xs := bs) (k := j) (by omega)
        obtain ⟨kk, hk⟩ := some_of_lt (xs := ps) (k := j) (by omega)
        obtain ⟨hag, hk0, -⟩ := HPA.out j kk x hk hx
        have k0 := HCJ.out j kk hk 0 _ rfl
        have k1 := HC6.out j x hx 0 _ rfl
        simp only [Nat.mul_one, Nat.add_zero, Nat.zero_add] at k0 k1
        have hsn := all_snoc bs hx
        have hag2 : agreesB kk x = true := hag
        generalize (bs.take j).all id = al at hsn ⊢
        have HSN := Lib.hid hsn
        clear hsn
        have HAG := Lib.hid hag2
        clear hag2
        clear hag hx hk
        cases al
        all_goals
          go_wp2_with (go_at_call 34; refine (l04_right_any kk x _ hk0).mono ?_; rw [HAG.out]; rintro e w' ⟨rfl, X8, rfl⟩)
          go_roundw
          case rel => exact ⟨j + 1, by omega, by go_num, by rw [HSN.out]; rfl, exq⟩
          case measure => simp [intOf]; omega
      · have htk : bs.take j = bs := List.take_of_length_le (by omega)
        rw [htk]
        have hag2 : agreesB Wh (bs.all id) = true := HWH.out
        generalize bs.all id = al at hag2 ⊢
        have HAG := Lib.hid hag2
        clear hag2
        clear htk
        go_wp2_with (go_at_call 34; refine (l04_right_any Wh al _ hw0).mono ?_; rw [HAG.out]; rintro e w' ⟨rfl, X8, rfl⟩)
        go_ret
        have hEF := HEF.out
        exact ⟨rfl, (exf hEF)⟩
theorem l04te_any (ts : List (Kr.Scale × Value)) (v : Value) (n : Norm) (ws : List Int) (wv : Value) (by_ : List Int) (bv : Value) (w : World) (hrow : BayAt w v ts) (hws : IsRow (fun x : Int => [.int .u32 x]) 1 w wv ws) (hwb : ∀ x ∈ ws, 0 ≤ x ∧ x ≤ 4294967295)
    (hby : IsRow (fun x : Int => [.int .u32 x]) 1 w bv by_) (hbb : ∀ x ∈ by_, 0 ≤ x ∧ x ≤ 4294967295) (hcd : CondsAt w) :
    Calls Tryz.prog 4 #[.agg #[v], .agg #[.int .i64 n.total.lo, .int .i64 n.total.hi, .int .i64 n.added, .int .i64 n.warm, .int .i64 n.hard.lo, .int .i64 n.hard.hi, .bool n.stamp], wv, bv] w fun e w' => e = .returned (.bool true) ∧ w.Exts w' :=
  (l04te_any_c1.property (l04te_any_c2.property (l04te_any_c3.property (l04te_any_c4.property (l04te_any_c5.property (l04te_any_c6.property (l04te_any_c7.property (l04te_any_c8.property l04te_any_last)))))))) ts v n ws wv by_ bv w hrow hws hwb hby hbb hcd
end Go.Proofs.YtfjkiemjmnnbkaaGreatDoor
