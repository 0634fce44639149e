/-
  Several texts in one: see the heads of its parts.
-/
import Derived.Test.YtfjkiemjmnnbkaaGreatDoorLTdP

/-
  The law ScaleTuned: its walk.
-/
namespace Go.Proofs.YtfjkiemjmnnbkaaGreatDoor
open Go.RowKit Kr
set_option linter.unusedSimpArgs false

set_option maxRecDepth 100000 in
set_option maxHeartbeats 8000000 in
noncomputable def l04td_any_c5 : { G : Prop // G → l04td_any_c4.val } := by
  apply Subtype.mk
  case property =>
  intro hG
  have HG := Lib.hid hG
  clear hG
  intro ts g which other w hwb hob q0 cp0 q1 cp1 q2 cp2 q3 cp3 HB HL HR HS HWF HCD hg1 hg3 hg4 hg5 HRD HGA HG2 TL hlen HT1 HTL HTN HCK i9_1_1 bv1 ov1 cv1 hmv1 i9_1_2 A HTB i9_4_1 u12 u13 u61 u62 u63 u64 u65 u66 u67 u68 u69 u70 u71 u72 u73 u74 u75 u76 u77 u78 u79 u80 u81 u82 u83 u84 u85 u86 i9_2_1 i9_2_2 i9_2_3 A1 f z kw hkl s hsb HF HZ HS1 X A2 d hd1 hd2 ν W q9 k9 w' b6 o6 c6 hl6 hm6 hEw a0 g0 g1 g2 g3 g4 g5 g6 g7 l1 l2 HV1 i9_3_1 i9_3_2 L6 HCS HLN u8 u17 u18 u19 u20 u21 u22 u24 u25 u27 u28 u29 u30 u31 u133 u134 u135 u136 u137 u138 u139 u140 u141 u142 u143 u144 u145 u146 u147 u148 u149 u150 u151 u152 u153 u154 u155 u156 u157 u158 u159 u160 u161 u162 u163 u164 u165 u166 u167 u168 u169 u170 u171 u172 u173 u174 u175 u176 u177 u178 u179 u180 u181 u182 u183 u184 u185 u186 u187 u188 u189 u190 u191 u192 u193 u194 u195 u196 u197 u198 u199 u200 u201 u202 u203 u204 u205 u206 u207 u208 u209 u210 u211 u212 u213 u214 u215 u216 u217 u218 u219 u220 u221 u222 u223 u224 u225 u226 u227 u228 u229 u230 u231 u232 u233 u234 u235 u236 u237 u238 u239 u240 u241 u242 u243 u244 u245 u246 u247 u248 u249 u250 u251 u252 u253 u254 u255 u256 u257 u258 u259 u260 u261 u262 u263 u264 u265 u266 u267 u268 u269 u270 u271 u272 u273 u274 u275 u276 u277 u278 u279 u280 u281 u282 u283 u284 u285 u286 u287 u288 u289 j hj hlt x Wa hE c0 nc0 e0 y0 y1 y2 y3 y4 y5 y6 y7 n0 n1 hEa HTT HVR ch ws HTR HIN HCH HWS HTO HSU HTN2
  have hmm := @run_makeMap Tryz.prog
  go_wp2_with (first
    | (go_at_call 36; refine (HTT.out _ exq).mono ?_; rintro e w9 ⟨v1, v2, t1, t2, er, rfl, h1, h2, h3, X8, rfl⟩; rw [HTR.out] at h1; obtain ⟨⟨rfl, rfl⟩, rfl⟩ := (by simpa using h1 : (ch = t1 ∧ ws = t2) ∧ 0 = er); (obtain ⟨qa, ca, rfl⟩ := h2.len); (obtain ⟨qc, cc, rfl⟩ := h3.len); (have HP2 := Lib.hid h2); (have HP3 := Lib.hid h3); clear h1 h2 h3; rw [HWS.out])
    | (go_at_call 33; refine (l04_in_any TL _ x _ (HVR.out.mono exq)).mono ?_; rw [HIN.out]; rintro e w9 ⟨rfl, X9, rfl⟩))
  clear hmm c0 nc0
  rename_i i9_5_1 i9_5_2 i9_5_3 i9_5_4 i9_5_5 i9_5_6
  revert ts g which other w hwb hob q0 cp0 q1 cp1 q2 cp2 q3 cp3 HB HL HR HS HWF HCD hg1 hg3 hg4 hg5 HRD HGA HG2 TL hlen HT1 HTL HTN HCK i9_1_1 bv1 ov1 cv1 hmv1 i9_1_2 A HTB i9_4_1 u12 u13 u61 u62 u63 u64 u65 u66 u67 u68 u69 u70 u71 u72 u73 u74 u75 u76 u77 u78 u79 u80 u81 u82 u83 u84 u85 u86 i9_2_1 i9_2_2 i9_2_3 A1 f z kw hkl s hsb HF HZ HS1 X A2 d hd1 hd2 ν W q9 k9 w' b6 o6 c6 hl6 hm6 hEw a0 g0 g1 g2 g3 g4 g5 g6 g7 l1 l2 HV1 i9_3_1 i9_3_2 L6 HCS HLN u8 u17 u18 u19 u20 u21 u22 u24 u25 u27 u28 u29 u30 u31 u133 u134 u135 u136 u137 u138 u139 u140 u141 u142 u143 u144 u145 u146 u147 u148 u149 u150 u151 u152 u153 u154 u155 u156 u157 u158 u159 u160 u161 u162 u163 u164 u165 u166 u167 u168 u169 u170 u171 u172 u173 u174 u175 u176 u177 u178 u179 u180 u181 u182 u183 u184 u185 u186 u187 u188 u189 u190 u191 u192 u193 u194 u195 u196 u197 u198 u199 u200 u201 u202 u203 u204 u205 u206 u207 u208 u209 u210 u211 u212 u213 u214 u215 u216 u217 u218 u219 u220 u221 u222 u223 u224 u225 u226 u227 u228 u229 u230 u231 u232 u233 u234 u235 u236 u237 u238 u239 u240 u241 u242 u243 u244 u245 u246 u247 u248 u249 u250 u251 u252 u253 u254 u255 u256 u257 u258 u259 u260 u261 u262 u263 u264 u265 u266 u267 u268 u269 u270 u271 u272 u273 u274 u275 u276 u277 u278 u279 u280 u281 u282 u283 u284 u285 u286 u287 u288 u289 j hj hlt x Wa hE e0 y0 y1 y2 y3 y4 y5 y6 y7 n0 n1 hEa HTT HVR ch ws HTR HIN HCH HWS HTO HSU HTN2 i9_5_1 i9_5_2 i9_5_3 i9_5_4 X8 qa ca qc cc HP2 HP3 X9 i9_5_5 i9_5_6
  exact HG.out
end Go.Proofs.YtfjkiemjmnnbkaaGreatDoor

/-
  The law ScaleTuned: its walk.
-/
namespace Go.Proofs.YtfjkiemjmnnbkaaGreatDoor
open Go.RowKit Kr
set_option linter.unusedSimpArgs false

set_option maxRecDepth 100000 in
set_option maxHeartbeats 8000000 in
noncomputable def l04td_any_c6 : { G : Prop // G → l04td_any_c5.val } := by
  apply Subtype.mk
  case property =>
  intro hG
  have HG := Lib.hid hG
  clear hG
  intro ts g which other w hwb hob q0 cp0 q1 cp1 q2 cp2 q3 cp3 HB HL HR HS HWF HCD hg1 hg3 hg4 hg5 HRD HGA HG2 TL hlen HT1 HTL HTN HCK i9_1_1 bv1 ov1 cv1 hmv1 i9_1_2 A HTB i9_4_1 u12 u13 u61 u62 u63 u64 u65 u66 u67 u68 u69 u70 u71 u72 u73 u74 u75 u76 u77 u78 u79 u80 u81 u82 u83 u84 u85 u86 i9_2_1 i9_2_2 i9_2_3 A1 f z kw hkl s hsb HF HZ HS1 X A2 d hd1 hd2 ν W q9 k9 w' b6 o6 c6 hl6 hm6 hEw a0 g0 g1 g2 g3 g4 g5 g6 g7 l1 l2 HV1 i9_3_1 i9_3_2 L6 HCS HLN u8 u17 u18 u19 u20 u21 u22 u24 u25 u27 u28 u29 u30 u31 u133 u134 u135 u136 u137 u138 u139 u140 u141 u142 u143 u144 u145 u146 u147 u148 u149 u150 u151 u152 u153 u154 u155 u156 u157 u158 u159 u160 u161 u162 u163 u164 u165 u166 u167 u168 u169 u170 u171 u172 u173 u174 u175 u176 u177 u178 u179 u180 u181 u182 u183 u184 u185 u186 u187 u188 u189 u190 u191 u192 u193 u194 u195 u196 u197 u198 u199 u200 u201 u202 u203 u204 u205 u206 u207 u208 u209 u210 u211 u212 u213 u214 u215 u216 u217 u218 u219 u220 u221 u222 u223 u224 u225 u226 u227 u228 u229 u230 u231 u232 u233 u234 u235 u236 u237 u238 u239 u240 u241 u242 u243 u244 u245 u246 u247 u248 u249 u250 u251 u252 u253 u254 u255 u256 u257 u258 u259 u260 u261 u262 u263 u264 u265 u266 u267 u268 u269 u270 u271 u272 u273 u274 u275 u276 u277 u278 u279 u280 u281 u282 u283 u284 u285 u286 u287 u288 u289 j hj hlt x Wa hE e0 y0 y1 y2 y3 y4 y5 y6 y7 n0 n1 hEa HTT HVR ch ws HTR HIN HCH HWS HTO HSU HTN2 i9_5_1 i9_5_2 i9_5_3 i9_5_4 X8 qa ca qc cc HP2 HP3 X9 i9_5_5 i9_5_6
  obtain ⟨V, hV⟩ : ∃ V, World.ext _ X9 = V := ⟨_, rfl⟩
  have hEV : Wa.Exts V := by rw [← hV]; exact exq
  have b0 : V.cell? ⟨(World.ext Wa X8).heap.size, 0, none⟩ = some (.slice qa ch.length ca) := by rw [← hV]; simp [go_sem]
  have b1 : V.cell? ⟨(World.ext Wa X8).heap.size, 1, none⟩ = some (.slice qc g.loads.length cc) := by rw [← hV]; simp [go_sem]
  have hp2 := HP2.out.mono (w' := V) (by rw [← hV]; exact exq)
  have hp3 := HP3.out.mono (w' := V) (by rw [← hV]; exact exq)
  rw [hV]
  obtain ⟨B, hB⟩ : ∃ B, (World.ext Wa X8).heap.size = B := ⟨_, rfl⟩
  rw [hB] at b0 b1 ⊢
  have nb0 := Lays.of_cell b0
  replace e0 := hEV.cell e0
  replace y0 := hEV.cell y0
  replace y1 := hEV.cell y1
  replace y2 := hEV.cell y2
  replace y3 := hEV.cell y3
  replace y4 := hEV.cell y4
  replace y5 := hEV.cell y5
  replace y6 := hEV.cell y6
  replace y7 := hEV.cell y7
  replace n0 := Lays.of_cell e0
  replace n1 := Lays.of_cell y0
  have hwV := hEa.trans hEV
  have hrV := hE.trans hEV
  have hbV := HB.out.mono hwV
  have htri := hbV.tr
  obtain ⟨p0, bb, ob, cpb, eb, hmb, hpb, hcb⟩ := hbV.row.ex
  simp only [Value.slice.injEq] at eb
  obtain ⟨rfl, -, rfl⟩ := eb
  have hlV := HL.out.mono hwV
  obtain ⟨p9, bl, ol, cpl, el, hml, hpl, hcl⟩ := hlV.ex
  simp only [Value.slice.injEq] at el
  obtain ⟨rfl, -, rfl⟩ := el
  obtain ⟨pt, bt, ot, cpt, et, hmt, hpt, hct⟩ := hp2.ex
  simp only [Value.slice.injEq] at et
  obtain ⟨rfl, -, rfl⟩ := et
  obtain ⟨T, hT⟩ : ∃ T, tuneOf ((used (ts.map Prod.fst) g.loads).zip ch) = T := ⟨_, rfl⟩
  have hto := HTO.out
  have htn := HTN2.out
  rw [hT] at hto
  simp only [hT] at htn
  have hTM := TMap.new V T
  have hidp : (ts.map Prod.fst).Pairwise IdLt := bayOk_ids (check_zero HCK.out).1
  have hrt := bayOk_right (check_zero HCK.out).1
  clear hV hB hT HP2 HP3 HTO HTN2 HTT HVR HTR HIN hbV hlV hp2 X8 X9 hE hEa
  have HP3 := Lib.hid hp3
  clear hp3
  have HTRI := Lib.hid htri
  clear htri
  have HPB := Lib.hid hpb
  clear hpb
  have HCB := Lib.hid hcb
  clear hcb
  have HPLL := Lib.hid hpl
  clear hpl
  have HCLL := Lib.hid hcl
  clear hcl
  have HPT := Lib.hid hpt
  clear hpt
  have HCT := Lib.hid hct
  clear hct
  have HTO := Lib.hid hto
  clear hto
  have HTN2 := Lib.hid htn
  clear htn
  have HTM := Lib.hid hTM
  clear hTM
  have HIDP := Lib.hid hidp
  clear hidp
  have HRT := Lib.hid hrt
  clear hrt
  go_loopw [178, 22] (fun i kk wr => ∃ k : Nat, k ≤ ts.length ∧ i = .int .i64 k ∧ kk = .int .i64 (used ((ts.map Prod.fst).take k) g.loads).length ∧ Hid (TMap wr V.heap.size (used ((ts.map Prod.fst).take k) g.loads) T) ∧ V.Exts wr) (fun i _ _ => ts.length - (intOf i).toNat)
  case atStart => exact ⟨0, Nat.zero_le _, rfl, rfl, Lib.hid HTM.out, exq⟩
  case round =>
    obtain ⟨k, hk, rfl, rfl, HM, hE⟩ := hrel
    obtain ⟨X10, rfl⟩ := hE
    rcases Nat.lt_or_ge k ts.length with hlt3 | hge3
    ·
      obtain ⟨⟨sc, tv⟩, hx⟩ := some_of_lt hlt3
      have hmem := List.mem_of_getElem? hx
      have htx := HTRI.out _ hmem
      dsimp only at htx
      obtain ⟨qt, ct, rfl⟩ := htx.len
      have hrs := HRT.out sc (List.mem_map.2 ⟨_, hmem, rfl⟩)
      obtain ⟨rfl, hlay⟩ := HPB.out (by omega)
      have hcs := HCB.out k _ hx
      have c0 := hcs 0 _ rfl
      have c1 := hcs 1 _ rfl
      have c2 := hcs 2 _ rfl
      have c3 := hcs 3 _ rfl
      have c4 := hcs 4 _ rfl
      have c5 := hcs 5 _ rfl
      have c6 := hcs 6 _ rfl
      simp only [Nat.add_zero] at c0 c1 c2 c3 c4 c5 c6
      have hbs : (ts.map Prod.fst)[k]? = some sc := by rw [List.getElem?_map, hx]; rfl
      have hus := used_take (ls := g.loads) hbs
      have hfr := used_take_fresh HIDP.out (ls := g.loads) hbs
      have hkk := fun h => used_take_hit (ls := g.loads) hbs h
      have hUl := used_take_len (ts.map Prod.fst) g.loads k
      rw [List.length_map] at hUl
      obtain ⟨U, hU⟩ : ∃ U, used ((ts.map Prod.fst).take k) g.loads = U := ⟨_, rfl⟩
      rw [hU] at hus hfr hUl HM ⊢
      simp only [hU] at hkk
      have HTX := Lib.hid htx
      clear htx
      have HUS := Lib.hid hus
      clear hus
      have HFR := Lib.hid hfr
      clear hfr
      have HKK := Lib.hid hkk
      clear hkk
      have HRS := Lib.hid hrs
      clear hrs
      clear hcs hmem hx hbs hU
      go_wp2_with fail
      go_loopw [185, 25] (fun jj uu wr => ∃ m : Nat, m ≤ g.loads.length ∧ jj = .int .i64 m ∧ uu = .bool (usedB (g.loads.take m) sc) ∧ (World.alloc (V.ext X10) (.cells #[.int .i64 sc.id, .int .i64 sc.step, .int .i64 sc.gain.lo, .int .i64 sc.gain.hi, .int .i64 sc.off.lo, .int .i64 sc.off.hi, .slice qt sc.trials.length ct] 59)).Exts wr) (fun jj _ _ => g.loads.length - (intOf jj).toNat)
      case atStart => exact ⟨0, Nat.zero_le _, rfl, rfl, exq⟩
      case round =>
        obtain ⟨m, hm, rfl, rfl, hE⟩ := hrel
        obtain ⟨X11, rfl⟩ := hE
        rcases Nat.lt_or_ge m g.loads.length with hmlt | hmge
        ·
          obtain ⟨rfl, hlay2⟩ := HPLL.out (by omega)
          obtain ⟨l, hl⟩ := some_of_lt hmlt
          have hcs := HCLL.out m l hl
          have d0 := hcs 0 _ rfl
          have d1 := hcs 1 _ rfl
          simp only [Nat.add_zero] at d0 d1
          have hup := usedB_part (s := sc) hl
          clear hl hcs
          cases hu : usedB (g.loads.take m) sc <;> cases hq : l.scale == sc.id
          all_goals
            rw [hu, hq] at hup
            simp only [Bool.or_true, Bool.or_false, Bool.true_or, Bool.false_or] at hup
            have HUP := Lib.hid hup
            clear hup
            go_wp2_with fail
            go_roundw
            case rel => exact ⟨m + 1, by omega, by go_num, by rw [HUP.out], exq⟩
            case measure => simp [intOf]; omega
        obtain rfl : m = g.loads.length := by omega
        simp only [List.take_length]
        cases hu : usedB g.loads sc
        ·
          have hus := HUS.out
          rw [hu, if_neg (by simp)] at hus
          have HU2 := Lib.hid hus
          clear hus
          go_wp2_with fail
          go_roundw
          case rel => exact ⟨k + 1, by omega, by go_num, by rw [HU2.out], Lib.hid (by rw [HU2.out]; exact HM.out.exts exq), exq⟩
          case measure => simp [intOf]; omega
        ·
          have hkk := HKK.out hu
          have hus := HUS.out
          rw [hu, if_pos rfl] at hus
          have hlu : U.length < ch.length := by rw [HCH.out]; exact (List.getElem?_eq_some_iff.1 hkk).1
          obtain ⟨q, hq⟩ := some_of_lt hlu
          have htq := HTN2.out _ sc q hkk hq
          have htt := truthOf_true HTO.out (List.mem_of_getElem? hkk) HRS.out
          rw [htq] at htt
          dsimp only at htt
          have htc := fun (W : World) (hE : V.Exts W) => r04_True_any sc (.slice qt sc.trials.length ct) q.gain q.off W (HTX.out.mono hE) HRS.out htt.2.1 htt.2.2
          simp only [htt.1] at htc
          obtain ⟨rfl, hlayt⟩ := HPT.out (by omega)
          have hcs := HCT.out _ q hq
          have f0 := hcs 0 _ rfl
          have f1 := hcs 1 _ rfl
          simp only [Nat.add_zero] at f0 f1
          have hid := (right_bounds HRS.out).1
          have hkey : keyOf Tryz.prog 3 (.int .i64 sc.id) = some (.int .i64 sc.id) := Maps.keyOf_int_mk Tryz.underlying3 (WalkArith.wf_i64 (by omega))
          obtain ⟨D, hD1, hD2⟩ := HM.out.ex
          have k1 : decide ((ch.length : Int) ≤ (U.length : Int)) = false := by simp; omega
          have k2 : decide (ch.length ≤ U.length) = false := by simp; omega
          have k3 : (0 : Int) ≤ (U.length : Int) := by omega
          have k4 : (U.length : Int) < (ch.length : Int) := by omega
          have HTC := Lib.hid htc
          clear htc
          have HTQ := Lib.hid htq
          clear htq
          have HTT3 := Lib.hid htt
          clear htt
          have HU2 := Lib.hid hus
          clear hus
          have HD1 := Lib.hid hD1
          clear hD1
          have HD2 := Lib.hid hD2
          clear hD2
          clear hcs hkk hq
          go_upto_region 40 with (fail)
          refine wp_region_ext (by kernel_rfl) (by kernel_rfl) ?_
          repeat (go_big_quiet_step ((go_at_call 37; exact Calls.in_ext (HTC.out _ exq))))
          refine wpQuiet_nil ?_
          rintro _ ⟨X, rfl⟩
          go_upto_region 42 with (fail)
          refine wp_region_ext_tail 8 (by kernel_rfl) (by kernel_rfl) ?_
          simp only [List.take_succ_cons, List.take_zero, List.drop_succ_cons, List.drop_zero]
          repeat (go_big_quiet_step (fail))
          refine wpQuiet_nil ?_
          rintro _ ⟨X, rfl⟩
          go_wp2_with (at_mapUpdate; refine wpList_mapUpdate_own _ rfl _ _ _ 87 rfl 3 61 law_int Tryz.underlying87 readSelf _ _ D rfl (ownsMap_exts HD1.out exq) (by unfold maxLen; omega) _ _ _ rfl rfl hkey _ [] rfl ?_)
          intro w1 hown1 hgw1
          have hT2 : TMap w1 V.heap.size (U ++ [sc]) T := TMap.put HD2.out HFR.out (by rw [HTQ.out]; exact hown1)
          have hE1 : V.Exts w1 := exts_turned exq (Nat.le_refl _) hgw1
          have HT2 := Lib.hid hT2
          clear hT2
          have HE1 := Lib.hid hE1
          clear hE1
          clear hown1 hgw1
          go_wp2_with fail
          go_roundw
          case rel => exact ⟨k + 1, by omega, by go_num, by rw [HU2.out, List.length_append]; go_num, Lib.hid (by rw [HU2.out]; exact HT2.out), HE1.out⟩
          case measure => simp [intOf]; omega
    obtain rfl : k = ts.length := by omega
    have hfin : used ((ts.map Prod.fst).take ts.length) g.loads = used (ts.map Prod.fst) g.loads := by rw [List.take_of_length_le (by rw [List.length_map]; exact Nat.le_refl _)]
    rw [hfin, ← HCH.out]
    rw [hfin] at HM
    clear hfin hge3 hk
    rename_i i9_6_1 i9_6_2 i9_6_3 i9_6_4 i9_6_5 i9_6_6 i9_6_7 i9_6_8 i9_6_9 i9_6_10 i9_6_11 i9_6_12 i9_6_13 i9_6_14 i9_6_15 i9_6_16 i9_6_17 i9_6_18 i9_6_19 i9_6_20 i9_6_21 i9_6_22 i9_6_23 i9_6_24 i9_6_25 i9_6_26 i9_6_27 i9_6_28 i9_6_29 i9_6_30 i9_6_31 i9_6_32 i9_6_33 i9_6_34 i9_6_35 i9_6_36 i9_6_37 i9_6_38 i9_6_39 i9_6_40 i9_6_41 i9_6_42 i9_6_43 i9_6_44 i9_6_45 i9_6_46 i9_6_47 i9_6_48 i9_6_49 i9_6_50 i9_6_51 i9_6_52 i9_6_53 i9_6_54 i9_6_55 i9_6_56 i9_6_57 i9_6_58
    revert ts g which other w hwb hob q0 cp0 q1 cp1 q2 cp2 q3 cp3 HB HL HR HS HWF HCD hg1 hg3 hg4 hg5 HRD HGA HG2 TL hlen HT1 HTL HTN HCK i9_1_1 bv1 ov1 cv1 hmv1 i9_1_2 A HTB i9_4_1 u12 u13 u61 u62 u63 u64 u65 u66 u67 u68 u69 u70 u71 u72 u73 u74 u75 u76 u77 u78 u79 u80 u81 u82 u83 u84 u85 u86 i9_2_1 i9_2_2 i9_2_3 A1 f z kw hkl s hsb HF HZ HS1 X A2 d hd1 hd2 ν W q9 k9 w' b6 o6 c6 hl6 hm6 hEw a0 g0 g1 g2 g3 g4 g5 g6 g7 l1 l2 HV1 i9_3_1 i9_3_2 L6 HCS HLN i9_6_1 u17 u18 u19 u20 u21 u22 i9_6_2 i9_6_3 i9_6_4 u28 u29 u30 u31 u133 u134 u135 u136 u137 u138 u139 u140 u141 u142 u143 u144 u145 u146 u147 u148 u149 u150 u151 u152 u153 u154 u155 u156 u157 u158 u159 u160 u161 u162 u163 u164 u165 u166 u167 u168 u169 u170 u171 u172 u173 u174 u175 u176 u177 u178 i9_6_5 i9_6_6 i9_6_7 i9_6_8 i9_6_9 i9_6_10 i9_6_11 i9_6_12 i9_6_13 i9_6_14 i9_6_15 i9_6_16 i9_6_17 i9_6_18 i9_6_19 i9_6_20 i9_6_21 i9_6_22 i9_6_23 i9_6_24 i9_6_25 i9_6_26 i9_6_27 i9_6_28 i9_6_29 i9_6_30 i9_6_31 i9_6_32 i9_6_33 i9_6_34 i9_6_35 i9_6_36 i9_6_37 i9_6_38 i9_6_39 i9_6_40 i9_6_41 i9_6_42 i9_6_43 i9_6_44 i9_6_45 i9_6_46 i9_6_47 i9_6_48 i9_6_49 i9_6_50 i9_6_51 i9_6_52 i9_6_53 i9_6_54 i9_6_55 i9_6_56 i9_6_57 i9_6_58 u233 u234 u235 u236 u237 u238 u239 u240 u241 u242 u243 u244 u245 u246 u247 u248 u249 u250 u251 u252 u253 u254 u255 u256 u257 u258 u259 u260 u261 u262 u263 u264 u265 u266 u267 u268 u269 u270 u271 u272 u273 u274 u275 u276 u277 u278 u279 u280 u281 u282 u283 u284 u285 u286 u287 u288 u289 j hj hlt x Wa ch ws HCH HWS HSU i9_5_1 i9_5_2 i9_5_3 i9_5_4 qa ca qc cc i9_5_5 i9_5_6 V hEV B b1 b0 nb0 e0 y0 y1 y2 y3 y4 y5 y6 y7 n0 n1 hwV hrV bb ob hmb bl ol hml bt ot hmt T HP3 HTRI HPB HCB HPLL HCLL HPT HCT HTO HTN2 HTM HIDP HRT u8 u24 u25 u27 u179 u180 u181 u182 u183 u184 u185 u186 u187 u188 u189 u190 u191 u192 u193 u194 u195 u196 u197 u198 u199 u200 u201 u202 u203 u204 u205 u206 u207 u208 u209 u210 u211 u212 u213 u214 u215 u216 u217 u218 u219 u220 u221 u222 u223 u224 u225 u226 u227 u228 u229 u230 u231 u232 X10 HM
    exact HG.out
end Go.Proofs.YtfjkiemjmnnbkaaGreatDoor

/-
  The law ScaleTuned: its walk.
-/
namespace Go.Proofs.YtfjkiemjmnnbkaaGreatDoor
open Go.RowKit Kr
set_option linter.unusedSimpArgs false

set_option maxRecDepth 100000 in
set_option maxHeartbeats 8000000 in
theorem l04td_any_last : l04td_any_c6.val := by
  intro ts g which other w hwb hob q0 cp0 q1 cp1 q2 cp2 q3 cp3 HB HL HR HS HWF HCD hg1 hg3 hg4 hg5 HRD HGA HG2 TL hlen HT1 HTL HTN HCK i9_1_1 bv1 ov1 cv1 hmv1 i9_1_2 A HTB i9_4_1 u12 u13 u61 u62 u63 u64 u65 u66 u67 u68 u69 u70 u71 u72 u73 u74 u75 u76 u77 u78 u79 u80 u81 u82 u83 u84 u85 u86 i9_2_1 i9_2_2 i9_2_3 A1 f z kw hkl s hsb HF HZ HS1 X A2 d hd1 hd2 ν W q9 k9 w' b6 o6 c6 hl6 hm6 hEw a0 g0 g1 g2 g3 g4 g5 g6 g7 l1 l2 HV1 i9_3_1 i9_3_2 L6 HCS HLN i9_6_1 u17 u18 u19 u20 u21 u22 i9_6_2 i9_6_3 i9_6_4 u28 u29 u30 u31 u133 u134 u135 u136 u137 u138 u139 u140 u141 u142 u143 u144 u145 u146 u147 u148 u149 u150 u151 u152 u153 u154 u155 u156 u157 u158 u159 u160 u161 u162 u163 u164 u165 u166 u167 u168 u169 u170 u171 u172 u173 u174 u175 u176 u177 u178 i9_6_5 i9_6_6 i9_6_7 i9_6_8 i9_6_9 i9_6_10 i9_6_11 i9_6_12 i9_6_13 i9_6_14 i9_6_15 i9_6_16 i9_6_17 i9_6_18 i9_6_19 i9_6_20 i9_6_21 i9_6_22 i9_6_23 i9_6_24 i9_6_25 i9_6_26 i9_6_27 i9_6_28 i9_6_29 i9_6_30 i9_6_31 i9_6_32 i9_6_33 i9_6_34 i9_6_35 i9_6_36 i9_6_37 i9_6_38 i9_6_39 i9_6_40 i9_6_41 i9_6_42 i9_6_43 i9_6_44 i9_6_45 i9_6_46 i9_6_47 i9_6_48 i9_6_49 i9_6_50 i9_6_51 i9_6_52 i9_6_53 i9_6_54 i9_6_55 i9_6_56 i9_6_57 i9_6_58 u233 u234 u235 u236 u237 u238 u239 u240 u241 u242 u243 u244 u245 u246 u247 u248 u249 u250 u251 u252 u253 u254 u255 u256 u257 u258 u259 u260 u261 u262 u263 u264 u265 u266 u267 u268 u269 u270 u271 u272 u273 u274 u275 u276 u277 u278 u279 u280 u281 u282 u283 u284 u285 u286 u287 u288 u289 j hj hlt x Wa ch ws HCH HWS HSU i9_5_1 i9_5_2 i9_5_3 i9_5_4 qa ca qc cc i9_5_5 i9_5_6 V hEV B b1 b0 nb0 e0 y0 y1 y2 y3 y4 y5 y6 y7 n0 n1 hwV hrV bb ob hmb bl ol hml bt ot hmt T HP3 HTRI HPB HCB HPLL HCLL HPT HCT HTO HTN2 HTM HIDP HRT u8 u24 u25 u27 u179 u180 u181 u182 u183 u184 u185 u186 u187 u188 u189 u190 u191 u192 u193 u194 u195 u196 u197 u198 u199 u200 u201 u202 u203 u204 u205 u206 u207 u208 u209 u210 u211 u212 u213 u214 u215 u216 u217 u218 u219 u220 u221 u222 u223 u224 u225 u226 u227 u228 u229 u230 u231 u232 X10 HM
  obtain ⟨V2, hV2⟩ : ∃ W, V.ext X10 = W := ⟨_, rfl⟩
  have hE2 : V.Exts V2 := by rw [← hV2]; exact ⟨X10, rfl⟩
  rw [hV2] at HM ⊢
  clear hV2 X10
  replace b0 := hE2.cell b0
  replace b1 := hE2.cell b1
  replace e0 := hE2.cell e0
  replace y0 := hE2.cell y0
  replace y1 := hE2.cell y1
  replace y2 := hE2.cell y2
  replace y3 := hE2.cell y3
  replace y4 := hE2.cell y4
  replace y5 := hE2.cell y5
  replace y6 := hE2.cell y6
  replace y7 := hE2.cell y7
  replace nb0 := Lays.of_cell b0
  replace n0 := Lays.of_cell e0
  replace n1 := Lays.of_cell y0
  have hp3 := HP3.out.mono hE2
  obtain ⟨pw, bw, ow, cpw, ew, hmw, hpw, hcw⟩ := hp3.ex
  simp only [Value.slice.injEq] at ew
  obtain ⟨rfl, -, rfl⟩ := ew
  have hcko := check_ok (check_zero HCK.out).1 (check_zero HCK.out).2
  have hls := gearOk_at (check_zero HCK.out).2
  have hwb2 := truth_each hls HTO.out
  have hsm := fun k => sum_take_bd (M := 1000000) (by omega) hwb2 k (by rw [HWS.out]; exact hcko.l6)
  have had := hcko.ad
  have hsh := hcko.sh
  have hV2w := hwV.trans hE2
  have hV2r := hrV.trans hE2
  have hlx : (ws.take g.loads.length).sum = ws.sum := by rw [← HWS.out, List.take_length]
  have HPW := Lib.hid hpw
  clear hpw
  have HCW := Lib.hid hcw
  clear hcw
  have HLS := Lib.hid hls
  clear hls
  have HSM := Lib.hid hsm
  clear hsm
  have HSH := Lib.hid hsh
  clear hsh
  have HLX := Lib.hid hlx
  clear hlx
  clear hcko hwb2 hp3 HP3 hwV hrV
  go_wp2_with fail
  go_loopw [236, 20] (fun i su wr => ∃ k : Nat, k ≤ g.loads.length ∧ i = .int .i64 k ∧ su = .int .i64 (g.added + (ws.take k).sum) ∧ V2.Exts wr) (fun i _ _ => g.loads.length - (intOf i).toNat)
  case atStart => exact ⟨0, Nat.zero_le _, rfl, by simp, World.Exts.refl _⟩
  case round =>
    obtain ⟨k, hk, rfl, rfl, hE⟩ := hrel
    obtain ⟨X12, rfl⟩ := hE
    rcases Nat.lt_or_ge k g.loads.length with hlt5 | hge5
    ·
      obtain ⟨l, hl⟩ := some_of_lt hlt5
      obtain ⟨wv, hw⟩ := some_of_lt (xs := ws) (k := k) (by rw [HWS.out]; exact hlt5)
      obtain ⟨rfl, hlay2⟩ := HPLL.out (by omega)
      obtain ⟨rfl, hlayw⟩ := HPW.out (by rw [HWS.out]; omega)
      have hcs := HCLL.out k l hl
      have d0 := hE2.cell (hcs 0 _ rfl)
      have d1 := hE2.cell (hcs 1 _ rfl)
      have f0 := HCW.out k wv hw 0 _ rfl
      simp only [Nat.mul_one, Nat.add_zero] at d0 d1 f0
      obtain ⟨m, ⟨sc, tv⟩, hm, hfa, hsc, hmem, hus⟩ := load_at (List.mem_of_getElem? hl) HLS.out
      have htx := HTRI.out _ hmem
      dsimp only at hsc hus htx
      obtain ⟨qt, ct, rfl⟩ := htx.len
      have hrs := HRT.out sc (List.mem_map.2 ⟨_, hmem, rfl⟩)
      obtain ⟨rfl, hlayb⟩ := HPB.out (List.length_pos_of_mem hmem)
      have hlm := (List.getElem?_eq_some_iff.1 hm).1
      have hcs := HCB.out m _ hm
      have c0 := hcs 0 _ rfl
      have c1 := hcs 1 _ rfl
      have c2 := hcs 2 _ rfl
      have c3 := hcs 3 _ rfl
      have c4 := hcs 4 _ rfl
      have c5 := hcs 5 _ rfl
      have c6 := hcs 6 _ rfl
      simp only [Nat.add_zero] at c0 c1 c2 c3 c4 c5 c6
      replace c0 := hE2.cell c0
      replace c1 := hE2.cell c1
      replace c2 := hE2.cell c2
      replace c3 := hE2.cell c3
      replace c4 := hE2.cell c4
      replace c5 := hE2.cell c5
      replace c6 := hE2.cell c6
      have nd0 := Lays.of_cell d0
      have nf0 := Lays.of_cell f0
      have nc0 := Lays.of_cell c0
      have hst := (right_bounds hrs).2.1
      have htt := truthOf_true HTO.out hus hrs
      have hshw := HTO.out.2.2 sc (List.mem_map.2 ⟨_, hmem, rfl⟩) k l wv hl hw hsc
      have hss := HSH.out sc (List.mem_map.2 ⟨_, hmem, rfl⟩) l (List.mem_of_getElem? hl) hsc
      have hlk := fun (Z : Ext (V2.ext X12 |>.alloc (.cells #[.int .i64 l.scale, .int .i64 l.shown] 63))) => (HM.out.exts (W' := World.ext _ Z) exq).look hus hsc (HWF.out l (List.mem_of_getElem? hl))
      obtain ⟨⟨t1, t2⟩, hTp⟩ : ∃ p, T sc.id = p := ⟨_, rfl⟩
      rw [hTp] at htt hshw
      simp only [hTp] at hlk
      dsimp only at htt hshw
      have hat := fun (Z : World) (hZ : w.Exts Z) => r04_At_any ts _ l.scale Z (HB.out.mono hZ)
      simp only [hfa] at hat
      have hsw := fun (Z : World) => r04_Shows_any sc (.slice qt sc.trials.length ct) t1 t2 wv l.shown Z hshw.1 htt.2.1 htt.2.2 hst hss
      simp only [hshw.2] at hsw
      have hsu := sum_take hw
      have hb1 := HSM.out k
      have hb2 := HSM.out (k + 1)
      rw [hsu] at hb2
      have hwv := hshw.1
      have k1 : decide (wv < 0) = false := by simp; omega
      have k2 : decide (1000000 < wv) = false := by simp; omega
      have k3 : (0 : Int) ≤ (m : Int) := by omega
      have k4 : (m : Int) < (ts.length : Int) := by omega
      have HLK := Lib.hid hlk
      clear hlk
      have HAT := Lib.hid hat
      clear hat
      have HSW := Lib.hid hsw
      clear hsw
      have HSUM := Lib.hid hsu
      clear hsu
      have HTX := Lib.hid htx
      clear htx
      clear hcs hl hw hm hmem hus hsc hfa hrs hTp htt hshw
      go_upto_region 48 with (fail)
      refine wp_region_alloc 11 9 _ (.cells #[.int .i64 0, .int .i64 0] 61) (by kernel_rfl) (fun pp => by kernel_rfl) (by kernel_rfl) rfl rfl rfl (by decide) (fun a W => by kernel_rfl) ?_
      apply Exists.intro
      refine ⟨fun pp hpp T0 hT0 L hL => ?_, fun pp => ?_, fun pp Wp hpp hEp hop => ?_⟩
      · haveI := hT0.2
        simp only [mvOp, List.set_cons_succ, List.set_cons_zero, List.take_succ_cons, List.take_zero]
        iterate 8 (go_big_quiet_step (fail))
        go_big_quiet_want
        refine quiet_lookup (v := .agg #[.int .i64 t1, .int .i64 t2]) rfl rfl rfl (fun W hW => by obtain ⟨Z, rfl⟩ := hW; exact HLK.out Z.to) ?_
        simp only [Act.put, List.setIfInBounds_toArray, List.set_cons_succ, List.set_cons_zero]
        go_big_quiet_on
        repeat (go_big_quiet_step (fail))
        exact wpQuiet_nil hL
      · rfl
      simp only [List.drop_succ_cons, List.drop_zero]
      obtain ⟨X5, rfl⟩ := hEp
      have p0 := cells_block (cs := [.int .i64 0, .int .i64 0]) hop 0 _ rfl
      have p1 := cells_block (cs := [.int .i64 0, .int .i64 0]) hop 1 _ rfl
      have q0 := block_frozen (i := 0) hop
      have q1 := block_frozen (i := 1) hop
      have nq0 := Lays.of_cell p0
      go_upto_region 49 with (fail)
      obtain ⟨Z, hZ⟩ : ∃ Z, ((World.ext _ X5).setCell ⟨pp, 0, none⟩ (.int .i64 t1)).setCell ⟨pp, 1, none⟩ (.int .i64 t2) = Z := ⟨_, rfl⟩
      have hEZ : (World.alloc (V2.ext X12) (.cells #[.int .i64 l.scale, .int .i64 l.shown] 63)).Exts Z := by rw [← hZ]; exact World.Exts.setCell (World.Exts.setCell ⟨X5, rfl⟩ hpp _) hpp _
      have hPZ : LaysAs Z pp (.cells [.int .i64 t1, .int .i64 t2].toArray 61 (0, 0)) := by rw [← hZ]; exact LaysAs.set (LaysAs.set (cs := [.int .i64 0, .int .i64 0]) hop _) _
      rw [hZ]
      have z0 := LaysAs.cell hPZ 0 _ rfl
      have z1 := LaysAs.cell hPZ 1 _ rfl
      have hEa : V2.Exts (World.alloc (V2.ext X12) (.cells #[.int .i64 l.scale, .int .i64 l.shown] 63)) := exq
      have hVZ := hEa.trans hEZ
      have hwZ := hV2w.trans hVZ
      have u0 := hEZ.cell (show (World.alloc (V2.ext X12) (.cells #[.int .i64 l.scale, .int .i64 l.shown] 63)).cell? ⟨(V2.ext X12).heap.size, 0, none⟩ = some (.int .i64 l.scale) by simp [go_sem])
      have u1 := hEZ.cell (show (World.alloc (V2.ext X12) (.cells #[.int .i64 l.scale, .int .i64 l.shown] 63)).cell? ⟨(V2.ext X12).heap.size, 1, none⟩ = some (.int .i64 l.shown) by simp [go_sem])
      replace e0 := hVZ.cell e0
      replace c0 := hVZ.cell c0
      replace c1 := hVZ.cell c1
      replace c2 := hVZ.cell c2
      replace c3 := hVZ.cell c3
      replace c4 := hVZ.cell c4
      replace c5 := hVZ.cell c5
      replace c6 := hVZ.cell c6
      replace nc0 := Lays.of_cell c0
      replace n0 := Lays.of_cell e0
      have nz := Lays.of_cell z0
      have nu := Lays.of_cell u0
      clear hZ hop hPZ p0 p1 q0 q1 nq0 hEZ hEa hpp X5 HLK d0 d1 nd0 f0 nf0
      refine wp_region_ext (by kernel_rfl) (by kernel_rfl) ?_
      repeat (go_big_quiet_step (first | (go_at_call 39; exact Calls.in_ext (HAT.out _ (exf hwZ))) | (go_at_call 38; exact Calls.in_ext (HSW.out _))))
      refine wpQuiet_nil ?_
      rintro _ ⟨X, rfl⟩
      go_wp2_with fail
      go_roundw
      case rel => exact ⟨k + 1, by omega, by go_num, by rw [HSUM.out]; go_num, hVZ.trans exq⟩
      case measure => simp [intOf]; omega
    obtain rfl : k = g.loads.length := by omega
    have hfx : g.added + (ws.take g.loads.length).sum = x := by rw [HLX.out]; exact HSU.out
    rw [hfx]
    go_wp2_with fail
    go_roundw
    case rel => exact ⟨j + 1, by omega, by go_num, hV2r.trans exq⟩
    case measure => simp [intOf]; omega
theorem l04td_any (ts : List (Kr.Scale × Value)) (v : Value) (g : Gear) (lv rv sv : Value) (which other : Int) (w : World) (hrow : BayAt w v ts)
    (hl : IsRow (fun t : Kr.Load => [.int .i64 t.scale, .int .i64 t.shown]) 2 w lv g.loads) (hr : IsRow (fun x : Int => [.int .i64 x]) 1 w rv g.runners) (hs : IsRow (fun x : Int => [.int .i64 x]) 1 w sv g.strokes) (hwf : ∀ l ∈ g.loads, (Lit.int .i64 l.scale).wf = true) (hwi : (Lit.int .u16 which).wf = true) (hot : (Lit.int .i32 other).wf = true) (hcd : CondsAt w) :
    Calls Tryz.prog 6 #[.agg #[v], .agg #[lv, .int .i64 g.added, .int .i64 g.base, .int .i64 g.jitter, rv, sv, .int .i64 g.spread, .bool g.stamp], .int .u16 which, .int .i32 other] w fun e w' => e = .returned (.bool true) ∧ w.Exts w' :=
  (l04td_any_c1.property (l04td_any_c2.property (l04td_any_c3.property (l04td_any_c4.property (l04td_any_c5.property (l04td_any_c6.property l04td_any_last)))))) ts v g lv rv sv which other w hrow hl hr hs hwf hwi hot hcd
end Go.Proofs.YtfjkiemjmnnbkaaGreatDoor
