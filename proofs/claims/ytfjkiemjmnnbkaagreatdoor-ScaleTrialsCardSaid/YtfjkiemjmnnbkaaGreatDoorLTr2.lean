/-
  The law ScaleTrials: its walk.
-/
import Derived.Test.YtfjkiemjmnnbkaaGreatDoorLTr1
namespace Go.Proofs.YtfjkiemjmnnbkaaGreatDoor
open Go.RowKit Kr
set_option linter.unusedSimpArgs false

set_option maxRecDepth 100000 in
set_option maxHeartbeats 8000000 in
noncomputable def l04t_any_c2 : { G : Prop // G → l04t_any_c1.val } := by
  apply Subtype.mk
  case property =>
  intro hG
  have HG := Lib.hid hG
  clear hG
  intro s gain off weight more w hgb hob hwb qt ct HR HCD h10 hid hst h6 hgn1 hgn2 hgn3 hof1 hof2 hof3 hx hy hw1 E1 E2 E3 E4 F1 F2 F3 F4 HRT i9_1_1 X0 i9_1_2 X1 i9_1_3 X er HTU HRE HER X2 ql bl ol cl hml X3 u36 u37 u38 u39 u40 u41 u42 u43 u44 u45 u46 u47 u48 u49 u50 u51 u52 u53 u54 u55 u56 u57 u58 u59 u60 u61 u62 u63 u64 u65 u66 u67 u68 u69 u70 u71 u72 u73 u74 u75 u76 u77 u78 u79 u80 u81 u82 u83 u84 u85 u86 u87 u88 u89 u90 u91 u92 u93 u94 u95 u96 u97 u98 u99 u100 u101 u102 u103 u104 u105 u106 u107 u108 u109 u110 u115 u116 u117 u118 u119 u120 u121 u122 u123 u124 u125 u126 u127 u128 u129 u130 u131 u132 u133 u134 u135 u136 u137 u138 u139 u140 u141 u142 u143 u144 u145 u146 u147 u148 u149 u150 u151 u152 u153 u154 u155 u156 u157 u158 u159 u160 u161 u162 u163 u164 u165 u166 u167 u168 u169 u170 u171 u172 u173 u174 u175 u176 u177 u178 u179 u180 u181 u182 u183 u184 u185 u186 u187 u188 u189 u190 u191 u192 u193 u194 u198 u199 u200 u201 u202 u203 u204 u205 u206 u207 u208 u209 u210 u211 u212 u213 u214 u215 u216 u217 u218 u219 u220 u221 u222 u223 u224 u225 u226 u227 u228 u229 u230 u231 u232 u233 u234 u235 u236 u237 u238 u239 u240 u241 u242 u243 u244 u245 u246 u247 u248 u249 u250 u251 u252 u253 u254 u255 u256 u257 u258 u259 u260 u261 u262 u263 u264 u265 u266 u267 u268 u269 u270 u271 u272 u273 u274 u275 u276 u277 u278 u279 u280 u281 u282 u283 u284 u285 u286 u287 u288 u289 u290 u291 u292 u293 u294 u295 u296 u297 u298 u299 u300 u301 u305 u306 u307 u311 u312 u313 u314 u315 u316 u317 u318 u319 u320 u321 u322 u323 u324 u325 u326 u327 u328 u329 u330 u331 u332 u333 u334 u335 u336 u337 u338 u339 u340 u341 u342 u343 u344 u345 u346 u347 u348 u349 u350 u351 u352 X35 i9_1_4 i9_1_5 V hEV b0 b1 b2 b3 b4 b5 b6 m0 m1 br d0 d1 n1 n2 n3 bl' ol' HPL HCL HTB HRD HTI HTT HINC HLO HHI HTOLD HLV
  go_loopw [19, 20, 21, 114] (fun td lo hi i wr => ∃ (k : Nat) (bt bl bh : Bool), k ≤ (tunes s).length ∧ i = .int .i64 k ∧ td = .bool bt ∧ lo = .bool bl ∧ hi = .bool bh ∧ Hid (bt = toldAt (pickAt s.gain gain) (pickAt s.off off) ((tunes s).take k)) ∧ Hid (bl = endAt s.step (weight % 1000001) (readsOf s.step (weight % 1000001) (tunes s)).lo ((tunes s).take k)) ∧ Hid (bh = endAt s.step (weight % 1000001) (readsOf s.step (weight % 1000001) (tunes s)).hi ((tunes s).take k)) ∧ V.Exts wr) (fun _ _ _ i _ => (tunes s).length - (intOf i).toNat)
  case atStart => exact ⟨0, false, false, false, Nat.zero_le _, rfl, rfl, rfl, rfl, Lib.hid rfl, Lib.hid rfl, Lib.hid rfl, exq⟩
  case round =>
    obtain ⟨k, bt, bl2, bh, hk, rfl, rfl, rfl, rfl, HT, HL, HH, hE⟩ := hrel
    obtain ⟨X4, rfl⟩ := hE
    by_cases hlt : k < (tunes s).length
    ·
      as_aux_lemma =>
      obtain ⟨rfl, hlay⟩ := HPL.out (by omega)
      obtain ⟨t, ht⟩ := some_of_lt hlt
      have hcs := HCL.out k t ht
      have c0 := hcs 0 _ rfl
      have c1 := hcs 1 _ rfl
      have c2 := hcs 2 _ rfl
      simp only [Nat.add_zero] at c0 c1 c2
      have htm := List.mem_of_getElem? ht
      obtain ⟨⟨hg1, hg2⟩, ho1, ho2, ho3⟩ := HTI.out t htm
      have hnt := told_snoc (pickAt s.gain gain) (pickAt s.off off) ((tunes s).take k) t
      have hnl := endAt_snoc s.step (weight % 1000001) (readsOf s.step (weight % 1000001) (tunes s)).lo ((tunes s).take k) t
      have hnh := endAt_snoc s.step (weight % 1000001) (readsOf s.step (weight % 1000001) (tunes s)).hi ((tunes s).take k) t
      rw [← take_snoc ht] at hnt hnl hnh
      rw [← HT.out] at hnt
      rw [← HL.out] at hnl
      rw [← HH.out] at hnh
      have HNT := Lib.hid hnt
      clear hnt
      have HNL := Lib.hid hnl
      clear hnl
      have HNH := Lib.hid hnh
      clear hnh
      go_upto_region 16 with (fail)
      go_cut [174] (fun c wx => c = .bool false ∧ ((World.ext V X4).alloc (.cells #[.int .i64 t.gain, .int .i64 t.off.lo, .int .i64 t.off.hi] 101)).Exts wx)
      case first =>
        as_aux_lemma =>
        have r1 : decide (t.gain < s.gain.lo) = false := by simp; omega
        have r2 : decide (s.gain.hi < t.gain) = false := by simp; omega
        have r3 : decide (t.off.lo < s.off.lo) = false := by simp; omega
        have r4 : decide (t.off.hi < t.off.lo) = false := by simp; omega
        have r5 : decide (s.off.hi < t.off.hi) = false := by simp; omega
        rcases Nat.lt_or_ge 0 k with h0 | h0
        · obtain ⟨k3, hk3⟩ : ∃ k3, k3 + 1 = k := ⟨k - 1, by omega⟩
          obtain ⟨z, hz⟩ := some_of_lt (xs := tunes s) (k := k3) (by omega)
          have e0 := HCL.out k3 z hz 0 _ rfl
          simp only [Nat.add_zero] at e0
          have hzx := HINC.out k3 z t hz (by rw [hk3]; exact ht)
          have w1 : IntKind.i64.wrap ((k : Int) - 1) = (k3 : Int) := by rw [IntWalk.i64_in _ (by omega)]; omega
          have w2 : (0 : Int) ≤ (k3 : Int) := by omega
          have w7 : (k3 : Int) < ((tunes s).length : Int) := by omega
          have w4 : decide (t.gain ≤ z.gain) = false := by simp; omega
          have w5 : ((0 : Int) < (k : Int)) = True := eq_true (by omega)
          have w8 : (0 < k) = True := eq_true h0
          clear h0
          have HK3 := Lib.hid hk3
          clear hk3
          clear ht hz
          refine wp_region_ext (by kernel_rfl) (by kernel_rfl) ?_
          repeat (go_big_quiet_step (fail))
          refine wpQuiet_nil ?_
          rintro _ ⟨X, rfl⟩
          go_wp2_with fail
          go_meet
          exact ⟨rfl, exq⟩
        · have w3 : ((0 : Int) < (k : Int)) = False := eq_false (by omega)
          have w9 : (0 < k) = False := eq_false (by omega)
          clear ht h0
          refine wp_region_ext (by kernel_rfl) (by kernel_rfl) ?_
          repeat (go_big_quiet_step (fail))
          refine wpQuiet_nil ?_
          rintro _ ⟨X, rfl⟩
          go_wp2_with fail
          go_meet
          exact ⟨rfl, exq⟩
      case rest =>
        obtain ⟨rfl, hE9⟩ := hcut
        obtain ⟨X5, rfl⟩ := hE9
        clear ht
        go_upto_region 18 with (fail)
        go_cut [19] (fun c wx => c = .bool (toldAt (pickAt s.gain gain) (pickAt s.off off) ((tunes s).take (k + 1))) ∧ (World.ext _ X5).Exts wx)
        case first =>
          as_aux_lemma =>
          cases bt
          · by_cases hgx : t.gain = pickAt s.gain gain
            · have hgb2 : (t.gain == pickAt s.gain gain) = true := by simp [hgx]
              have hnew : toldAt (pickAt s.gain gain) (pickAt s.off off) ((tunes s).take (k + 1)) = inL [t.off] (pickAt s.off off) := by rw [HNT.out, inL_one]; simp [hgx]
              have HNEW := Lib.hid hnew
              clear hnew
              clear hgx
              go_wp2_with (go_at_call 33; refine (l04_in_any [t.off] _ (pickAt s.off off) _ (row_span1 _ t.off _ (by simp))).mono ?_; rintro e w' ⟨rfl, X6, rfl⟩)
              go_meet
              exact ⟨by rw [HNEW.out], exq⟩
            · have hgb2 : (t.gain == pickAt s.gain gain) = false := by simp [hgx]
              have hnew : toldAt (pickAt s.gain gain) (pickAt s.off off) ((tunes s).take (k + 1)) = false := by rw [HNT.out]; simp [hgx]
              have HNEW := Lib.hid hnew
              clear hnew
              clear hgx
              go_wp2_with fail
              go_meet
              exact ⟨by rw [HNEW.out], exq⟩
          · have hnew : toldAt (pickAt s.gain gain) (pickAt s.off off) ((tunes s).take (k + 1)) = true := by rw [HNT.out]; simp
            have HNEW := Lib.hid hnew
            clear hnew
            go_wp2_with fail
            go_meet
            exact ⟨by rw [HNEW.out], exq⟩
        case rest =>
        obtain ⟨rfl, hE9⟩ := hcut
        obtain ⟨X6, rfl⟩ := hE9
        go_upto_region 20 with (fail)
        obtain ⟨V2, hV2⟩ : ∃ V2, (World.ext _ X6).alloc (.cells #[.int .i64 t.off.lo, .int .i64 t.off.hi] 3) = V2 := ⟨_, rfl⟩
        have hEV2 : V.Exts V2 := by rw [← hV2]; exact exq
        have hEW2 := hEV.trans hEV2
        have hrow2 : IsRow (fun x : Int => [.int .i64 x]) 1 V2 (.slice (some ⟨(World.ext _ X6).heap.size, 0, none⟩) 2 2) [t.off.lo, t.off.hi] := by rw [← hV2]; exact row_two _ _ _
        have t0 : V2.cell? ⟨(World.ext V X4).heap.size, 0, none⟩ = some (.int .i64 t.gain) := by rw [← hV2]; simp [go_sem]
        have t1 : V2.cell? ⟨(World.ext V X4).heap.size, 1, none⟩ = some (.int .i64 t.off.lo) := by rw [← hV2]; simp [go_sem]
        have t2 : V2.cell? ⟨(World.ext V X4).heap.size, 2, none⟩ = some (.int .i64 t.off.hi) := by rw [← hV2]; simp [go_sem]
        rw [hV2]
        clear hV2
        generalize (World.ext _ X6).heap.size = nb at *
        generalize (World.ext V X4).heap.size = nt at *
        obtain ⟨p9, b9, o9, c9, e, -, hp9, hc9⟩ := hrow2.ex
        simp only [Value.slice.injEq] at e
        obtain ⟨rfl, -, rfl⟩ := e
        obtain ⟨e9, hl9⟩ := hp9 (by simp)
        simp only [Option.some.injEq, Addr.mk.injEq] at e9
        obtain ⟨rfl, rfl, -⟩ := e9
        have n4 := Lays.of_cell t0
        have u0 := hEV2.cell d0
        have u1 := hEV2.cell d1
        have v0 := hEV2.cell b0
        have v1 := hEV2.cell b1
        have v2 := hEV2.cell b2
        have v3 := hEV2.cell b3
        have v4 := hEV2.cell b4
        have v5 := hEV2.cell b5
        have v6 := hEV2.cell b6
        have y1 := Lays.of_cell u0
        have y2 := Lays.of_cell v0
        have HC9 := Lib.hid hc9
        clear hc9
        clear hp9 hrow2
        go_loopw [20, 21, 197] (fun lo hi i wr => ∃ (k2 : Nat) (b1 b2 : Bool), k2 ≤ 2 ∧ i = .int .i64 k2 ∧ lo = .bool b1 ∧ hi = .bool b2 ∧ Hid (b1 = (bl2 || ([t.off.lo, t.off.hi].take k2).any fun o => decide (readAt s.step (weight % 1000001) t.gain o = (readsOf s.step (weight % 1000001) (tunes s)).lo))) ∧
          Hid (b2 = (bh || ([t.off.lo, t.off.hi].take k2).any fun o => decide (readAt s.step (weight % 1000001) t.gain o = (readsOf s.step (weight % 1000001) (tunes s)).hi))) ∧ V2.Exts wr) (fun _ _ i _ => 2 - (intOf i).toNat)
        case atStart => exact ⟨0, bl2, bh, by omega, rfl, rfl, rfl, Lib.hid (by simp), Lib.hid (by simp), exq⟩
        case round =>
          obtain ⟨k2, b1', b2', hk2, rfl, rfl, rfl, HB1, HB2, hE⟩ := hrel
          obtain ⟨X7, rfl⟩ := hE
          by_cases hlt2 : k2 < 2
          · obtain ⟨o, hoi⟩ := some_of_lt (xs := [t.off.lo, t.off.hi]) (k := k2) (by simpa using hlt2)
            have z0 := HC9.out k2 o hoi 0 _ rfl
            simp only [Nat.mul_one, Nat.add_zero, Nat.zero_add] at z0
            have hoin : t.off.lo ≤ o ∧ o ≤ t.off.hi := by
              have := List.mem_of_getElem? hoi
              simp at this
              rcases this with rfl | rfl <;> omega
            obtain ⟨hr1, hr2⟩ := HRD.out t htm o hoin
            have htrue := HTT.out t htm o hoin
            have hn1 : b1' = (bl2 || ([t.off.lo, t.off.hi].take k2).any fun o => decide (readAt s.step (weight % 1000001) t.gain o = (readsOf s.step (weight % 1000001) (tunes s)).lo)) := HB1.out
            have hx1 : (bl2 || ([t.off.lo, t.off.hi].take (k2 + 1)).any fun o => decide (readAt s.step (weight % 1000001) t.gain o = (readsOf s.step (weight % 1000001) (tunes s)).lo)) = (b1' || decide (readAt s.step (weight % 1000001) t.gain o = (readsOf s.step (weight % 1000001) (tunes s)).lo)) := by rw [take_snoc hoi, HB1.out]; simp [Bool.or_assoc]
            have hx2 : (bh || ([t.off.lo, t.off.hi].take (k2 + 1)).any fun o => decide (readAt s.step (weight % 1000001) t.gain o = (readsOf s.step (weight % 1000001) (tunes s)).hi)) = (b2' || decide (readAt s.step (weight % 1000001) t.gain o = (readsOf s.step (weight % 1000001) (tunes s)).hi)) := by rw [take_snoc hoi, HB2.out]; simp [Bool.or_assoc]
            have hcr := fun (W : World) => l04_reads_any s (.slice qt s.trials.length ct) t.gain o (weight % 1000001) W hst ⟨by omega, by omega⟩ ⟨by omega, by omega⟩ hw1
            have hct := fun (W : World) (hE : w.Exts W) => r04_True_any s (.slice qt s.trials.length ct) t.gain o W (HR.out.mono hE) HRT.out ⟨by omega, by omega⟩ ⟨by omega, by omega⟩
            rw [htrue] at hct
            generalize readAt s.step (weight % 1000001) t.gain o = rd at *
            have q1 : decide (rd < (readsOf s.step (weight % 1000001) (tunes s)).lo) = false := by simp; omega
            have q2 : decide ((readsOf s.step (weight % 1000001) (tunes s)).hi < rd) = false := by simp; omega
            have HX1 := Lib.hid hx1
            clear hx1
            have HX2 := Lib.hid hx2
            clear hx2
            have HCR := Lib.hid hcr
            clear hcr
            have HCT := Lib.hid hct
            clear hct
            clear hn1 HB1 HB2 hoi htrue
            cases b1' <;> cases b2'
            all_goals
              as_aux_lemma =>
              go_wp2_with (first
                | (go_at_call 26; refine (HCR.out _).mono ?_; rintro e w' ⟨rfl, X8, rfl⟩)
                | (go_at_call 37; refine (HCT.out _ (exf hEW2)).mono ?_; rintro e w' ⟨rfl, X9, rfl⟩))
              refine wp_region_ext (by kernel_rfl) (by kernel_rfl) ?_
              repeat (go_big_quiet_step (fail))
              refine wpQuiet_nil ?_
              rintro _ ⟨X, rfl⟩
              go_wp2_with fail
              go_roundw
              case rel => exact ⟨k2 + 1, _, _, by omega, by go_num, rfl, rfl, Lib.hid (by rw [HX1.out]; first | (simp; done) | (simp; rfl)), Lib.hid (by rw [HX2.out]; first | (simp; done) | (simp; rfl)), exq⟩
              case measure => simp [intOf]; omega
          · have hkn2 : k2 = 2 := by omega
            have h1 := HB1.out
            have h2 := HB2.out
            rw [hkn2] at h1 h2
            have g1 : b1' = endAt s.step (weight % 1000001) (readsOf s.step (weight % 1000001) (tunes s)).lo ((tunes s).take (k + 1)) := by rw [h1, HNL.out]; simp
            have g2 : b2' = endAt s.step (weight % 1000001) (readsOf s.step (weight % 1000001) (tunes s)).hi ((tunes s).take (k + 1)) := by rw [h2, HNH.out]; simp
            clear h1 h2 HB1 HB2
            have G1 := Lib.hid g1
            clear g1
            have G2 := Lib.hid g2
            clear g2
            go_wp2_with fail
            exact ⟨⟨k + 1, _, _, _, by omega, by go_num, rfl, rfl, rfl, Lib.hid rfl, G1, G2, hEV2.trans exq⟩, by simp [intOf]; omega⟩
    · have hkn : k = (tunes s).length := by omega
      have h1 := HT.out
      have h2 := HL.out
      have h3 := HH.out
      rw [hkn, List.take_length] at h1 h2 h3
      rw [HTOLD.out] at h1
      have hbe : er = 0 → bl2 = true ∧ bh = true := fun h0 => by
        have hne : tunes s ≠ [] := fun h => by have := HER.out; rw [if_pos h] at this; omega
        exact ⟨h2.trans (HLO.out hne), h3.trans (HHI.out hne)⟩
      have her2 : er = 0 ∨ er = 6 := by have := HER.out; split at this <;> omega
      clear hkn HT HL HH h2 h3
      have HBE := Lib.hid hbe
      clear hbe
      have HER2 := Lib.hid her2
      clear her2
      have hxb : (-10 ≤ pickAt s.gain gain ∧ pickAt s.gain gain ≤ 10) ∧ (-100 ≤ pickAt s.off off ∧ pickAt s.off off ≤ 100) := by omega
      have hcr := fun (W : World) => l04_reads_any s (.slice qt s.trials.length ct) (pickAt s.gain gain) (pickAt s.off off) (weight % 1000001) W hst hxb.1 hxb.2 hw1
      have hct := fun (W : World) (hE : w.Exts W) => r04_True_any s (.slice qt s.trials.length ct) (pickAt s.gain gain) (pickAt s.off off) W (HR.out.mono hE) HRT.out hxb.1 hxb.2
      have hrt2 := reads_true (s := s) HRT.out (w := weight % 1000001) (x := pickAt s.gain gain) (y := pickAt s.off off)
      have hmod := readAt_step s.step (weight % 1000001) (pickAt s.gain gain) (pickAt s.off off)
      rw [← h1] at hct hrt2
      have H1 := Lib.hid h1
      clear h1
      have HCR := Lib.hid hcr
      clear hcr
      have HCT := Lib.hid hct
      clear hct
      have hEX := hEV.trans (⟨X4, rfl⟩ : V.Exts (World.ext V X4))
      rename_i _ _ _ _ _ _ _ _ _ _ _ _ _ _ _ _ _ _ _ _ _ _ _ _ _ _ _ _ _ _ _ _ _ _ _ _ _ _ _ _ _ _ _ _ _ _ _ _ _ _ _ _ _ _ _ _ _ _ _ _ _ _ _ _ _ _ _ _ _ _ _ _ _ _ _ _ _ _ _ _ _ _ _ _ _ _ _ _ _ _ _ _ _ _ _ _ _ _ _ _ _ _ _ _ _ _ _ _ _ _ _ _ _ _ _ _ _ _ _ _ _ _ _ _
      revert s gain off weight more w hgb hob hwb qt ct HR HCD h10 hid hst h6 hgn1 hgn2 hgn3 hof1 hof2 hof3 hx hy hw1 E1 E2 E3 E4 F1 F2 F3 F4 HRT i9_1_1 X0 i9_1_2 X1 i9_1_3 X er HTU HRE HER X2 ql bl ol cl hml X3 u36 u37 u38 u39 u40 u41 u42 u43 u44 u45 u46 u47 u48 u49 u50 u51 u52 u53 u54 u55 u56 u57 u58 u59 u60 u61 u62 u63 u64 u65 u66 u67 u68 u69 u70 u71 u72 u73 u74 u75 u76 u77 u78 u79 u80 u81 u82 u83 u84 u85 u86 u87 u88 u89 u90 u91 u92 u93 u94 u95 u96 u97 u98 u99 u100 u101 u102 u103 u104 u105 u106 u107 u108 u109 u110 u242 u243 u244 u245 u246 u247 u248 u249 u250 u251 u252 u253 u254 u255 u256 u257 u258 u259 u260 u261 u262 u263 u264 u265 u266 u267 u268 u269 u270 u271 u272 u273 u274 u275 u276 u277 u278 u279 u280 u281 u282 u283 u284 u285 u286 u287 u288 u289 u290 u291 u292 u293 u294 u295 u296 u297 u298 u299 u300 u301 u305 u306 u307 u311 u312 u313 u314 u315 u316 u317 u318 u319 u320 u321 u322 u323 u324 u325 u326 u327 u328 u329 u330 u331 u332 u333 u334 u335 u336 u337 u338 u339 u340 u341 u342 u343 u344 u345 u346 u347 u348 u349 u350 u351 u352 X35 i9_1_4 i9_1_5 V hEV b0 b1 b2 b3 b4 b5 b6 m0 m1 br d0 d1 n1 n2 n3 bl' ol' HPL HCL HTB HRD HTI HTT HINC HLO HHI HTOLD HLV u10 u22 u23 u25 u26 u115 u116 u117 u118 u119 u120 u121 u122 u123 u124 u125 u126 u127 u128 u129 u130 u131 u132 u133 u134 u135 u136 u137 u138 u139 u140 u141 u142 u143 u144 u145 u146 u147 u148 u149 u150 u151 u152 u153 u154 u155 u156 u157 u158 u159 u160 u161 u162 u163 u164 u165 u166 u167 u168 u169 u170 u171 u172 u173 u174 u175 u176 u177 u178 u179 u180 u181 u182 u183 u184 u185 u186 u187 u188 u189 u190 u191 u192 u193 u194 u195 u196 u197 u198 u199 u200 u201 u202 u203 u204 u205 u206 u207 u208 u209 u210 u211 u212 u213 u214 u215 u216 u217 u218 u219 u220 u221 u222 u223 u224 u225 u226 u227 u228 u229 u230 u231 u232 u233 u234 u235 u236 u237 u238 u239 u240 u241 k bt bl2 bh hk X4 hlt HBE HER2 hxb hrt2 hmod H1 HCR HCT hEX
      exact HG.out
end Go.Proofs.YtfjkiemjmnnbkaaGreatDoor
