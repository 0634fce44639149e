/-
  Several texts in one: see the heads of its parts.
-/
import Derived.Test.YtfjkiemjmnnbkaaGreatDoorLWdP

/-
  The law ScaleWider: its walk.
-/
namespace Go.Proofs.YtfjkiemjmnnbkaaGreatDoor
open Go.RowKit Kr
set_option linter.unusedSimpArgs false

set_option maxRecDepth 100000 in
set_option maxHeartbeats 8000000 in
noncomputable def l04wd_any_c6 : { G : Prop // G → l04wd_any_c5.val } := by
  apply Subtype.mk
  case property =>
  intro hG
  have HG := Lib.hid hG
  clear hG
  intro ts g n more by_ w q0 cp0 q1 cp1 q2 cp2 q3 cp3 HB HL HR HS HWF HCD qb cb HBY HBB hg1 hg3 hg4 hg5 HRD HGA HG2 HN h0 hb0 er HCK HT1 HER HER4 i9_1_1 qv1 cv1 A hwA i9_4_1 i9_4_2 i9_4_3 i9_4_4 i9_4_5 i9_4_6 i9_4_7 i9_4_8 i9_4_9 i9_4_10 i9_4_11 i9_4_12 i9_4_13 i9_4_14 i9_4_15 i9_4_16 i9_4_17 i9_4_18 i9_4_19 i9_4_20 i9_4_21 i9_4_22 i9_4_23 i9_4_24 i9_4_25 i9_4_26 i9_4_27 i9_4_28 i9_4_29 i9_4_30 i9_4_31 i9_4_32 i9_4_33 i9_4_34 i9_4_35 i9_4_36 i9_4_37 i9_4_38 i9_4_39 i9_4_40 i9_4_41 i9_4_42 i9_4_43 i9_4_44 i9_4_45 i9_4_46 i9_4_47 i9_4_48 i9_4_49 i9_4_50 i9_4_51 i9_4_52 i9_4_53 i9_4_54 i9_4_55 i9_4_56 i9_4_57 i9_4_58 i9_4_59 i9_4_60 i9_4_61 i9_4_62 i9_4_63 i9_4_64 i9_4_65 i9_4_66 i9_4_67 i9_4_68 i9_4_69 i9_4_70 i9_4_71 i9_4_72 i9_4_73 i9_4_74 i9_4_75 i9_4_76 i9_4_77 i9_4_78 i9_4_79 i9_4_80 i9_4_81 i9_4_82 i9_4_83 i9_4_84 i9_4_85 i9_4_86 i9_4_87 i9_4_88 i9_4_89 i9_4_90 i9_4_91 i9_4_92 i9_4_93 i9_4_94 i9_4_95 i9_4_96 i9_4_97 i9_4_98 i9_4_99 i9_4_100 i9_4_101 i9_4_102 i9_4_103 i9_4_104 i9_4_105 i9_4_106 i9_4_107 i9_4_108 i9_4_109 i9_4_110 i9_4_111 i9_4_112 i9_4_113 i9_4_114 i9_4_115 i9_4_116 i9_4_117 i9_4_118 i9_4_119 i9_4_120 i9_4_121 i9_4_122 i9_4_123 i9_4_124 i9_4_125 i9_4_126 i9_4_127 i9_4_128 i9_4_129 i9_4_130 i9_4_131 i9_4_132 i9_4_133 i9_4_134 i9_4_135 i9_4_136 i9_4_137 i9_4_138 i9_4_139 i9_4_140 i9_4_141 i9_4_142 i9_4_143 i9_4_144 i9_4_145 i9_4_146 i9_4_147 i9_4_148 i9_4_149 i9_4_150 i9_4_151 i9_4_152 i9_4_153 i9_4_154 i9_4_155 i9_4_156 i9_4_157 i9_4_158 i9_4_159 i9_4_160 i9_4_161 i9_4_162 i9_4_163 i9_4_164 i9_4_165 i9_4_166 i9_4_167 i9_4_168 i9_4_169 i9_4_170 i9_4_171 i9_4_172 i9_4_173 i9_4_174 i9_4_175 i9_4_176 i9_4_177 i9_4_178 i9_4_179 i9_4_180 i9_4_181 i9_4_182 i9_4_183 i9_4_184 i9_4_185 i9_4_186 i9_4_187 i9_4_188 i9_4_189 i9_4_190 i9_4_191 i9_4_192 i9_4_193 i9_4_194 i9_4_195 i9_4_196 i9_4_197 i9_4_198 i9_4_199 i9_4_200 i9_4_201 i9_4_202 i9_4_203 i9_4_204 i9_4_205 i9_4_206 i9_4_207 i9_4_208 i9_4_209 i9_4_210 i9_4_211 i9_4_212 i9_4_213 i9_4_214 i9_4_215 i9_4_216 i9_4_217 i9_4_218 i9_4_219 i9_4_220 i9_4_221 i9_4_222 i9_4_223 i9_4_224 i9_4_225 i9_4_226 i9_4_227 i9_4_228 i9_4_229 i9_4_230 i9_4_231 i9_4_232 kx hkl r0 ts1 gS i9_5_1 k2 hgS pb hpA W1 HSL s tv hts w4 w5 i9_5_2 listed i9_5_3 qv cv W2 ts2 X1 u10 u16 u17 u30 u31 u32 u33 u34 u35 u36 u37 u38 u39 u40 u41 u42 u43 u44 u45 u46 u47 u48 u49 u50 u51 u52 u53 u54 u55 u56 u57 u58 u59 u60 u61 u62 u63 u64 u65 u66 u67 u68 u69 u70 u71 u72 u73 u74 u75 u76 u77 u78 u79 u80 u81 u82 u83 u84 u85 u86 u87 u88 u89 u90 u91 u92 u93 u94 u95 u96 u97 u98 u99 u100 u101 u102 u103 u104 u105 u106 u107 u108 u109 u110 u111 u112 u113 u114 u115 u116 u117 u118 u119 u120 u121 u122 u123 u124 u125 u126 u127 u128 u129 u130 u131 u132 u133 u134 u135 u136 u137 u138 u139 u140 u141 u142 u143 u144 u145 u146 u147 u148 u149 u150 u151 u152 u153 u154 u155 u156 u157 u158 u159 u160 u161 u162 u163 u164 u165 u166 u167 u168 u169 u170 u171 u172 u173 u174 u175 u176 u177 u178 u179 u180 u181 u182 u183 u184 u185 u186 u187 u188 u189 u190 u191 u192 u193 u194 u195 u196 u197 u198 u199 u200 u201 u202 u203 u204 u205 u206 u207 u208 u209 u210 u211 u212 u213 u214 u215 u216 u217 u218 u219 u220 u221 u222 u223 u224 u225 u226 u227 u228 u229 u230 u231 u232 u233 u234 u235 u236 u237 u238 u239 u240 u241 u242 u245 u246 u247 u248 u249 u250 u251 u252 u253 u254 u255 u256 u257 u258 u259 u260 u261 u262 u263 u264 V hEx hwV a0 g0 g1 g2 g3 g4 g5 g6 g7 m0 m1 m2 m3 m4 m5 m6 l1 l2 l3 HW1 ν W ts' p4 p5 b1 b2 b3 cS qL cL qR cR qK cK gT HSL2 HTS i9_5_4 i9_5_5 V5 HTU
  obtain ⟨⟨s', tv'⟩, hs2⟩ := some_of_lt (xs := ts') (k := kx) (by rw [HSL2.out]; exact hkl)
  have hks : (ts.map Prod.fst)[kx]? = some s' := by rw [← HTS.out, List.getElem?_map, hs2]; rfl
  have hrs : right s' = true := bayOk_right (check_zero HCK.out).1 _ (List.mem_of_getElem? hks)
  obtain ⟨hid, hst, hgn, hof, -, -⟩ := right_bounds hrs
  have w4 : (0 : Int) ≤ (kx : Int) := by omega
  have w5 : (kx : Int) < (ts'.length : Int) := by rw [HSL2.out]; omega
  have p4c := LaysAs.cell HTU.out.o4 0 _ rfl
  have np4 := Lays.of_cell p4c
  have k2 := HTU.out.cellS (j := 2) hs2 rfl
  have k3 := HTU.out.cellS (j := 3) hs2 rfl
  obtain ⟨c2, f2'⟩ := k2
  obtain ⟨c3, f3'⟩ := k3
  dsimp only at c2 c3
  have ns := Lays.of_cell c2
  have HS2 := Lib.hid hs2
  clear hs2
  have HKS := Lib.hid hks
  clear hks
  clear hrs hid
  go_upto_region 18 with (fail)
  have ch1 := chooseL_bd HBB.out 1
  have ch2 := chooseL_bd HBB.out 2
  have wb1 := wcT_bd by_ 1 (show (0 : Int) < 4 by omega)
  have wb2 := wcT_bd by_ 2 (show (0 : Int) < 4 by omega)
  have e1 : (chooseL by_ 1).tmod 4 = wcT by_ 1 4 := Int.tmod_eq_emod_of_nonneg ch1.1
  have e2 : (chooseL by_ 2).tmod 4 = wcT by_ 2 4 := Int.tmod_eq_emod_of_nonneg ch2.1
  have f1 : IntKind.i64.wrap (s'.gain.lo - wcT by_ 1 4) = s'.gain.lo - wcT by_ 1 4 := IntWalk.i64_in _ (by omega)
  have f2 : IntKind.i64.wrap (s'.gain.hi + wcT by_ 2 4) = s'.gain.hi + wcT by_ 2 4 := IntWalk.i64_in _ (by omega)
  generalize hr1 : chooseL by_ 1 = r1 at e1
  generalize hr2 : chooseL by_ 2 = r2 at e2
  have HR1 := Lib.hid hr1
  clear hr1
  have HR2 := Lib.hid hr2
  clear hr2
  clear ch1 ch2 wb1 wb2
  have hEw := hwV.trans HTU.out.ext
  refine wp_region_ext_tail 24 (by kernel_rfl) (by kernel_rfl) ?_
  simp only [List.take_succ_cons, List.take_zero, List.drop_succ_cons, List.drop_zero]
  repeat (go_big_quiet_step ((first | (go_at_call 25; first | exact Calls.in_ext_eq (l04_choose_at by_ _ 1 _ _ (HBY.out.mono (hEw.trans ⟨_, rfl⟩)) HBB.out (by omega) rfl) (by rw [HR1.out]) | exact Calls.in_ext_eq (l04_choose_at by_ _ 2 _ _ (HBY.out.mono (hEw.trans ⟨_, rfl⟩)) HBB.out (by omega) rfl) (by rw [HR2.out])) | (go_at_call 47; exact Calls.in_ext (l04_span_any _ _ _)))))
  refine wpQuiet_nil ?_
  rintro _ ⟨X, rfl⟩
  go_upto_region 19 with (fail)
  have hT6 := (HTU.out.exts (W' := World.ext V5 X) ⟨X, rfl⟩).putGain HS2.out (max (-10) (s'.gain.lo - wcT by_ 1 4)) (min 10 (s'.gain.hi + wcT by_ 2 4))
  generalize hW6 : World.setCell _ ⟨gT, kx * 7 + 2 + 1, none⟩ _ = W6
  rw [show kx * 7 + 3 = kx * 7 + 2 + 1 from rfl, hW6] at hT6
  clear hW6 c2 c3 f2' f3' ns e1 e2 f1 f2 HR1 HR2 hEw X HTU p4c np4
  have hs3 : (ts'.set kx ({ s' with gain := ⟨max (-10) (s'.gain.lo - wcT by_ 1 4), min 10 (s'.gain.hi + wcT by_ 2 4)⟩ }, tv'))[kx]? = some ({ s' with gain := ⟨max (-10) (s'.gain.lo - wcT by_ 1 4), min 10 (s'.gain.hi + wcT by_ 2 4)⟩ }, tv') := List.getElem?_set_self (lt_of_some HS2.out)
  have HT6 := Lib.hid hT6
  clear hT6
  obtain ⟨c4, f4'⟩ := HT6.out.cellS (j := 4) hs3 rfl
  obtain ⟨c5, f5'⟩ := HT6.out.cellS (j := 5) hs3 rfl
  dsimp only at c4 c5
  have ns := Lays.of_cell c4
  have HS3 := Lib.hid hs3
  clear hs3
  have ch1 := chooseL_bd HBB.out 3
  have ch2 := chooseL_bd HBB.out 4
  have wb1 := wcT_bd by_ 3 (show (0 : Int) < 30 by omega)
  have wb2 := wcT_bd by_ 4 (show (0 : Int) < 30 by omega)
  have e1 : (chooseL by_ 3).tmod 30 = wcT by_ 3 30 := Int.tmod_eq_emod_of_nonneg ch1.1
  have e2 : (chooseL by_ 4).tmod 30 = wcT by_ 4 30 := Int.tmod_eq_emod_of_nonneg ch2.1
  have f1 : IntKind.i64.wrap (s'.off.lo - wcT by_ 3 30) = s'.off.lo - wcT by_ 3 30 := IntWalk.i64_in _ (by omega)
  have f2 : IntKind.i64.wrap (s'.off.hi + wcT by_ 4 30) = s'.off.hi + wcT by_ 4 30 := IntWalk.i64_in _ (by omega)
  generalize hr1 : chooseL by_ 3 = r1 at e1
  generalize hr2 : chooseL by_ 4 = r2 at e2
  have HR1 := Lib.hid hr1
  clear hr1
  have HR2 := Lib.hid hr2
  clear hr2
  clear ch1 ch2 wb1 wb2
  have hEw := hwV.trans HT6.out.ext
  refine wp_region_ext_tail 24 (by kernel_rfl) (by kernel_rfl) ?_
  simp only [List.take_succ_cons, List.take_zero, List.drop_succ_cons, List.drop_zero]
  repeat (go_big_quiet_step ((first | (go_at_call 25; first | exact Calls.in_ext_eq (l04_choose_at by_ _ 3 _ _ (HBY.out.mono (hEw.trans ⟨_, rfl⟩)) HBB.out (by omega) rfl) (by rw [HR1.out]) | exact Calls.in_ext_eq (l04_choose_at by_ _ 4 _ _ (HBY.out.mono (hEw.trans ⟨_, rfl⟩)) HBB.out (by omega) rfl) (by rw [HR2.out])) | (go_at_call 47; exact Calls.in_ext (l04_span_any _ _ _)))))
  refine wpQuiet_nil ?_
  rintro _ ⟨X, rfl⟩
  go_upto_region 20 with (fail)
  have hT7 := (HT6.out.exts (W' := World.ext W6 X) ⟨X, rfl⟩).putOff HS3.out (max (-100) (s'.off.lo - wcT by_ 3 30)) (min 100 (s'.off.hi + wcT by_ 4 30))
  generalize hW7 : World.setCell _ ⟨gT, kx * 7 + 4 + 1, none⟩ _ = W7
  rw [show kx * 7 + 5 = kx * 7 + 4 + 1 from rfl, hW7, List.set_set] at hT7
  replace hT7 := (show (({ ({ s' with gain := ⟨max (-10) (s'.gain.lo - wcT by_ 1 4), min 10 (s'.gain.hi + wcT by_ 2 4)⟩ } : Kr.Scale) with off := ⟨max (-100) (s'.off.lo - wcT by_ 3 30), min 100 (s'.off.hi + wcT by_ 4 30)⟩ } : Kr.Scale), tv') = (wideS by_ s', tv') from rfl) ▸ hT7
  clear hW7 c4 c5 f4' f5' ns e1 e2 f1 f2 HR1 HR2 hEw X HT6 HS3 hgn hof hst w4 w5 HS2
  have HT7 := Lib.hid hT7
  clear hT7
  rename_i i9_6_1 i9_6_2 i9_6_3 i9_6_4
  revert ts g n more by_ w q0 cp0 q1 cp1 q2 cp2 q3 cp3 HB HL HR HS HWF HCD qb cb HBY HBB hg1 hg3 hg4 hg5 HRD HGA HG2 HN h0 hb0 er HCK HT1 HER HER4 i9_1_1 qv1 cv1 A hwA i9_4_1 i9_4_2 i9_4_3 i9_4_4 i9_4_5 i9_4_6 i9_4_7 i9_4_8 i9_4_9 i9_4_10 i9_4_11 i9_4_12 i9_4_13 i9_4_14 i9_4_15 i9_4_16 i9_4_17 i9_4_18 i9_4_19 i9_4_20 i9_4_21 i9_4_22 i9_4_23 i9_4_24 i9_4_25 i9_4_26 i9_4_27 i9_4_28 i9_4_29 i9_4_30 i9_4_31 i9_4_32 i9_4_33 i9_4_34 i9_4_35 i9_4_36 i9_4_37 i9_4_38 i9_4_39 i9_4_40 i9_4_41 i9_4_42 i9_4_43 i9_4_44 i9_4_45 i9_4_46 i9_4_47 i9_4_48 i9_4_49 i9_4_50 i9_4_51 i9_4_52 i9_4_53 i9_4_54 i9_4_55 i9_4_56 i9_4_57 i9_4_58 i9_4_59 i9_4_60 i9_4_61 i9_4_62 i9_4_63 i9_4_64 i9_4_65 i9_4_66 i9_4_67 i9_4_68 i9_4_69 i9_4_70 i9_4_71 i9_4_72 i9_4_73 i9_4_74 i9_4_75 i9_4_76 i9_4_77 i9_4_78 i9_4_79 i9_4_80 i9_4_81 i9_4_82 i9_4_83 i9_4_84 i9_4_85 i9_4_86 i9_4_87 i9_4_88 i9_4_89 i9_4_90 i9_4_91 i9_4_92 i9_4_93 i9_4_94 i9_4_95 i9_4_96 i9_4_97 i9_4_98 i9_4_99 i9_4_100 i9_4_101 i9_4_102 i9_4_103 i9_4_104 i9_4_105 i9_4_106 i9_4_107 i9_4_108 i9_4_109 i9_4_110 i9_4_111 i9_4_112 i9_4_113 i9_4_114 i9_4_115 i9_4_116 i9_4_117 i9_4_118 i9_4_119 i9_4_120 i9_4_121 i9_4_122 i9_4_123 i9_4_124 i9_4_125 i9_4_126 i9_4_127 i9_4_128 i9_4_129 i9_4_130 i9_4_131 i9_4_132 i9_4_133 i9_4_134 i9_4_135 i9_4_136 i9_4_137 i9_4_138 i9_4_139 i9_4_140 i9_4_141 i9_4_142 i9_4_143 i9_4_144 i9_4_145 i9_4_146 i9_4_147 i9_4_148 i9_4_149 i9_4_150 i9_4_151 i9_4_152 i9_4_153 i9_4_154 i9_4_155 i9_4_156 i9_4_157 i9_4_158 i9_4_159 i9_4_160 i9_4_161 i9_4_162 i9_4_163 i9_4_164 i9_4_165 i9_4_166 i9_4_167 i9_4_168 i9_4_169 i9_4_170 i9_4_171 i9_4_172 i9_4_173 i9_4_174 i9_4_175 i9_4_176 i9_4_177 i9_4_178 i9_4_179 i9_4_180 i9_4_181 i9_4_182 i9_4_183 i9_4_184 i9_4_185 i9_4_186 i9_4_187 i9_4_188 i9_4_189 i9_4_190 i9_4_191 i9_4_192 i9_4_193 i9_4_194 i9_4_195 i9_4_196 i9_4_197 i9_4_198 i9_4_199 i9_4_200 i9_4_201 i9_4_202 i9_4_203 i9_4_204 i9_4_205 i9_4_206 i9_4_207 i9_4_208 i9_4_209 i9_4_210 i9_4_211 i9_4_212 i9_4_213 i9_4_214 i9_4_215 i9_4_216 i9_4_217 i9_4_218 i9_4_219 i9_4_220 i9_4_221 i9_4_222 i9_4_223 i9_4_224 i9_4_225 i9_4_226 i9_4_227 i9_4_228 i9_4_229 i9_4_230 i9_4_231 i9_4_232 kx hkl r0 ts1 gS i9_5_1 k2 hgS pb hpA W1 HSL s tv hts w4 w5 i9_5_2 listed i9_5_3 qv cv W2 ts2 X1 u10 u16 u17 u30 u31 u32 u33 u34 u35 u36 u37 u38 u39 u40 u41 u42 u43 u44 u45 u46 u47 u48 u49 u50 u51 u52 u53 u54 u55 u56 u57 u58 u59 u60 u61 u62 u63 u64 u65 u66 u67 u68 u69 u70 u71 u72 u73 u74 u75 u76 u77 u78 u79 u80 u81 u82 u83 u84 u85 u86 u87 u88 u89 u90 u91 u92 u93 u94 u95 u96 u97 u98 u99 u100 u101 u102 u103 u104 u105 u106 u107 u108 u109 u110 u111 u112 u113 u114 u115 u116 u117 u118 u119 u120 u121 u122 u123 u124 u125 u126 u127 u128 u129 u130 u131 u132 u133 u134 u135 u136 u137 u138 u139 u140 u141 u142 u143 u144 u145 u146 u147 u148 u149 u150 u151 u152 u153 u154 u155 u156 u157 u158 u159 u160 u161 u162 u163 u164 u165 u166 u167 u168 u169 u170 u171 u172 u173 u174 u175 u176 u177 u178 u179 u180 u181 u182 u183 u184 u185 u186 u187 u188 u189 u190 u191 u192 u193 u194 u195 u196 u197 u198 u199 u200 u201 u202 u203 u204 u205 u206 u207 u208 u209 u210 u211 u212 u213 u214 u215 u216 u217 u218 u219 u220 u221 u222 u223 u224 u225 u226 u227 u228 u229 u230 u231 u232 u233 u234 u235 u236 u237 u238 u239 u240 u241 u242 u245 u246 u247 u248 u249 u250 u251 u252 u253 u254 u255 u256 u257 u258 u259 u260 u261 u262 u263 u264 V hEx hwV a0 g0 g1 g2 g3 g4 g5 g6 g7 m0 m1 m2 m3 m4 m5 m6 l1 l2 l3 HW1 ν W ts' p4 p5 b1 b2 b3 cS qL cL qR cR qK cK gT HSL2 HTS V5 s' tv' HKS i9_6_1 i9_6_2 W6 r1 r2 i9_6_3 i9_6_4 W7 HT7
  exact HG.out
end Go.Proofs.YtfjkiemjmnnbkaaGreatDoor

/-
  The law ScaleWider: its walk.
-/
namespace Go.Proofs.YtfjkiemjmnnbkaaGreatDoor
open Go.RowKit Kr
set_option linter.unusedSimpArgs false

set_option maxRecDepth 100000 in
set_option maxHeartbeats 8000000 in
noncomputable def l04wd_any_c7 : { G : Prop // G → l04wd_any_c6.val } := by
  apply Subtype.mk
  case property =>
  intro hG
  have HG := Lib.hid hG
  clear hG
  intro ts g n more by_ w q0 cp0 q1 cp1 q2 cp2 q3 cp3 HB HL HR HS HWF HCD qb cb HBY HBB hg1 hg3 hg4 hg5 HRD HGA HG2 HN h0 hb0 er HCK HT1 HER HER4 i9_1_1 qv1 cv1 A hwA i9_4_1 i9_4_2 i9_4_3 i9_4_4 i9_4_5 i9_4_6 i9_4_7 i9_4_8 i9_4_9 i9_4_10 i9_4_11 i9_4_12 i9_4_13 i9_4_14 i9_4_15 i9_4_16 i9_4_17 i9_4_18 i9_4_19 i9_4_20 i9_4_21 i9_4_22 i9_4_23 i9_4_24 i9_4_25 i9_4_26 i9_4_27 i9_4_28 i9_4_29 i9_4_30 i9_4_31 i9_4_32 i9_4_33 i9_4_34 i9_4_35 i9_4_36 i9_4_37 i9_4_38 i9_4_39 i9_4_40 i9_4_41 i9_4_42 i9_4_43 i9_4_44 i9_4_45 i9_4_46 i9_4_47 i9_4_48 i9_4_49 i9_4_50 i9_4_51 i9_4_52 i9_4_53 i9_4_54 i9_4_55 i9_4_56 i9_4_57 i9_4_58 i9_4_59 i9_4_60 i9_4_61 i9_4_62 i9_4_63 i9_4_64 i9_4_65 i9_4_66 i9_4_67 i9_4_68 i9_4_69 i9_4_70 i9_4_71 i9_4_72 i9_4_73 i9_4_74 i9_4_75 i9_4_76 i9_4_77 i9_4_78 i9_4_79 i9_4_80 i9_4_81 i9_4_82 i9_4_83 i9_4_84 i9_4_85 i9_4_86 i9_4_87 i9_4_88 i9_4_89 i9_4_90 i9_4_91 i9_4_92 i9_4_93 i9_4_94 i9_4_95 i9_4_96 i9_4_97 i9_4_98 i9_4_99 i9_4_100 i9_4_101 i9_4_102 i9_4_103 i9_4_104 i9_4_105 i9_4_106 i9_4_107 i9_4_108 i9_4_109 i9_4_110 i9_4_111 i9_4_112 i9_4_113 i9_4_114 i9_4_115 i9_4_116 i9_4_117 i9_4_118 i9_4_119 i9_4_120 i9_4_121 i9_4_122 i9_4_123 i9_4_124 i9_4_125 i9_4_126 i9_4_127 i9_4_128 i9_4_129 i9_4_130 i9_4_131 i9_4_132 i9_4_133 i9_4_134 i9_4_135 i9_4_136 i9_4_137 i9_4_138 i9_4_139 i9_4_140 i9_4_141 i9_4_142 i9_4_143 i9_4_144 i9_4_145 i9_4_146 i9_4_147 i9_4_148 i9_4_149 i9_4_150 i9_4_151 i9_4_152 i9_4_153 i9_4_154 i9_4_155 i9_4_156 i9_4_157 i9_4_158 i9_4_159 i9_4_160 i9_4_161 i9_4_162 i9_4_163 i9_4_164 i9_4_165 i9_4_166 i9_4_167 i9_4_168 i9_4_169 i9_4_170 i9_4_171 i9_4_172 i9_4_173 i9_4_174 i9_4_175 i9_4_176 i9_4_177 i9_4_178 i9_4_179 i9_4_180 i9_4_181 i9_4_182 i9_4_183 i9_4_184 i9_4_185 i9_4_186 i9_4_187 i9_4_188 i9_4_189 i9_4_190 i9_4_191 i9_4_192 i9_4_193 i9_4_194 i9_4_195 i9_4_196 i9_4_197 i9_4_198 i9_4_199 i9_4_200 i9_4_201 i9_4_202 i9_4_203 i9_4_204 i9_4_205 i9_4_206 i9_4_207 i9_4_208 i9_4_209 i9_4_210 i9_4_211 i9_4_212 i9_4_213 i9_4_214 i9_4_215 i9_4_216 i9_4_217 i9_4_218 i9_4_219 i9_4_220 i9_4_221 i9_4_222 i9_4_223 i9_4_224 i9_4_225 i9_4_226 i9_4_227 i9_4_228 i9_4_229 i9_4_230 i9_4_231 i9_4_232 kx hkl r0 ts1 gS i9_5_1 k2 hgS pb hpA W1 HSL s tv hts w4 w5 i9_5_2 listed i9_5_3 qv cv W2 ts2 X1 u10 u16 u17 u30 u31 u32 u33 u34 u35 u36 u37 u38 u39 u40 u41 u42 u43 u44 u45 u46 u47 u48 u49 u50 u51 u52 u53 u54 u55 u56 u57 u58 u59 u60 u61 u62 u63 u64 u65 u66 u67 u68 u69 u70 u71 u72 u73 u74 u75 u76 u77 u78 u79 u80 u81 u82 u83 u84 u85 u86 u87 u88 u89 u90 u91 u92 u93 u94 u95 u96 u97 u98 u99 u100 u101 u102 u103 u104 u105 u106 u107 u108 u109 u110 u111 u112 u113 u114 u115 u116 u117 u118 u119 u120 u121 u122 u123 u124 u125 u126 u127 u128 u129 u130 u131 u132 u133 u134 u135 u136 u137 u138 u139 u140 u141 u142 u143 u144 u145 u146 u147 u148 u149 u150 u151 u152 u153 u154 u155 u156 u157 u158 u159 u160 u161 u162 u163 u164 u165 u166 u167 u168 u169 u170 u171 u172 u173 u174 u175 u176 u177 u178 u179 u180 u181 u182 u183 u184 u185 u186 u187 u188 u189 u190 u191 u192 u193 u194 u195 u196 u197 u198 u199 u200 u201 u202 u203 u204 u205 u206 u207 u208 u209 u210 u211 u212 u213 u214 u215 u216 u217 u218 u219 u220 u221 u222 u223 u224 u225 u226 u227 u228 u229 u230 u231 u232 u233 u234 u235 u236 u237 u238 u239 u240 u241 u242 u245 u246 u247 u248 u249 u250 u251 u252 u253 u254 u255 u256 u257 u258 u259 u260 u261 u262 u263 u264 V hEx hwV a0 g0 g1 g2 g3 g4 g5 g6 g7 m0 m1 m2 m3 m4 m5 m6 l1 l2 l3 HW1 ν W ts' p4 p5 b1 b2 b3 cS qL cL qR cR qK cK gT HSL2 HTS V5 s' tv' HKS i9_6_1 i9_6_2 W6 r1 r2 i9_6_3 i9_6_4 W7 HT7
  have ch5 := chooseL_bd HBB.out 5
  have ch6 := chooseL_bd HBB.out 6
  have wb5 := wcT_bd by_ 5 (show (0 : Int) < 9 by omega)
  have wb6 := wcT_bd by_ 6 (show (0 : Int) < 9 by omega)
  have hbr := bare_bounds (gearOk_bare (check_zero HCK.out).2)
  have bj := hbr.2.2.1
  have bs := hbr.2.2.2.2.2.2.2
  have e5 : (chooseL by_ 5).tmod 9 = wcT by_ 5 9 := Int.tmod_eq_emod_of_nonneg ch5.1
  have e6 : (chooseL by_ 6).tmod 9 = wcT by_ 6 9 := Int.tmod_eq_emod_of_nonneg ch6.1
  have f5 : IntKind.i64.wrap (g.jitter + wcT by_ 5 9) = g.jitter + wcT by_ 5 9 := IntWalk.i64_in _ (by omega)
  have f6 : IntKind.i64.wrap (g.spread + wcT by_ 6 9) = g.spread + wcT by_ 6 9 := IntWalk.i64_in _ (by omega)
  have E5 := Lib.hid e5
  clear e5
  have E6 := Lib.hid e6
  clear e6
  have F5 := Lib.hid f5
  clear f5
  have F6 := Lib.hid f6
  clear f6
  clear ch5 ch6 wb5 wb6 hbr bj bs
  obtain ⟨Q, hQ⟩ : ∃ Q : List Value → World → Prop, Q = (fun c5 W => TuAt V W [.slice (some ⟨gT, 0, none⟩) ts'.length cS] c5 b1 b2 b3 p4 p5 (.slice (some ⟨gT, 0, none⟩) ts'.length cS) (.slice qL g.loads.length cL) (.slice qR g.runners.length cR) (.slice qK g.strokes.length cK) (ts'.set kx (wideS by_ s', tv')) g.loads g.runners g.strokes) := ⟨_, rfl⟩
  have hQe : ∀ c W, Q c W → V.Exts W := fun c W h => by rw [hQ] at h; exact h.ext
  have hQx : ∀ c W W', W.Exts W' → Q c W → Q c W' := fun c W W' hE h => by rw [hQ] at h ⊢; exact h.exts hE
  have hQ0 : Q [.slice qL g.loads.length cL, .int .i64 g.added, .int .i64 g.base, .int .i64 g.jitter, .slice qR g.runners.length cR, .slice qK g.strokes.length cK, .int .i64 g.spread, .bool g.stamp] W7 := by rw [hQ]; exact HT7.out
  have hQp : ∀ W, Q [.slice qL g.loads.length cL, .int .i64 g.added, .int .i64 g.base, .int .i64 g.jitter, .slice qR g.runners.length cR, .slice qK g.strokes.length cK, .int .i64 g.spread, .bool g.stamp] W → Q [.slice qL g.loads.length cL, .int .i64 g.added, .int .i64 g.base, .int .i64 (min 1000 (g.jitter + wcT by_ 5 9)), .slice qR g.runners.length cR, .slice qK g.strokes.length cK, .int .i64 g.spread, .bool g.stamp] (W.setCell ⟨p5, 3, none⟩ (.int .i64 (min 1000 (g.jitter + wcT by_ 5 9)))) ∧ W.cell? ⟨p5, 3, none⟩ = some (.int .i64 g.jitter) ∧ W.frozen? ⟨p5, 3, none⟩ = false := fun W h => by
    rw [hQ] at h ⊢
    exact ⟨h.put5 3 _, LaysAs.cell h.o5 3 _ rfl, laysAs_frozen h.o5⟩
  have hQs : ∀ W, Q [.slice qL g.loads.length cL, .int .i64 g.added, .int .i64 g.base, .int .i64 (min 1000 (g.jitter + wcT by_ 5 9)), .slice qR g.runners.length cR, .slice qK g.strokes.length cK, .int .i64 g.spread, .bool g.stamp] W → TuAt V (W.setCell ⟨p5, 6, none⟩ (.int .i64 (min 2000 (g.spread + wcT by_ 6 9)))) [.slice (some ⟨gT, 0, none⟩) ts'.length cS] [.slice qL g.loads.length cL, .int .i64 g.added, .int .i64 g.base, .int .i64 (min 1000 (g.jitter + wcT by_ 5 9)), .slice qR g.runners.length cR, .slice qK g.strokes.length cK, .int .i64 (min 2000 (g.spread + wcT by_ 6 9)), .bool g.stamp] b1 b2 b3 p4 p5 (.slice (some ⟨gT, 0, none⟩) ts'.length cS) (.slice qL g.loads.length cL) (.slice qR g.runners.length cR) (.slice qK g.strokes.length cK) (ts'.set kx (wideS by_ s', tv')) g.loads g.runners g.strokes ∧ W.cell? ⟨p5, 6, none⟩ = some (.int .i64 g.spread) ∧ W.frozen? ⟨p5, 6, none⟩ = false := fun W h => by
    rw [hQ] at h
    exact ⟨h.put5 6 _, LaysAs.cell h.o5 6 _ rfl, laysAs_frozen h.o5⟩
  clear hQ
  have HQE := Lib.hid hQe
  clear hQe
  have HQX := Lib.hid hQx
  clear hQx
  have HQP := Lib.hid hQp
  clear hQp
  have HQS := Lib.hid hQs
  clear hQs
  have HQ0 := Lib.hid hQ0
  clear hQ0
  haveI : Nonempty (GW fun W => V.Exts W) := ⟨⟨V, World.Exts.refl V⟩⟩
  have kg3 := fun (Y : GW fun W => V.Exts W) => Y.h.cell g3
  have kg6 := fun (Y : GW fun W => V.Exts W) => Y.h.cell g6
  refine wp_region_inv 17 (fun i => i == 3 || i == 4 || i == 5 || i == 6 || i == 10 || i == 11 || i == 12 || i == 13 || i == 15) (fun c v _ => ValAt (looseTab (chooseL by_ 5) (wcT by_ 5 9) (g.jitter + wcT by_ 5 9) (min 1000 (g.jitter + wcT by_ 5 9)) (chooseL by_ 6) (wcT by_ 6 9) (g.spread + wcT by_ 6 9) (min 2000 (g.spread + wcT by_ 6 9))) c v)
    (fun W => V.Exts W)
    (OneSet Q [.slice qL g.loads.length cL, .int .i64 g.added, .int .i64 g.base, .int .i64 g.jitter, .slice qR g.runners.length cR, .slice qK g.strokes.length cK, .int .i64 g.spread, .bool g.stamp] [.slice qL g.loads.length cL, .int .i64 g.added, .int .i64 g.base, .int .i64 (min 1000 (g.jitter + wcT by_ 5 9)), .slice qR g.runners.length cR, .slice qK g.strokes.length cK, .int .i64 g.spread, .bool g.stamp] 15)
    (by kernel_rfl) (fun ν => by kernel_rfl) (by kernel_rfl) (by kernel_rfl) (by kernel_rfl) (by kernel_rfl) (fun listed W h => HQE.out _ W h) (fun listed W i hi hU h => h.set (fun e => by subst e; simp at hU) (fun _ h => h)) (by unfold OneSet; exact HQX.out _ _ _ (World.Exts.refl W7).drew HQ0.out) ?_
  apply Exists.intro
  refine ⟨fun ν L hL => ?_, fun c oc hc hU ν listed W hsz hInv hun hΦ => ?_, fun ν listed W hInv hall hΦ => ?_⟩
  · simp only [modU, cOp, List.mapIdx_cons, List.mapIdx_nil, Nat.zero_add, Nat.reduceAdd, Nat.reduceBEq, Bool.or_false, Bool.false_or, Bool.or_true, Bool.true_or, Bool.or_self, Bool.false_eq_true, if_false, if_true, List.take_succ_cons, List.take_zero]
    repeat (go_big_quiet_step (fail))
    exact wpQuiet_nil hL
  · simp at hU
    rcases hU with (((((((rfl | rfl) | rfl) | rfl) | rfl) | rfl) | rfl) | rfl) | rfl
    · simp only [List.getElem?_cons_succ, List.getElem?_cons_zero, Option.some.injEq] at hc
      subst hc
      refine .inl (Oper.gives_fn rfl rfl rfl (enters_of Tryz.func25 (by kernel_rfl) rfl) ?_ rfl)
      refine (l04_choose_at by_ _ 5 _ W (HBY.out.mono (hwV.trans (HQE.out _ W hInv))) HBB.out (by omega) rfl).mono ?_
      rintro e W' ⟨rfl, hE⟩
      exact ⟨_, rfl, hInv.set (by decide) (fun c h => HQX.out c _ _ hE h), ValAt.mk rfl, fun _ _ _ _ h => h⟩
    · simp only [List.getElem?_cons_succ, List.getElem?_cons_zero, Option.some.injEq] at hc
      subst hc
      have h3 := (hΦ 3 rfl ⟨⟨3, .data⟩, by simp, rfl, rfl⟩).get rfl
      exact gives_rem (a := chooseL by_ 5) rfl rfl (by omega) h3 E5.out ⟨hInv.set (by decide) (fun _ h => h), ValAt.mk rfl, fun _ _ _ _ h => h⟩
    · simp only [List.getElem?_cons_succ, List.getElem?_cons_zero, Option.some.injEq] at hc
      subst hc
      have h4 := (hΦ 4 rfl ⟨⟨4, .data⟩, by simp, rfl, rfl⟩).get rfl
      refine gives_sum (a := g.jitter) (b := wcT by_ 5 9) rfl rfl h4 ?_
      rw [F5.out]
      exact ⟨hInv.set (by decide) (fun _ h => h), ValAt.mk rfl, fun _ _ _ _ h => h⟩
    · simp only [List.getElem?_cons_succ, List.getElem?_cons_zero, Option.some.injEq] at hc
      subst hc
      have h5 := (hΦ 5 rfl ⟨⟨5, .data⟩, by simp, rfl, rfl⟩).get rfl
      exact gives_min (a := g.jitter + wcT by_ 5 9) rfl rfl h5 ⟨hInv.set (by decide) (fun _ h => h), ValAt.mk rfl, fun _ _ _ _ h => h⟩
    · simp only [List.getElem?_cons_succ, List.getElem?_cons_zero, Option.some.injEq] at hc
      subst hc
      refine .inl (Oper.gives_fn rfl rfl rfl (enters_of Tryz.func25 (by kernel_rfl) rfl) ?_ rfl)
      refine (l04_choose_at by_ _ 6 _ W (HBY.out.mono (hwV.trans (HQE.out _ W hInv))) HBB.out (by omega) rfl).mono ?_
      rintro e W' ⟨rfl, hE⟩
      exact ⟨_, rfl, hInv.set (by decide) (fun c h => HQX.out c _ _ hE h), ValAt.mk rfl, fun _ _ _ _ h => h⟩
    · simp only [List.getElem?_cons_succ, List.getElem?_cons_zero, Option.some.injEq] at hc
      subst hc
      have h10 := (hΦ 10 rfl ⟨⟨10, .data⟩, by simp, rfl, rfl⟩).get rfl
      exact gives_rem (a := chooseL by_ 6) rfl rfl (by omega) h10 E6.out ⟨hInv.set (by decide) (fun _ h => h), ValAt.mk rfl, fun _ _ _ _ h => h⟩
    · simp only [List.getElem?_cons_succ, List.getElem?_cons_zero, Option.some.injEq] at hc
      subst hc
      have h11 := (hΦ 11 rfl ⟨⟨11, .data⟩, by simp, rfl, rfl⟩).get rfl
      refine gives_sum (a := g.spread) (b := wcT by_ 6 9) rfl rfl h11 ?_
      rw [F6.out]
      exact ⟨hInv.set (by decide) (fun _ h => h), ValAt.mk rfl, fun _ _ _ _ h => h⟩
    · simp only [List.getElem?_cons_succ, List.getElem?_cons_zero, Option.some.injEq] at hc
      subst hc
      have h12 := (hΦ 12 rfl ⟨⟨12, .data⟩, by simp, rfl, rfl⟩).get rfl
      exact gives_min (a := g.spread + wcT by_ 6 9) rfl rfl h12 ⟨hInv.set (by decide) (fun _ h => h), ValAt.mk rfl, fun _ _ _ _ h => h⟩
    · simp only [List.getElem?_cons_succ, List.getElem?_cons_zero, Option.some.injEq] at hc
      subst hc
      have h6 := (hΦ 6 rfl ⟨⟨6, .data⟩, by simp, rfl, rfl⟩).get rfl
      have hq := hInv
      unfold OneSet at hq
      rw [hun] at hq
      obtain ⟨d1, d2, d3⟩ := HQP.out W hq
      exact gives_store (m := min 1000 (g.jitter + wcT by_ 5 9)) rfl rfl h6 d2 d3 ⟨hInv.done hun (by rw [hsz]; decide) (fun _ => d1), fun u hu => (by cases hu), fun _ _ _ _ h => h⟩
  simp only [List.drop_succ_cons, List.drop_zero]
  have h13 := (hΦ 13 (by decide) rfl).get rfl
  have hq := hInv
  unfold OneSet at hq
  rw [hall 15 (by decide), if_pos rfl] at hq
  obtain ⟨hT8, d2, d3⟩ := HQS.out W hq
  have nd := Lays.of_cell d2
  rw [h13]
  clear hInv hall hΦ h13 hq kg3 kg6 this HQE HQX HQP HQS HQ0 E5 E6 F5 F6 HT7
  have HT8 := Lib.hid hT8
  clear hT8
  go_upto_region 21 with (fail)
  generalize hW8 : World.setCell W ⟨p5, 6, none⟩ _ = W8
  rw [hW8] at HT8
  clear hW8 d2 d3 nd Q
  rename_i i9_7_1 i9_7_2 i9_7_3 i9_7_4 i9_7_5
  revert ts g n more by_ w q0 cp0 q1 cp1 q2 cp2 q3 cp3 HB HL HR HS HWF HCD qb cb HBY HBB hg1 hg3 hg4 hg5 HRD HGA HG2 HN h0 hb0 er HCK HT1 HER HER4 i9_1_1 qv1 cv1 A hwA i9_4_1 i9_4_2 i9_4_3 i9_4_4 i9_4_5 i9_4_6 i9_4_7 i9_4_8 i9_4_9 i9_4_10 i9_4_11 i9_4_12 i9_4_13 i9_4_14 i9_4_15 i9_4_16 i9_4_17 i9_4_18 i9_4_19 i9_4_20 i9_4_21 i9_4_22 i9_4_23 i9_4_24 i9_4_25 i9_4_26 i9_4_27 i9_4_28 i9_4_29 i9_4_30 i9_4_31 i9_4_32 i9_4_33 i9_4_34 i9_4_35 i9_4_36 i9_4_37 i9_4_38 i9_4_39 i9_4_40 i9_4_41 i9_4_42 i9_4_43 i9_4_44 i9_4_45 i9_4_46 i9_4_47 i9_4_48 i9_4_49 i9_4_50 i9_4_51 i9_4_52 i9_4_53 i9_4_54 i9_4_55 i9_4_56 i9_4_57 i9_4_58 i9_4_59 i9_4_60 i9_4_61 i9_4_62 i9_4_63 i9_4_64 i9_4_65 i9_4_66 i9_4_67 i9_4_68 i9_4_69 i9_4_70 i9_4_71 i9_4_72 i9_4_73 i9_4_74 i9_4_75 i9_4_76 i9_4_77 i9_4_78 i9_4_79 i9_4_80 i9_4_81 i9_4_82 i9_4_83 i9_4_84 i9_4_85 i9_4_86 i9_4_87 i9_4_88 i9_4_89 i9_4_90 i9_4_91 i9_4_92 i9_4_93 i9_4_94 i9_4_95 i9_4_96 i9_4_97 i9_4_98 i9_4_99 i9_4_100 i9_4_101 i9_4_102 i9_4_103 i9_4_104 i9_4_105 i9_4_106 i9_4_107 i9_4_108 i9_4_109 i9_4_110 i9_4_111 i9_4_112 i9_4_113 i9_4_114 i9_4_115 i9_4_116 i9_4_117 i9_4_118 i9_4_119 i9_4_120 i9_4_121 i9_4_122 i9_4_123 i9_4_124 i9_4_125 i9_4_126 i9_4_127 i9_4_128 i9_4_129 i9_4_130 i9_4_131 i9_4_132 i9_4_133 i9_4_134 i9_4_135 i9_4_136 i9_4_137 i9_4_138 i9_4_139 i9_4_140 i9_4_141 i9_4_142 i9_4_143 i9_4_144 i9_4_145 i9_4_146 i9_4_147 i9_4_148 i9_4_149 i9_4_150 i9_4_151 i9_4_152 i9_4_153 i9_4_154 i9_4_155 i9_4_156 i9_4_157 i9_4_158 i9_4_159 i9_4_160 i9_4_161 i9_4_162 i9_4_163 i9_4_164 i9_4_165 i9_4_166 i9_4_167 i9_4_168 i9_4_169 i9_4_170 i9_4_171 i9_4_172 i9_4_173 i9_4_174 i9_4_175 i9_4_176 i9_4_177 i9_4_178 i9_4_179 i9_4_180 i9_4_181 i9_4_182 i9_4_183 i9_4_184 i9_4_185 i9_4_186 i9_4_187 i9_4_188 i9_4_189 i9_4_190 i9_4_191 i9_4_192 i9_4_193 i9_4_194 i9_4_195 i9_4_196 i9_4_197 i9_4_198 i9_4_199 i9_4_200 i9_4_201 i9_4_202 i9_4_203 i9_4_204 i9_4_205 i9_4_206 i9_4_207 i9_4_208 i9_4_209 i9_4_210 i9_4_211 i9_4_212 i9_4_213 i9_4_214 i9_4_215 i9_4_216 i9_4_217 i9_4_218 i9_4_219 i9_4_220 i9_4_221 i9_4_222 i9_4_223 i9_4_224 i9_4_225 i9_4_226 i9_4_227 i9_4_228 i9_4_229 i9_4_230 i9_4_231 i9_4_232 kx hkl r0 ts1 gS i9_5_1 k2 hgS pb hpA W1 HSL s tv hts w4 w5 i9_5_2 i9_7_1 i9_5_3 qv cv W2 ts2 X1 u10 u16 u17 u30 u31 u32 u33 u34 u35 u36 u37 u38 u39 u40 u41 u42 u43 u44 u45 u46 u47 u48 u49 u50 u51 u52 u53 u54 u55 u56 u57 u58 u59 u60 u61 u62 u63 u64 u65 u66 u67 u68 u69 u70 u71 u72 u73 u74 u75 u76 u77 u78 u79 u80 u81 u82 u83 u84 u85 u86 u87 u88 u89 u90 u91 u92 u93 u94 u95 u96 u97 u98 u99 u100 u101 u102 u103 u104 u105 u106 u107 u108 u109 u110 u111 u112 u113 u114 u115 u116 u117 u118 u119 u120 u121 u122 u123 u124 u125 u126 u127 u128 u129 u130 u131 u132 u133 u134 u135 u136 u137 u138 u139 u140 u141 u142 u143 u144 u145 u146 u147 u148 u149 u150 u151 u152 u153 u154 u155 u156 u157 u158 u159 u160 u161 u162 u163 u164 u165 u166 u167 u168 u169 u170 u171 u172 u173 u174 u175 u176 u177 u178 u179 u180 u181 u182 u183 u184 u185 u186 u187 u188 u189 u190 u191 u192 u193 u194 u195 u196 u197 u198 u199 u200 u201 u202 u203 u204 u205 u206 u207 u208 u209 u210 u211 u212 u213 u214 u215 u216 u217 u218 u219 u220 u221 u222 u223 u224 u225 u226 u227 u228 u229 u230 u231 u232 u233 u234 u235 u236 u237 u238 u239 u240 u241 u242 u245 u246 u247 u248 u249 u250 u251 u252 u253 u254 u255 u256 u257 u258 u259 u260 u261 u262 u263 u264 V hEx hwV a0 g0 g1 g2 g3 g4 g5 g6 g7 m0 m1 m2 m3 m4 m5 m6 l1 l2 l3 HW1 i9_7_2 i9_7_3 ts' p4 p5 b1 b2 b3 cS qL cL qR cR qK cK gT HSL2 HTS V5 s' tv' HKS i9_6_1 i9_6_2 W6 r1 r2 W7 ν listed W i9_7_4 i9_7_5 W8 HT8
  exact HG.out
end Go.Proofs.YtfjkiemjmnnbkaaGreatDoor

/-
  The law ScaleWider: its walk.
-/
namespace Go.Proofs.YtfjkiemjmnnbkaaGreatDoor
open Go.RowKit Kr
set_option linter.unusedSimpArgs false

set_option maxRecDepth 100000 in
set_option maxHeartbeats 8000000 in
noncomputable def l04wd_any_c8 : { G : Prop // G → l04wd_any_c7.val } := by
  apply Subtype.mk
  case property =>
  intro hG
  have HG := Lib.hid hG
  clear hG
  intro ts g n more by_ w q0 cp0 q1 cp1 q2 cp2 q3 cp3 HB HL HR HS HWF HCD qb cb HBY HBB hg1 hg3 hg4 hg5 HRD HGA HG2 HN h0 hb0 er HCK HT1 HER HER4 i9_1_1 qv1 cv1 A hwA i9_4_1 i9_4_2 i9_4_3 i9_4_4 i9_4_5 i9_4_6 i9_4_7 i9_4_8 i9_4_9 i9_4_10 i9_4_11 i9_4_12 i9_4_13 i9_4_14 i9_4_15 i9_4_16 i9_4_17 i9_4_18 i9_4_19 i9_4_20 i9_4_21 i9_4_22 i9_4_23 i9_4_24 i9_4_25 i9_4_26 i9_4_27 i9_4_28 i9_4_29 i9_4_30 i9_4_31 i9_4_32 i9_4_33 i9_4_34 i9_4_35 i9_4_36 i9_4_37 i9_4_38 i9_4_39 i9_4_40 i9_4_41 i9_4_42 i9_4_43 i9_4_44 i9_4_45 i9_4_46 i9_4_47 i9_4_48 i9_4_49 i9_4_50 i9_4_51 i9_4_52 i9_4_53 i9_4_54 i9_4_55 i9_4_56 i9_4_57 i9_4_58 i9_4_59 i9_4_60 i9_4_61 i9_4_62 i9_4_63 i9_4_64 i9_4_65 i9_4_66 i9_4_67 i9_4_68 i9_4_69 i9_4_70 i9_4_71 i9_4_72 i9_4_73 i9_4_74 i9_4_75 i9_4_76 i9_4_77 i9_4_78 i9_4_79 i9_4_80 i9_4_81 i9_4_82 i9_4_83 i9_4_84 i9_4_85 i9_4_86 i9_4_87 i9_4_88 i9_4_89 i9_4_90 i9_4_91 i9_4_92 i9_4_93 i9_4_94 i9_4_95 i9_4_96 i9_4_97 i9_4_98 i9_4_99 i9_4_100 i9_4_101 i9_4_102 i9_4_103 i9_4_104 i9_4_105 i9_4_106 i9_4_107 i9_4_108 i9_4_109 i9_4_110 i9_4_111 i9_4_112 i9_4_113 i9_4_114 i9_4_115 i9_4_116 i9_4_117 i9_4_118 i9_4_119 i9_4_120 i9_4_121 i9_4_122 i9_4_123 i9_4_124 i9_4_125 i9_4_126 i9_4_127 i9_4_128 i9_4_129 i9_4_130 i9_4_131 i9_4_132 i9_4_133 i9_4_134 i9_4_135 i9_4_136 i9_4_137 i9_4_138 i9_4_139 i9_4_140 i9_4_141 i9_4_142 i9_4_143 i9_4_144 i9_4_145 i9_4_146 i9_4_147 i9_4_148 i9_4_149 i9_4_150 i9_4_151 i9_4_152 i9_4_153 i9_4_154 i9_4_155 i9_4_156 i9_4_157 i9_4_158 i9_4_159 i9_4_160 i9_4_161 i9_4_162 i9_4_163 i9_4_164 i9_4_165 i9_4_166 i9_4_167 i9_4_168 i9_4_169 i9_4_170 i9_4_171 i9_4_172 i9_4_173 i9_4_174 i9_4_175 i9_4_176 i9_4_177 i9_4_178 i9_4_179 i9_4_180 i9_4_181 i9_4_182 i9_4_183 i9_4_184 i9_4_185 i9_4_186 i9_4_187 i9_4_188 i9_4_189 i9_4_190 i9_4_191 i9_4_192 i9_4_193 i9_4_194 i9_4_195 i9_4_196 i9_4_197 i9_4_198 i9_4_199 i9_4_200 i9_4_201 i9_4_202 i9_4_203 i9_4_204 i9_4_205 i9_4_206 i9_4_207 i9_4_208 i9_4_209 i9_4_210 i9_4_211 i9_4_212 i9_4_213 i9_4_214 i9_4_215 i9_4_216 i9_4_217 i9_4_218 i9_4_219 i9_4_220 i9_4_221 i9_4_222 i9_4_223 i9_4_224 i9_4_225 i9_4_226 i9_4_227 i9_4_228 i9_4_229 i9_4_230 i9_4_231 i9_4_232 kx hkl r0 ts1 gS i9_5_1 k2 hgS pb hpA W1 HSL s tv hts w4 w5 i9_5_2 i9_7_1 i9_5_3 qv cv W2 ts2 X1 u10 u16 u17 u30 u31 u32 u33 u34 u35 u36 u37 u38 u39 u40 u41 u42 u43 u44 u45 u46 u47 u48 u49 u50 u51 u52 u53 u54 u55 u56 u57 u58 u59 u60 u61 u62 u63 u64 u65 u66 u67 u68 u69 u70 u71 u72 u73 u74 u75 u76 u77 u78 u79 u80 u81 u82 u83 u84 u85 u86 u87 u88 u89 u90 u91 u92 u93 u94 u95 u96 u97 u98 u99 u100 u101 u102 u103 u104 u105 u106 u107 u108 u109 u110 u111 u112 u113 u114 u115 u116 u117 u118 u119 u120 u121 u122 u123 u124 u125 u126 u127 u128 u129 u130 u131 u132 u133 u134 u135 u136 u137 u138 u139 u140 u141 u142 u143 u144 u145 u146 u147 u148 u149 u150 u151 u152 u153 u154 u155 u156 u157 u158 u159 u160 u161 u162 u163 u164 u165 u166 u167 u168 u169 u170 u171 u172 u173 u174 u175 u176 u177 u178 u179 u180 u181 u182 u183 u184 u185 u186 u187 u188 u189 u190 u191 u192 u193 u194 u195 u196 u197 u198 u199 u200 u201 u202 u203 u204 u205 u206 u207 u208 u209 u210 u211 u212 u213 u214 u215 u216 u217 u218 u219 u220 u221 u222 u223 u224 u225 u226 u227 u228 u229 u230 u231 u232 u233 u234 u235 u236 u237 u238 u239 u240 u241 u242 u245 u246 u247 u248 u249 u250 u251 u252 u253 u254 u255 u256 u257 u258 u259 u260 u261 u262 u263 u264 V hEx hwV a0 g0 g1 g2 g3 g4 g5 g6 g7 m0 m1 m2 m3 m4 m5 m6 l1 l2 l3 HW1 i9_7_2 i9_7_3 ts' p4 p5 b1 b2 b3 cS qL cL qR cR qK cK gT HSL2 HTS V5 s' tv' HKS i9_6_1 i9_6_2 W6 r1 r2 W7 ν listed W i9_7_4 i9_7_5 W8 HT8
  obtain ⟨L2, hL2⟩ : ∃ L, ts'.set kx (wideS by_ s', tv') = L := ⟨_, rfl⟩
  have hLf : L2.map Prod.fst = (ts.map Prod.fst).set kx (wideS by_ s') := by rw [← hL2, List.map_set, HTS.out]
  have hLl : L2.length = ts'.length := by rw [← hL2, List.length_set]
  obtain ⟨hck2, ham, hju⟩ := wd_wide by_ HKS.out HCK.out HN.out
  have hI := HT8.out
  rw [hL2] at hI
  have hbay := hI.bay
  have hgr := hI.gear
  have hga : GearAt W8 (looseG by_ g, .slice qL g.loads.length cL, .slice qR g.runners.length cR, .slice qK g.strokes.length cK) := ⟨hgr.1, hgr.2.1, hgr.2.2, by show g.runners.length ≤ 1000 ∧ g.strokes.length ≤ 1000; omega, HWF.out⟩
  rw [← hLf] at hck2 ham hju
  obtain ⟨er3, her3⟩ : ∃ er : Int, er = (if totals (L2.map Prod.fst) (looseG by_ g) = [] then 6 else 0) := ⟨_, rfl⟩
  have T3 := fun (W : World) (hE : W8.Exts W) => scale_Totals_any L2 _ (looseG by_ g) _ _ _ W (hbay.mono hE) (hga.mono hE)
  simp only [wd_totals hck2, ← her3] at T3
  have her5 : er3 = 0 ∨ er3 = 6 := by split at her3 <;> omega
  have hw1 := HW1.out.mono hI.ext
  have J2 := fun (W : World) (hE : W8.Exts W) (hcd : CondsAt W) => scale_Judge_any L2 _ (looseG by_ g) _ _ _ n W (hbay.mono hE) (hga.mono hE) hcd
  have p4c := LaysAs.cell hI.o4 0 _ rfl
  have o := hI.o5
  have x0 := LaysAs.cell o 0 _ rfl
  have x1 := LaysAs.cell o 1 _ rfl
  have x2 := LaysAs.cell o 2 _ rfl
  have x3 := LaysAs.cell o 3 _ rfl
  have x4 := LaysAs.cell o 4 _ rfl
  have x5 := LaysAs.cell o 5 _ rfl
  have x6 := LaysAs.cell o 6 _ rfl
  have x7 := LaysAs.cell o 7 _ rfl
  have hE8 := hI.ext
  have hE9 := hwV.trans hE8
  have J1 := fun (W : World) (hE : W8.Exts W) => scale_Judge_any ts _ g _ _ _ n W (HB.out.mono (hE9.trans hE)) (HGA.out.mono (hE9.trans hE)) (HCD.out.mono (hE9.trans hE))
  have J3 := fun (W : World) (hE : W8.Exts W) => J2 W hE (HCD.out.mono (hE9.trans hE))
  replace a0 := hE8.cell a0
  replace g0 := hE8.cell g0
  replace g1 := hE8.cell g1
  replace g2 := hE8.cell g2
  replace g3 := hE8.cell g3
  replace g4 := hE8.cell g4
  replace g5 := hE8.cell g5
  replace g6 := hE8.cell g6
  replace g7 := hE8.cell g7
  replace m0 := hE8.cell m0
  replace m1 := hE8.cell m1
  replace m2 := hE8.cell m2
  replace m3 := hE8.cell m3
  replace m4 := hE8.cell m4
  replace m5 := hE8.cell m5
  replace m6 := hE8.cell m6
  replace l1 := Lays.of_cell a0
  replace l2 := Lays.of_cell g0
  replace l3 := Lays.of_cell m0
  have l4 := Lays.of_cell p4c
  have l5 := Lays.of_cell x0
  have herr := fun h => Kr.judge_err (b := ts.map Prod.fst) (g := g) (n := n) HCK.out HN.out h
  clear J2 hgr hga hbay hI o hck2 hL2 hLf HT8 HW1 HTS HKS her3 hLl
  generalize judgeR (L2.map Prod.fst) (looseG by_ g) n = R2 at *
  generalize judgeR (ts.map Prod.fst) g n = R1 at *
  generalize totals (L2.map Prod.fst) (looseG by_ g) = TL2 at *
  generalize totals (ts.map Prod.fst) g = TL at *
  dsimp only [looseG] at T3 J3
  have HT3 := Lib.hid T3
  clear T3
  have HJ1 := Lib.hid J1
  clear J1
  have HJ3 := Lib.hid J3
  clear J3
  have HAM := Lib.hid ham
  clear ham
  have HJU := Lib.hid hju
  clear hju
  have HW1 := Lib.hid hw1
  clear hw1
  have HER5 := Lib.hid her5
  clear her5
  have HERR := Lib.hid herr
  clear herr
  go_upto_region 22 with (go_at_call 29; refine (HT3.out _ exq).mono ?_; rintro e w' ⟨v2, rfl, hv2, X6, rfl⟩; (obtain ⟨qv2, cv2, rfl⟩ := hv2.len); (have HV2 := Lib.hid hv2); clear hv2)
  go_cut [193] (fun c wx => c = .bool false ∧ (World.ext W8 X6).Exts wx)
  case first =>
    rcases HER5.out with h | h
    all_goals
      subst h
      go_wp2_with (go_at_call 45; refine (l04_among_any TL TL2 _ _ _ (HW1.out.mono exq) (HV2.out.mono exq)).mono ?_; rintro e w' ⟨rfl, X7, rfl⟩; rw [HAM.out])
      go_meet
      exact ⟨rfl, exq⟩
  case rest =>
  obtain ⟨rfl, hEc⟩ := hcut
  obtain ⟨X7, rfl⟩ := hEc
  go_upto_region 24 with (fail)
  rename_i i9_8_1 i9_8_2 i9_8_3 i9_8_4 i9_8_5 i9_8_6 i9_8_7 i9_8_8 i9_8_9 i9_8_10 i9_8_11 i9_8_12 i9_8_13 i9_8_14 i9_8_15 i9_8_16 i9_8_17 i9_8_18 i9_8_19 i9_8_20 i9_8_21 i9_8_22 i9_8_23 i9_8_24 i9_8_25 i9_8_26 i9_8_27 i9_8_28 i9_8_29 i9_8_30 i9_8_31 i9_8_32 i9_8_33 i9_8_34 i9_8_35 i9_8_36 i9_8_37 i9_8_38 i9_8_39 i9_8_40 i9_8_41 i9_8_42 i9_8_43 i9_8_44 i9_8_45 i9_8_46 i9_8_47 i9_8_48 i9_8_49 i9_8_50 i9_8_51 i9_8_52 i9_8_53 i9_8_54 i9_8_55 i9_8_56 i9_8_57 i9_8_58 i9_8_59 i9_8_60 i9_8_61 i9_8_62 i9_8_63 i9_8_64 i9_8_65 i9_8_66 i9_8_67 i9_8_68 i9_8_69 i9_8_70 i9_8_71 i9_8_72 i9_8_73 i9_8_74 i9_8_75 i9_8_76 i9_8_77 i9_8_78 i9_8_79 i9_8_80 i9_8_81 i9_8_82 i9_8_83 i9_8_84 i9_8_85 i9_8_86 i9_8_87 i9_8_88 i9_8_89 i9_8_90 i9_8_91 i9_8_92 i9_8_93 i9_8_94 i9_8_95 i9_8_96 i9_8_97 i9_8_98 i9_8_99 i9_8_100 i9_8_101 i9_8_102 i9_8_103 i9_8_104 i9_8_105 i9_8_106 i9_8_107 i9_8_108 i9_8_109 i9_8_110 i9_8_111 i9_8_112 i9_8_113 i9_8_114 i9_8_115 i9_8_116 i9_8_117 i9_8_118 i9_8_119 i9_8_120 i9_8_121 i9_8_122 i9_8_123 i9_8_124 i9_8_125 i9_8_126 i9_8_127 i9_8_128 i9_8_129 i9_8_130 i9_8_131 i9_8_132 i9_8_133 i9_8_134 i9_8_135 i9_8_136 i9_8_137 i9_8_138 i9_8_139 i9_8_140 i9_8_141 i9_8_142 i9_8_143 i9_8_144 i9_8_145 i9_8_146 i9_8_147 i9_8_148 i9_8_149 i9_8_150 i9_8_151 i9_8_152 i9_8_153 i9_8_154 i9_8_155 i9_8_156 i9_8_157 i9_8_158 i9_8_159 i9_8_160 i9_8_161 i9_8_162 i9_8_163 i9_8_164 i9_8_165 i9_8_166 i9_8_167 i9_8_168 i9_8_169 i9_8_170 i9_8_171 i9_8_172 i9_8_173 i9_8_174 i9_8_175 i9_8_176 i9_8_177 i9_8_178 i9_8_179 i9_8_180 i9_8_181 i9_8_182 i9_8_183 i9_8_184 i9_8_185 i9_8_186 i9_8_187 i9_8_188 i9_8_189 i9_8_190 i9_8_191 i9_8_192 i9_8_193 i9_8_194 i9_8_195 i9_8_196 i9_8_197 i9_8_198 i9_8_199 i9_8_200 i9_8_201 i9_8_202 i9_8_203 i9_8_204 i9_8_205 i9_8_206 i9_8_207 i9_8_208 i9_8_209 i9_8_210 i9_8_211 i9_8_212 i9_8_213 i9_8_214 i9_8_215 i9_8_216 i9_8_217 i9_8_218 i9_8_219 i9_8_220 i9_8_221 i9_8_222 i9_8_223 i9_8_224 i9_8_225 i9_8_226 i9_8_227 i9_8_228 i9_8_229 i9_8_230 i9_8_231 i9_8_232 i9_8_233 i9_8_234
  revert ts g n more by_ w q0 cp0 q1 cp1 q2 cp2 q3 cp3 HB HL HR HS HWF HCD qb cb HBY HBB hg1 hg3 hg4 hg5 HRD HGA HG2 HN h0 hb0 er HCK HER4 i9_1_1 qv1 cv1 A hwA i9_4_1 i9_4_2 i9_4_3 i9_4_4 i9_4_5 i9_4_6 i9_4_7 i9_4_8 i9_4_9 i9_4_10 i9_4_11 i9_4_12 i9_4_13 i9_4_14 i9_4_15 i9_4_16 i9_4_17 i9_4_18 i9_4_19 i9_4_20 i9_4_21 i9_4_22 i9_4_23 i9_4_24 i9_4_25 i9_4_26 i9_4_27 i9_4_28 i9_4_29 i9_4_30 i9_4_31 i9_4_32 i9_4_33 i9_4_34 i9_4_35 i9_4_36 i9_4_37 i9_4_38 i9_4_39 i9_4_40 i9_4_41 i9_4_42 i9_4_43 i9_4_44 i9_4_45 i9_4_46 i9_4_47 i9_4_48 i9_4_49 i9_4_50 i9_4_51 i9_4_52 i9_4_53 i9_4_54 i9_4_55 i9_4_56 i9_4_57 i9_4_58 i9_4_59 i9_4_60 i9_4_61 i9_4_62 i9_4_63 i9_4_64 i9_4_65 i9_4_66 i9_4_67 i9_4_68 i9_4_69 i9_4_70 i9_4_71 i9_4_72 i9_4_73 i9_4_74 i9_4_75 i9_4_76 i9_4_77 i9_4_78 i9_4_79 i9_4_80 i9_4_81 i9_4_82 i9_4_83 i9_4_84 i9_4_85 i9_4_86 i9_4_87 i9_4_88 i9_4_89 i9_4_90 i9_4_91 i9_4_92 i9_4_93 i9_4_94 i9_4_95 i9_4_96 i9_4_97 i9_4_98 i9_4_99 i9_4_100 i9_4_101 i9_4_102 i9_4_103 i9_4_104 i9_4_105 i9_4_106 i9_4_107 i9_4_108 i9_4_109 i9_4_110 i9_4_111 i9_4_112 i9_4_113 i9_4_114 i9_4_115 i9_4_116 i9_4_117 i9_4_118 i9_4_119 i9_4_120 i9_4_121 i9_4_122 i9_4_123 i9_4_124 i9_4_125 i9_4_126 i9_4_127 i9_4_128 i9_4_129 i9_4_130 i9_4_131 i9_4_132 i9_4_133 i9_4_134 i9_4_135 i9_4_136 i9_4_137 i9_4_138 i9_4_139 i9_4_140 i9_4_141 i9_4_142 i9_4_143 i9_4_144 i9_4_145 i9_4_146 i9_4_147 i9_4_148 i9_4_149 i9_4_150 i9_4_151 i9_4_152 i9_4_153 i9_4_154 i9_4_155 i9_4_156 i9_4_157 i9_4_158 i9_4_159 i9_4_160 i9_4_161 i9_4_162 i9_4_163 i9_4_164 i9_4_165 i9_4_166 i9_4_167 i9_4_168 i9_4_169 i9_4_170 i9_4_171 i9_4_172 i9_4_173 i9_4_174 i9_4_175 i9_4_176 i9_4_177 i9_4_178 i9_4_179 i9_4_180 i9_4_181 i9_4_182 i9_4_183 i9_4_184 i9_4_185 i9_4_186 i9_4_187 i9_4_188 i9_4_189 i9_4_190 i9_4_191 i9_4_192 i9_4_193 i9_4_194 i9_4_195 i9_4_196 i9_4_197 i9_4_198 i9_4_199 i9_4_200 i9_4_201 i9_4_202 i9_4_203 i9_4_204 i9_4_205 i9_4_206 i9_4_207 i9_4_208 i9_4_209 i9_4_210 i9_4_211 i9_4_212 i9_4_213 i9_4_214 i9_4_215 i9_4_216 i9_4_217 i9_4_218 i9_4_219 i9_4_220 i9_4_221 i9_4_222 i9_4_223 i9_4_224 i9_4_225 i9_4_226 i9_4_227 i9_4_228 i9_4_229 i9_4_230 i9_4_231 i9_4_232 kx hkl r0 ts1 gS i9_5_1 k2 hgS pb hpA W1 HSL s tv hts w4 w5 i9_5_2 i9_7_1 i9_5_3 qv cv W2 ts2 X1 u10 u16 u17 i9_8_1 i9_8_2 i9_8_3 i9_8_4 i9_8_5 i9_8_6 i9_8_7 i9_8_8 i9_8_9 i9_8_10 i9_8_11 i9_8_12 i9_8_13 i9_8_14 i9_8_15 i9_8_16 i9_8_17 i9_8_18 i9_8_19 i9_8_20 i9_8_21 i9_8_22 i9_8_23 i9_8_24 i9_8_25 i9_8_26 i9_8_27 i9_8_28 i9_8_29 i9_8_30 i9_8_31 i9_8_32 i9_8_33 i9_8_34 i9_8_35 i9_8_36 i9_8_37 i9_8_38 i9_8_39 i9_8_40 i9_8_41 i9_8_42 i9_8_43 i9_8_44 i9_8_45 i9_8_46 i9_8_47 i9_8_48 i9_8_49 i9_8_50 i9_8_51 i9_8_52 i9_8_53 i9_8_54 i9_8_55 i9_8_56 i9_8_57 i9_8_58 i9_8_59 i9_8_60 i9_8_61 i9_8_62 i9_8_63 i9_8_64 i9_8_65 i9_8_66 i9_8_67 i9_8_68 i9_8_69 i9_8_70 i9_8_71 i9_8_72 i9_8_73 i9_8_74 i9_8_75 i9_8_76 i9_8_77 i9_8_78 i9_8_79 i9_8_80 i9_8_81 i9_8_82 i9_8_83 i9_8_84 i9_8_85 i9_8_86 i9_8_87 i9_8_88 i9_8_89 i9_8_90 i9_8_91 i9_8_92 i9_8_93 i9_8_94 i9_8_95 i9_8_96 i9_8_97 i9_8_98 i9_8_99 i9_8_100 i9_8_101 i9_8_102 i9_8_103 i9_8_104 i9_8_105 i9_8_106 i9_8_107 i9_8_108 i9_8_109 i9_8_110 i9_8_111 i9_8_112 i9_8_113 i9_8_114 i9_8_115 i9_8_116 i9_8_117 i9_8_118 i9_8_119 i9_8_120 i9_8_121 i9_8_122 i9_8_123 i9_8_124 i9_8_125 i9_8_126 i9_8_127 i9_8_128 i9_8_129 i9_8_130 i9_8_131 i9_8_132 i9_8_133 i9_8_134 i9_8_135 i9_8_136 i9_8_137 i9_8_138 i9_8_139 i9_8_140 i9_8_141 i9_8_142 i9_8_143 i9_8_144 i9_8_145 i9_8_146 i9_8_147 i9_8_148 i9_8_149 i9_8_150 i9_8_151 i9_8_152 i9_8_153 i9_8_154 i9_8_155 i9_8_156 i9_8_157 i9_8_158 i9_8_159 i9_8_160 i9_8_161 i9_8_162 i9_8_163 u193 i9_8_164 i9_8_165 i9_8_166 i9_8_167 i9_8_168 i9_8_169 i9_8_170 i9_8_171 i9_8_172 i9_8_173 i9_8_174 i9_8_175 i9_8_176 i9_8_177 i9_8_178 i9_8_179 i9_8_180 i9_8_181 i9_8_182 i9_8_183 i9_8_184 i9_8_185 i9_8_186 i9_8_187 i9_8_188 i9_8_189 i9_8_190 i9_8_191 i9_8_192 i9_8_193 i9_8_194 i9_8_195 i9_8_196 i9_8_197 i9_8_198 i9_8_199 i9_8_200 i9_8_201 i9_8_202 i9_8_203 i9_8_204 i9_8_205 i9_8_206 i9_8_207 i9_8_208 i9_8_209 i9_8_210 i9_8_211 i9_8_212 i9_8_213 i9_8_214 i9_8_215 i9_8_216 i9_8_217 i9_8_218 i9_8_219 i9_8_220 i9_8_221 i9_8_222 i9_8_223 i9_8_224 i9_8_225 i9_8_226 i9_8_227 i9_8_228 i9_8_229 i9_8_230 i9_8_231 i9_8_232 V hEx hwV i9_7_2 i9_7_3 ts' p4 p5 b1 b2 b3 cS qL cL qR cR qK cK gT HSL2 V5 s' tv' i9_6_1 i9_6_2 W6 r1 r2 W7 ν listed W W8 L2 er3 p4c x0 x1 x2 x3 x4 x5 x6 x7 hE8 hE9 a0 g0 g1 g2 g3 g4 g5 g6 g7 m0 m1 m2 m3 m4 m5 m6 l1 l2 l3 l4 l5 R2 R1 TL2 TL HT1 HER HT3 HJ1 HJ3 HAM HJU HW1 HER5 HERR X6 qv2 cv2 HV2 u30 u31 u32 u33 u34 u35 u36 u37 u38 u39 u40 u41 u42 u43 u44 u45 u46 u47 u48 u49 u50 u51 u52 u53 u54 u55 u56 u57 u58 u59 u60 u61 u62 u63 u64 u65 u66 u67 u68 u69 u70 u71 u72 u73 u74 u75 u76 u77 u78 u79 u80 u81 u82 u83 u84 u85 u86 u87 u88 u89 u90 u91 u92 u93 u94 u95 u96 u97 u98 u99 u100 u101 u102 u103 u104 u105 u106 u107 u108 u109 u110 u111 u112 u113 u114 u115 u116 u117 u118 u119 u120 u121 u122 u123 u124 u125 u126 u127 u128 u129 u130 u131 u132 u133 u134 u135 u136 u137 u138 u139 u140 u141 u142 u143 u144 u145 u146 u147 u148 u149 u150 u151 u152 u153 u154 u155 u156 u157 u158 u159 u160 u161 u162 u163 u164 u165 u166 u167 u168 u169 u170 u171 u172 u173 u174 u175 u176 u177 u178 u179 u180 u181 u182 u183 u184 u185 u186 u187 u188 u189 u190 u191 u192 u194 u195 u196 u197 u198 u199 u200 u201 u202 u203 u204 u205 u206 u207 u208 u209 u210 u211 u212 u213 u214 u215 u216 u217 u218 u219 u220 u221 u222 u223 u224 u225 u226 u227 u228 u229 u230 u231 u232 u233 u234 u235 u236 u237 u238 u239 u240 u241 u242 u245 u246 u247 u248 u249 u250 u251 u252 u253 u254 u255 u256 u257 u258 u259 u260 u261 u262 u263 u264 X7 i9_8_233 i9_8_234
  exact HG.out
end Go.Proofs.YtfjkiemjmnnbkaaGreatDoor

/-
  The law ScaleWider: its walk.
-/
namespace Go.Proofs.YtfjkiemjmnnbkaaGreatDoor
open Go.RowKit Kr
set_option linter.unusedSimpArgs false

set_option maxRecDepth 100000 in
set_option maxHeartbeats 1500000 in
theorem l04wd_any_last : l04wd_any_c8.val := by
  intro ts g n more by_ w q0 cp0 q1 cp1 q2 cp2 q3 cp3 HB HL HR HS HWF HCD qb cb HBY HBB hg1 hg3 hg4 hg5 HRD HGA HG2 HN h0 hb0 er HCK HER4 i9_1_1 qv1 cv1 A hwA i9_4_1 i9_4_2 i9_4_3 i9_4_4 i9_4_5 i9_4_6 i9_4_7 i9_4_8 i9_4_9 i9_4_10 i9_4_11 i9_4_12 i9_4_13 i9_4_14 i9_4_15 i9_4_16 i9_4_17 i9_4_18 i9_4_19 i9_4_20 i9_4_21 i9_4_22 i9_4_23 i9_4_24 i9_4_25 i9_4_26 i9_4_27 i9_4_28 i9_4_29 i9_4_30 i9_4_31 i9_4_32 i9_4_33 i9_4_34 i9_4_35 i9_4_36 i9_4_37 i9_4_38 i9_4_39 i9_4_40 i9_4_41 i9_4_42 i9_4_43 i9_4_44 i9_4_45 i9_4_46 i9_4_47 i9_4_48 i9_4_49 i9_4_50 i9_4_51 i9_4_52 i9_4_53 i9_4_54 i9_4_55 i9_4_56 i9_4_57 i9_4_58 i9_4_59 i9_4_60 i9_4_61 i9_4_62 i9_4_63 i9_4_64 i9_4_65 i9_4_66 i9_4_67 i9_4_68 i9_4_69 i9_4_70 i9_4_71 i9_4_72 i9_4_73 i9_4_74 i9_4_75 i9_4_76 i9_4_77 i9_4_78 i9_4_79 i9_4_80 i9_4_81 i9_4_82 i9_4_83 i9_4_84 i9_4_85 i9_4_86 i9_4_87 i9_4_88 i9_4_89 i9_4_90 i9_4_91 i9_4_92 i9_4_93 i9_4_94 i9_4_95 i9_4_96 i9_4_97 i9_4_98 i9_4_99 i9_4_100 i9_4_101 i9_4_102 i9_4_103 i9_4_104 i9_4_105 i9_4_106 i9_4_107 i9_4_108 i9_4_109 i9_4_110 i9_4_111 i9_4_112 i9_4_113 i9_4_114 i9_4_115 i9_4_116 i9_4_117 i9_4_118 i9_4_119 i9_4_120 i9_4_121 i9_4_122 i9_4_123 i9_4_124 i9_4_125 i9_4_126 i9_4_127 i9_4_128 i9_4_129 i9_4_130 i9_4_131 i9_4_132 i9_4_133 i9_4_134 i9_4_135 i9_4_136 i9_4_137 i9_4_138 i9_4_139 i9_4_140 i9_4_141 i9_4_142 i9_4_143 i9_4_144 i9_4_145 i9_4_146 i9_4_147 i9_4_148 i9_4_149 i9_4_150 i9_4_151 i9_4_152 i9_4_153 i9_4_154 i9_4_155 i9_4_156 i9_4_157 i9_4_158 i9_4_159 i9_4_160 i9_4_161 i9_4_162 i9_4_163 i9_4_164 i9_4_165 i9_4_166 i9_4_167 i9_4_168 i9_4_169 i9_4_170 i9_4_171 i9_4_172 i9_4_173 i9_4_174 i9_4_175 i9_4_176 i9_4_177 i9_4_178 i9_4_179 i9_4_180 i9_4_181 i9_4_182 i9_4_183 i9_4_184 i9_4_185 i9_4_186 i9_4_187 i9_4_188 i9_4_189 i9_4_190 i9_4_191 i9_4_192 i9_4_193 i9_4_194 i9_4_195 i9_4_196 i9_4_197 i9_4_198 i9_4_199 i9_4_200 i9_4_201 i9_4_202 i9_4_203 i9_4_204 i9_4_205 i9_4_206 i9_4_207 i9_4_208 i9_4_209 i9_4_210 i9_4_211 i9_4_212 i9_4_213 i9_4_214 i9_4_215 i9_4_216 i9_4_217 i9_4_218 i9_4_219 i9_4_220 i9_4_221 i9_4_222 i9_4_223 i9_4_224 i9_4_225 i9_4_226 i9_4_227 i9_4_228 i9_4_229 i9_4_230 i9_4_231 i9_4_232 kx hkl r0 ts1 gS i9_5_1 k2 hgS pb hpA W1 HSL s tv hts w4 w5 i9_5_2 i9_7_1 i9_5_3 qv cv W2 ts2 X1 u10 u16 u17 i9_8_1 i9_8_2 i9_8_3 i9_8_4 i9_8_5 i9_8_6 i9_8_7 i9_8_8 i9_8_9 i9_8_10 i9_8_11 i9_8_12 i9_8_13 i9_8_14 i9_8_15 i9_8_16 i9_8_17 i9_8_18 i9_8_19 i9_8_20 i9_8_21 i9_8_22 i9_8_23 i9_8_24 i9_8_25 i9_8_26 i9_8_27 i9_8_28 i9_8_29 i9_8_30 i9_8_31 i9_8_32 i9_8_33 i9_8_34 i9_8_35 i9_8_36 i9_8_37 i9_8_38 i9_8_39 i9_8_40 i9_8_41 i9_8_42 i9_8_43 i9_8_44 i9_8_45 i9_8_46 i9_8_47 i9_8_48 i9_8_49 i9_8_50 i9_8_51 i9_8_52 i9_8_53 i9_8_54 i9_8_55 i9_8_56 i9_8_57 i9_8_58 i9_8_59 i9_8_60 i9_8_61 i9_8_62 i9_8_63 i9_8_64 i9_8_65 i9_8_66 i9_8_67 i9_8_68 i9_8_69 i9_8_70 i9_8_71 i9_8_72 i9_8_73 i9_8_74 i9_8_75 i9_8_76 i9_8_77 i9_8_78 i9_8_79 i9_8_80 i9_8_81 i9_8_82 i9_8_83 i9_8_84 i9_8_85 i9_8_86 i9_8_87 i9_8_88 i9_8_89 i9_8_90 i9_8_91 i9_8_92 i9_8_93 i9_8_94 i9_8_95 i9_8_96 i9_8_97 i9_8_98 i9_8_99 i9_8_100 i9_8_101 i9_8_102 i9_8_103 i9_8_104 i9_8_105 i9_8_106 i9_8_107 i9_8_108 i9_8_109 i9_8_110 i9_8_111 i9_8_112 i9_8_113 i9_8_114 i9_8_115 i9_8_116 i9_8_117 i9_8_118 i9_8_119 i9_8_120 i9_8_121 i9_8_122 i9_8_123 i9_8_124 i9_8_125 i9_8_126 i9_8_127 i9_8_128 i9_8_129 i9_8_130 i9_8_131 i9_8_132 i9_8_133 i9_8_134 i9_8_135 i9_8_136 i9_8_137 i9_8_138 i9_8_139 i9_8_140 i9_8_141 i9_8_142 i9_8_143 i9_8_144 i9_8_145 i9_8_146 i9_8_147 i9_8_148 i9_8_149 i9_8_150 i9_8_151 i9_8_152 i9_8_153 i9_8_154 i9_8_155 i9_8_156 i9_8_157 i9_8_158 i9_8_159 i9_8_160 i9_8_161 i9_8_162 i9_8_163 u193 i9_8_164 i9_8_165 i9_8_166 i9_8_167 i9_8_168 i9_8_169 i9_8_170 i9_8_171 i9_8_172 i9_8_173 i9_8_174 i9_8_175 i9_8_176 i9_8_177 i9_8_178 i9_8_179 i9_8_180 i9_8_181 i9_8_182 i9_8_183 i9_8_184 i9_8_185 i9_8_186 i9_8_187 i9_8_188 i9_8_189 i9_8_190 i9_8_191 i9_8_192 i9_8_193 i9_8_194 i9_8_195 i9_8_196 i9_8_197 i9_8_198 i9_8_199 i9_8_200 i9_8_201 i9_8_202 i9_8_203 i9_8_204 i9_8_205 i9_8_206 i9_8_207 i9_8_208 i9_8_209 i9_8_210 i9_8_211 i9_8_212 i9_8_213 i9_8_214 i9_8_215 i9_8_216 i9_8_217 i9_8_218 i9_8_219 i9_8_220 i9_8_221 i9_8_222 i9_8_223 i9_8_224 i9_8_225 i9_8_226 i9_8_227 i9_8_228 i9_8_229 i9_8_230 i9_8_231 i9_8_232 V hEx hwV i9_7_2 i9_7_3 ts' p4 p5 b1 b2 b3 cS qL cL qR cR qK cK gT HSL2 V5 s' tv' i9_6_1 i9_6_2 W6 r1 r2 W7 ν listed W W8 L2 er3 p4c x0 x1 x2 x3 x4 x5 x6 x7 hE8 hE9 a0 g0 g1 g2 g3 g4 g5 g6 g7 m0 m1 m2 m3 m4 m5 m6 l1 l2 l3 l4 l5 R2 R1 TL2 TL HT1 HER HT3 HJ1 HJ3 HAM HJU HW1 HER5 HERR X6 qv2 cv2 HV2 u30 u31 u32 u33 u34 u35 u36 u37 u38 u39 u40 u41 u42 u43 u44 u45 u46 u47 u48 u49 u50 u51 u52 u53 u54 u55 u56 u57 u58 u59 u60 u61 u62 u63 u64 u65 u66 u67 u68 u69 u70 u71 u72 u73 u74 u75 u76 u77 u78 u79 u80 u81 u82 u83 u84 u85 u86 u87 u88 u89 u90 u91 u92 u93 u94 u95 u96 u97 u98 u99 u100 u101 u102 u103 u104 u105 u106 u107 u108 u109 u110 u111 u112 u113 u114 u115 u116 u117 u118 u119 u120 u121 u122 u123 u124 u125 u126 u127 u128 u129 u130 u131 u132 u133 u134 u135 u136 u137 u138 u139 u140 u141 u142 u143 u144 u145 u146 u147 u148 u149 u150 u151 u152 u153 u154 u155 u156 u157 u158 u159 u160 u161 u162 u163 u164 u165 u166 u167 u168 u169 u170 u171 u172 u173 u174 u175 u176 u177 u178 u179 u180 u181 u182 u183 u184 u185 u186 u187 u188 u189 u190 u191 u192 u194 u195 u196 u197 u198 u199 u200 u201 u202 u203 u204 u205 u206 u207 u208 u209 u210 u211 u212 u213 u214 u215 u216 u217 u218 u219 u220 u221 u222 u223 u224 u225 u226 u227 u228 u229 u230 u231 u232 u233 u234 u235 u236 u237 u238 u239 u240 u241 u242 u245 u246 u247 u248 u249 u250 u251 u252 u253 u254 u255 u256 u257 u258 u259 u260 u261 u262 u263 u264 X7 i9_8_233 i9_8_234
  obtain ⟨Wc, hWc⟩ : ∃ W, World.ext (World.ext W8 X6) X7 = W := ⟨_, rfl⟩
  have hEc : W8.Exts Wc := by rw [← hWc]; exact exq
  rw [hWc]
  clear hWc X6 X7 HV2 HW1 HT3 HAM HER5
  replace a0 := hEc.cell a0
  replace g0 := hEc.cell g0
  replace g1 := hEc.cell g1
  replace g2 := hEc.cell g2
  replace g3 := hEc.cell g3
  replace g4 := hEc.cell g4
  replace g5 := hEc.cell g5
  replace g6 := hEc.cell g6
  replace g7 := hEc.cell g7
  replace m0 := hEc.cell m0
  replace m1 := hEc.cell m1
  replace m2 := hEc.cell m2
  replace m3 := hEc.cell m3
  replace m4 := hEc.cell m4
  replace m5 := hEc.cell m5
  replace m6 := hEc.cell m6
  replace p4c := hEc.cell p4c
  replace x0 := hEc.cell x0
  replace x1 := hEc.cell x1
  replace x2 := hEc.cell x2
  replace x3 := hEc.cell x3
  replace x4 := hEc.cell x4
  replace x5 := hEc.cell x5
  replace x6 := hEc.cell x6
  replace x7 := hEc.cell x7
  replace l1 := Lays.of_cell a0
  replace l2 := Lays.of_cell g0
  replace l3 := Lays.of_cell m0
  replace l4 := Lays.of_cell p4c
  replace l5 := Lays.of_cell x0
  have hwc := hE9.trans hEc
  obtain ⟨⟨P1, u1⟩, e1⟩ := R1
  obtain ⟨⟨P2, u2⟩, e2⟩ := R2
  have hju := HJU.out
  have herr := HERR.out
  have J1 := fun (W : World) (hE : Wc.Exts W) => HJ1.out W (hEc.trans hE)
  have J3 := fun (W : World) (hE : Wc.Exts W) => HJ3.out W (hEc.trans hE)
  dsimp only at hju herr J1 J3
  clear HJU HERR HJ1 HJ3
  have HJ1 := Lib.hid J1
  clear J1
  have HJ3 := Lib.hid J3
  clear J3
  rcases Int.lt_or_le 0 e1 with hpos | hneg
  ·
    as_aux_lemma =>
    have h68 := herr (by omega)
    clear hju herr hpos
    rcases h68 with h | h
    all_goals
      subst h
      go_wp2_with (go_at_call 32; (first | (with_reducible refine (HJ1.out _ exq).mono ?_) | (with_reducible refine (HJ3.out _ exq).mono ?_)); rintro e w' ⟨vp, rfl, hp9, X8, rfl⟩; (obtain ⟨qp, cp, rfl⟩ := hp9.len); clear hp9)
      go_ret
      exact ⟨rfl, (exf hwc)⟩
  obtain rfl : e1 = 0 := by
    by_cases h : e1 = 0
    · exact h
    · have := herr h; omega
  obtain ⟨hz2, hop, hp1, hp2, hpp⟩ := hju rfl
  subst hz2
  clear herr hju hneg
  have HOP := Lib.hid hop
  clear hop
  have HP1 := Lib.hid hp1
  clear hp1
  have HP2 := Lib.hid hp2
  clear hp2
  have HPP := Lib.hid hpp
  clear hpp
  go_upto_region 28 with (go_at_call 32; (first | ((with_reducible refine (HJ1.out _ exq).mono ?_); rintro e w' ⟨vp, rfl, hp9, X8, rfl⟩; (have hlen := hp9.len); rw [HP1.out] at hlen; (obtain ⟨qp, cp, rfl⟩ := hlen); (have HPA := Lib.hid hp9); clear hp9) | ((with_reducible refine (HJ3.out _ exq).mono ?_); rintro e w' ⟨vp, rfl, hp9, X9, rfl⟩; (have hlen := hp9.len); rw [HP2.out] at hlen; (obtain ⟨qk, ck, rfl⟩ := hlen); (have HPB := Lib.hid hp9); clear hp9)))
  obtain ⟨Wd, hWd⟩ : ∃ W, World.ext _ X9 = W := ⟨_, rfl⟩
  have hEd : w.Exts Wd := by rw [← hWd]; exact (exf hwc)
  have hpa := HPA.out.mono (w' := Wd) (by rw [← hWd]; exact exq)
  have hpb := HPB.out.mono (w' := Wd) (by rw [← hWd]; exact World.Exts.refl _)
  rw [hWd]
  clear hWd HPA HPB HJ1 HJ3 a0 g0 g1 g2 g3 g4 g5 g6 g7 m0 m1 m2 m3 m4 m5 m6 p4c x0 x1 x2 x3 x4 x5 x6 x7 l1 l2 l3 l4 l5 hwc
  obtain ⟨qp', bp, op, cp', e, hmp, hqp, hcp⟩ := hpa.ex
  simp only [Value.slice.injEq] at e
  obtain ⟨rfl, -, rfl⟩ := e
  obtain ⟨qk', bk, ok, ck', e, hmk, hqk, hck⟩ := hpb.ex
  simp only [Value.slice.injEq] at e
  obtain ⟨rfl, -, rfl⟩ := e
  obtain ⟨rfl, hlp⟩ := hqp (by rw [HP1.out]; omega)
  obtain ⟨rfl, hlk⟩ := hqk (by rw [HP2.out]; omega)
  have HCP := Lib.hid hcp
  clear hcp
  have HCK2 := Lib.hid hck
  clear hck
  clear hpa hpb hqp hqk hmp hmk
  go_cut [241] (fun c wx => c = .bool false ∧ Wd = wx)
  case first =>
    rcases HOP.out with h | h
    · subst h
      go_wp2_with fail
      go_meet
      exact ⟨rfl, rfl⟩
    · subst h
      by_cases hu : u1 = 1
      · subst hu
        go_wp2_with fail
        go_meet
        exact ⟨rfl, rfl⟩
      · have n1 : ((1 : Int) != u1) = true := by simp; omega
        have n2 : ((1 : Int) == u1) = false := beq_eq_false_iff_ne.2 (by omega)
        have n3 : decide ((1 : Int) = u1) = false := by simp; omega
        have n4 : ((1 : Int) = u1) = False := eq_false (by omega)
        clear hu
        go_wp2_with fail
        go_meet
        exact ⟨rfl, rfl⟩
  case rest =>
  obtain ⟨rfl, rfl⟩ := hcut
  clear HOP
  go_wp2_with fail
  go_loopw [244] (fun i wr => ∃ j : Nat, j ≤ 5 ∧ i = .int .i64 j ∧ Wd.Exts wr) (fun i _ => 5 - (intOf i).toNat)
  case atStart => exact ⟨0, Nat.zero_le _, rfl, World.Exts.refl _⟩
  case round =>
    obtain ⟨j, hj, rfl, hE⟩ := hrel
    obtain ⟨X, rfl⟩ := hE
    rcases Nat.lt_or_ge j 5 with hlt | hge
    ·
      obtain ⟨a, ha⟩ := some_of_lt (xs := P1) (k := j) (by rw [HP1.out]; exact hlt)
      obtain ⟨c, hc⟩ := some_of_lt (xs := P2) (k := j) (by rw [HP2.out]; exact hlt)
      have k0 := HCP.out j a ha 0 _ rfl
      have k1 := HCK2.out j c hc 0 _ rfl
      simp only [Nat.mul_one, Nat.add_zero] at k0 k1
      have nk0 := Lays.of_cell k0
      have nk1 := Lays.of_cell k1
      have hoj := HPP.out j a c ha hc
      clear ha hc
      have w6 : (0 : Int) ≤ (j : Int) := by omega
      have w7 : (j : Int) < 5 := by omega
      rcases hoj with h | h
      · subst h
        clear HCP HCK2 HPP HP1 HP2
        go_upto_region 33 with (fail)
        refine wp_region_ext (by kernel_rfl) (by kernel_rfl) ?_
        repeat (go_big_quiet_step (fail))
        refine wpQuiet_nil ?_
        rintro _ ⟨X, rfl⟩
        go_wp2_with fail
        go_roundw
        case rel => exact ⟨j + 1, by omega, by go_num, exq⟩
        case measure => simp [intOf]; omega
      · subst h
        by_cases hu : a = 1
        · subst hu
          clear HCP HCK2 HPP HP1 HP2
          go_upto_region 33 with (fail)
          refine wp_region_ext (by kernel_rfl) (by kernel_rfl) ?_
          repeat (go_big_quiet_step (fail))
          refine wpQuiet_nil ?_
          rintro _ ⟨X, rfl⟩
          go_wp2_with fail
          go_roundw
          case rel => exact ⟨j + 1, by omega, by go_num, exq⟩
          case measure => simp [intOf]; omega
        · have n1 : ((1 : Int) != a) = true := by simp; omega
          have n2 : ((1 : Int) == a) = false := beq_eq_false_iff_ne.2 (by omega)
          have n3 : decide ((1 : Int) = a) = false := by simp; omega
          have n4 : ((1 : Int) = a) = False := eq_false (by omega)
          clear hu HCP HCK2 HPP HP1 HP2
          go_upto_region 33 with (fail)
          refine wp_region_ext (by kernel_rfl) (by kernel_rfl) ?_
          repeat (go_big_quiet_step (fail))
          refine wpQuiet_nil ?_
          rintro _ ⟨X, rfl⟩
          go_wp2_with fail
          go_roundw
          case rel => exact ⟨j + 1, by omega, by go_num, exq⟩
          case measure => simp [intOf]; omega
    go_wp2_with fail
    go_ret
    exact ⟨rfl, (exf hEd)⟩
theorem l04wd_any (ts : List (Kr.Scale × Value)) (v : Value) (g : Gear) (lv rv sv : Value) (n : Norm) (more : Kr.Trial) (by_ : List Int) (bv : Value) (w : World) (hrow : BayAt w v ts)
    (hl : IsRow (fun t : Kr.Load => [.int .i64 t.scale, .int .i64 t.shown]) 2 w lv g.loads) (hr : IsRow (fun x : Int => [.int .i64 x]) 1 w rv g.runners) (hs : IsRow (fun x : Int => [.int .i64 x]) 1 w sv g.strokes) (hwf : ∀ l ∈ g.loads, (Lit.int .i64 l.scale).wf = true) (hby : IsRow (fun x : Int => [.int .u32 x]) 1 w bv by_) (hbb : ∀ x ∈ by_, 0 ≤ x ∧ x ≤ 4294967295) (hcd : CondsAt w) :
    Calls Tryz.prog 9 #[.agg #[v], .agg #[lv, .int .i64 g.added, .int .i64 g.base, .int .i64 g.jitter, rv, sv, .int .i64 g.spread, .bool g.stamp], .agg #[.int .i64 n.total.lo, .int .i64 n.total.hi, .int .i64 n.added, .int .i64 n.warm, .int .i64 n.hard.lo, .int .i64 n.hard.hi, .bool n.stamp], .agg #[.int .i64 more.weight, .int .i64 more.shown], bv] w fun e w' => e = .returned (.bool true) ∧ w.Exts w' :=
  (l04wd_any_c1.property (l04wd_any_c2.property (l04wd_any_c3.property (l04wd_any_c4.property (l04wd_any_c5.property (l04wd_any_c6.property (l04wd_any_c7.property (l04wd_any_c8.property l04wd_any_last)))))))) ts v g lv rv sv n more by_ bv w hrow hl hr hs hwf hby hbb hcd
end Go.Proofs.YtfjkiemjmnnbkaaGreatDoor
