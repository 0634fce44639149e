/-
  The law ScaleTrials: its walk.
-/
import Derived.Test.YtfjkiemjmnnbkaaGreatDoorLTr4
namespace Go.Proofs.YtfjkiemjmnnbkaaGreatDoor
open Go.RowKit Kr
set_option linter.unusedSimpArgs false

set_option maxRecDepth 100000 in
set_option maxHeartbeats 8000000 in
theorem l04t_any_last : l04t_any_c4.val := by
  intro s gain off weight more w hgb hob hwb qt ct HR HCD h10 hid hst h6 hgn1 hgn2 hgn3 hof1 hof2 hof3 hx hy hw1 E1 E2 E3 E4 F1 F2 F3 F4 HRT i9_1_1 X0 i9_1_2 X1 i9_1_3 X er HTU HRE HER X2 ql bl ol cl hml X3 i9_3_1 i9_3_2 i9_3_3 i9_3_4 i9_3_5 i9_3_6 i9_3_7 i9_3_8 i9_3_9 i9_3_10 i9_3_11 i9_3_12 i9_3_13 i9_3_14 i9_3_15 i9_3_16 i9_3_17 i9_3_18 i9_3_19 i9_3_20 i9_3_21 i9_3_22 i9_3_23 i9_3_24 i9_3_25 i9_3_26 i9_3_27 i9_3_28 i9_3_29 i9_3_30 i9_3_31 i9_3_32 i9_3_33 i9_3_34 i9_3_35 i9_3_36 i9_3_37 i9_3_38 i9_3_39 i9_3_40 i9_3_41 i9_3_42 i9_3_43 i9_3_44 i9_3_45 i9_3_46 i9_3_47 i9_3_48 i9_3_49 i9_3_50 i9_3_51 i9_3_52 i9_3_53 i9_3_54 i9_3_55 i9_3_56 i9_3_57 i9_3_58 i9_3_59 i9_3_60 i9_3_61 i9_3_62 i9_3_63 i9_3_64 i9_3_65 i9_3_66 i9_3_67 i9_3_68 i9_3_69 i9_3_70 i9_3_71 i9_3_72 i9_3_73 i9_3_74 i9_3_75 i9_3_76 i9_3_77 i9_3_78 i9_3_79 i9_3_80 i9_3_81 i9_3_82 i9_3_83 i9_3_84 i9_3_85 i9_3_86 i9_3_87 i9_3_88 i9_3_89 i9_3_90 i9_3_91 i9_3_92 i9_3_93 i9_3_94 i9_3_95 i9_3_96 i9_3_97 i9_3_98 i9_3_99 i9_3_100 i9_3_101 i9_3_102 i9_3_103 i9_3_104 i9_3_105 i9_3_106 i9_3_107 i9_3_108 i9_3_109 i9_3_110 i9_3_111 i9_3_112 i9_3_113 i9_3_114 i9_3_115 i9_3_116 i9_3_117 i9_3_118 i9_3_119 i9_3_120 i9_3_121 i9_3_122 i9_3_123 i9_3_124 i9_3_125 i9_3_126 i9_3_127 i9_3_128 i9_3_129 i9_3_130 i9_3_131 i9_3_132 i9_3_133 i9_3_134 i9_3_135 i9_3_136 i9_3_137 i9_3_138 i9_3_139 i9_3_140 i9_3_141 i9_3_142 i9_3_143 i9_3_144 i9_3_145 i9_3_146 i9_3_147 i9_3_148 i9_3_149 i9_3_150 i9_3_151 i9_3_152 i9_3_153 i9_3_154 i9_3_155 i9_3_156 i9_3_157 i9_3_158 i9_3_159 i9_3_160 i9_3_161 i9_3_162 i9_3_163 i9_3_164 i9_3_165 i9_3_166 i9_3_167 i9_3_168 i9_3_169 i9_3_170 i9_3_171 i9_3_172 i9_3_173 i9_3_174 i9_3_175 i9_3_176 i9_3_177 i9_3_178 i9_3_179 i9_3_180 X35 i9_1_4 V hEV b0 b1 b2 b3 b4 b5 b6 m0 m1 br d0 d1 n1 n2 n3 i9_4_1 i9_4_2 HTB HRD HTI HTT HINC HLO HHI HTOLD u10 u22 u23 u25 u26 i9_3_181 i9_3_182 i9_3_183 i9_3_184 i9_3_185 i9_3_186 i9_3_187 i9_3_188 i9_3_189 i9_3_190 i9_3_191 i9_3_192 i9_3_193 i9_3_194 i9_3_195 i9_3_196 i9_3_197 i9_3_198 i9_3_199 i9_3_200 i9_3_201 i9_3_202 i9_3_203 i9_3_204 i9_3_205 i9_3_206 i9_3_207 i9_3_208 i9_3_209 i9_3_210 i9_3_211 i9_3_212 i9_3_213 i9_3_214 i9_3_215 i9_3_216 i9_3_217 i9_3_218 i9_3_219 i9_3_220 i9_3_221 i9_3_222 i9_3_223 i9_3_224 i9_3_225 i9_3_226 i9_3_227 i9_3_228 i9_3_229 i9_3_230 i9_3_231 i9_3_232 i9_3_233 i9_3_234 i9_3_235 i9_3_236 i9_3_237 i9_3_238 i9_3_239 i9_3_240 i9_3_241 i9_3_242 i9_3_243 i9_3_244 i9_3_245 i9_3_246 i9_3_247 i9_3_248 i9_3_249 i9_3_250 i9_3_251 i9_3_252 i9_3_253 i9_3_254 i9_3_255 i9_3_256 i9_3_257 i9_3_258 i9_3_259 i9_3_260 u195 u196 u197 i9_3_261 i9_3_262 i9_3_263 i9_3_264 i9_3_265 i9_3_266 i9_3_267 i9_3_268 i9_3_269 i9_3_270 i9_3_271 i9_3_272 i9_3_273 i9_3_274 i9_3_275 i9_3_276 i9_3_277 i9_3_278 i9_3_279 i9_3_280 i9_3_281 i9_3_282 i9_3_283 i9_3_284 i9_3_285 i9_3_286 i9_3_287 i9_3_288 i9_3_289 i9_3_290 i9_3_291 i9_3_292 i9_3_293 i9_3_294 i9_3_295 i9_3_296 i9_3_297 i9_3_298 i9_3_299 i9_3_300 i9_3_301 i9_3_302 i9_3_303 i9_3_304 k bt bl2 bh hk X4 hlt HBE HER2 hxb H1 HCR HCT hEX i9_3_305 i9_3_306 i9_3_307 i9_3_308 i9_3_309 i9_3_310 i9_3_311 i9_3_312 i9_3_313 i9_3_314 i9_3_315 i9_3_316 i9_3_317 i9_3_318 i9_3_319 i9_3_320 i9_3_321 i9_3_322 i9_3_323 i9_3_324 i9_3_325 i9_3_326 i9_3_327 i9_3_328 i9_3_329 i9_3_330 i9_3_331 i9_3_332 i9_3_333 i9_3_334 i9_3_335 i9_3_336 i9_3_337 i9_3_338 i9_3_339 i9_3_340 i9_3_341 i9_3_342 i9_3_343 i9_3_344 i9_3_345 i9_3_346 i9_3_347 i9_3_348 i9_3_349 i9_3_350 i9_3_351 i9_3_352 i9_3_353 i9_3_354 i9_3_355 i9_3_356 i9_3_357 i9_3_358 i9_3_359 i9_3_360 i9_3_361 i9_3_362 i9_3_363 i9_3_364 i9_3_365 i9_3_366 i9_3_367 i9_3_368 i9_3_369 i9_3_370 i9_3_371 i9_3_372 i9_3_373 i9_3_374 i9_3_375 i9_3_376 i9_3_377 i9_3_378 i9_3_379 i9_3_380 i9_3_381 i9_3_382 i9_3_383 i9_3_384 i9_3_385 i9_3_386 i9_3_387 i9_3_388 i9_3_389 i9_3_390 i9_3_391 i9_3_392 i9_3_393 i9_3_394 i9_3_395 i9_3_396 i9_3_397 i9_3_398 i9_3_399 i9_3_400 i9_3_401 i9_3_402 i9_3_403 i9_3_404 i9_3_405 i9_3_406 i9_3_407 i9_3_408 i9_3_409 i9_3_410 i9_3_411 i9_3_412 i9_3_413 i9_3_414 i9_3_415 i9_3_416 i9_3_417 i9_3_418 i9_3_419 i9_3_420 i9_3_421 i9_3_422 i9_3_423 i9_3_424 i9_3_425 i9_3_426 i9_3_427 i9_3_428 i9_3_429 i9_3_430 i9_3_431 i9_3_432 i9_3_433 i9_3_434 i9_3_435 i9_3_436 i9_3_437 i9_3_438 i9_3_439 i9_3_440 i9_3_441 i9_3_442 i9_3_443 i9_3_444 i9_3_445 i9_3_446 i9_3_447 i9_3_448 i9_3_449 i9_3_450 i9_3_451 i9_3_452 i9_3_453 i9_3_454 i9_3_455 i9_3_456 i9_3_457 i9_3_458 i9_3_459 i9_3_460 i9_3_461 i9_3_462 i9_3_463 i9_3_464 i9_3_465 i9_3_466 i9_3_467 i9_3_468 i9_3_469 i9_3_470 i9_3_471 i9_3_472 i9_3_473 i9_3_474 i9_3_475 i9_3_476 i9_3_477 i9_3_478 i9_3_479 i9_3_480 i9_3_481 i9_3_482 i9_3_483 i9_3_484 i9_3_485 i9_3_486 i9_3_487 i9_3_488 i9_3_489 i9_3_490 i9_3_491 i9_3_492 i9_3_493 i9_3_494 i9_3_495 i9_3_496 i9_3_497 i9_3_498 i9_3_499 i9_3_500 i9_3_501 i9_3_502 i9_3_503 i9_3_504 i9_3_505 i9_3_506 i9_3_507 i9_3_508 i9_3_509 i9_3_510 i9_3_511 i9_3_512 i9_3_513 i9_3_514 i9_3_515 i9_3_516 i9_3_517 i9_3_518 i9_3_519 i9_3_520 i9_3_521 i9_3_522 i9_3_523 i9_3_524 i9_3_525 i9_3_526 i9_3_527 i9_3_528 i9_3_529 i9_3_530 i9_3_531 i9_3_532 i9_3_533 i9_3_534 i9_3_535 i9_3_536 i9_3_537 i9_3_538 i9_3_539 i9_3_540 i9_3_541 i9_3_542 i9_3_543 i9_3_544 i9_3_545 i9_3_546 i9_3_547 i9_3_548 u284 i9_3_549 i9_3_550 i9_3_551 i9_3_552 i9_3_553 i9_3_554 i9_3_555 i9_3_556 i9_3_557 i9_3_558 i9_3_559 i9_3_560 i9_3_561 i9_3_562 i9_3_563 i9_3_564 i9_3_565 i9_3_566 i9_3_567 i9_3_568 i9_3_569 i9_3_570 i9_3_571 i9_3_572 i9_3_573 i9_3_574 i9_3_575 i9_3_576 i9_3_577 i9_3_578 i9_3_579 i9_3_580 i9_3_581 i9_3_582 i9_3_583 i9_3_584 i9_3_585 i9_3_586 i9_3_587 i9_3_588 i9_3_589 i9_3_590 i9_3_591 i9_3_592 i9_3_593 i9_3_594 i9_3_595 i9_3_596 i9_3_597 i9_3_598 i9_3_599 i9_3_600 i9_3_601 i9_3_602 i9_3_603 i9_3_604 i9_3_605 i9_3_606 i9_3_607 i9_3_608 i9_3_609 i9_3_610 X9 X10 u36 u37 u38 u39 u40 u41 u42 u43 u44 u45 u46 u47 u48 u49 u50 u51 u52 u53 u54 u55 u56 u57 u58 u59 u60 u61 u62 u63 u64 u65 u66 u67 u68 u69 u70 u71 u72 u73 u74 u75 u76 u77 u78 u79 u80 u81 u82 u83 u84 u85 u86 u87 u88 u89 u90 u91 u92 u93 u94 u95 u96 u97 u98 u99 u100 u101 u102 u103 u104 u105 u106 u107 u108 u109 u110 u111 u115 u116 u117 u118 u119 u120 u121 u122 u123 u124 u125 u126 u127 u128 u129 u130 u131 u132 u133 u134 u135 u136 u137 u138 u139 u140 u141 u142 u143 u144 u145 u146 u147 u148 u149 u150 u151 u152 u153 u154 u155 u156 u157 u158 u159 u160 u161 u162 u163 u164 u165 u166 u167 u168 u169 u170 u171 u172 u173 u174 u175 u176 u177 u178 u179 u180 u181 u182 u183 u184 u185 u186 u187 u188 u189 u190 u191 u192 u193 u194 u198 u199 u200 u201 u202 u203 u204 u205 u206 u207 u208 u209 u210 u211 u212 u213 u214 u215 u216 u217 u218 u219 u220 u221 u222 u223 u224 u225 u226 u227 u228 u229 u230 u231 u232 u233 u234 u235 u236 u237 u238 u239 u240 u241 u242 u243 u244 u245 u246 u247 u248 u249 u250 u251 u252 u253 u254 u255 u256 u257 u258 u259 u260 u261 u262 u263 u264 u265 u266 u267 u268 u269 u270 u271 u272 u273 u274 u275 u276 u277 u278 u279 u280 u281 u282 u283 u285 u286 u287 u288 u289 u290 u291 u292 u293 u294 u295 u296 u297 u298 u299 u300 u301 u305 u306 u307 u311 u312 u313 u314 u315 u316 u317 u318 u319 u320 u321 u322 u323 u324 u325 u326 u327 u328 u329 u330 u331 u332 u333 u334 u335 u336 u337 u338 u339 u340 u341 u342 u343 u344 u345 u346 u347 u348 u349 u350 u351 u352 X11 X12 q2 c2 hszw hsz9 hsz10 hsz11 w' p' c' i9_4_3 i9_4_4 i9_4_5 i9_4_6 A hEA hwA bb hsz0 c0 c1 c2' c3 c4 c5 c6 nA bl' ol' hsc htu2 HPL2 HCL2
  cases hrt' : right (tried s more)
  case false =>
    as_aux_lemma =>
    rw [hrt'] at hsc
    have HSC := Lib.hid hsc
    clear hsc
    clear htu2 hrt'
    go_wp2_with (go_at_call 41; refine (HSC.out _ exq).mono ?_; rintro e w' ⟨rfl, X13, rfl⟩)
    go_ret
    exact ⟨rfl, (exf hwA)⟩
  rw [hrt'] at hsc
  simp only [if_pos hrt'] at htu2
  obtain ⟨er3, her3⟩ : ∃ er3 : Int, er3 = (if tunes (tried s more) = [] then 6 else 0) := ⟨_, rfl⟩
  rw [← her3] at htu2
  have her4 : er3 = 0 ∨ er3 = 6 := by split at her3 <;> omega
  have HSC := Lib.hid hsc
  clear hsc
  have HTU2 := Lib.hid htu2
  clear htu2
  have HER4 := Lib.hid her4
  clear her4
  clear hrt' her3
  go_wp2_with (first
    | (go_at_call 41; refine (HSC.out _ exq).mono ?_; rintro e w' ⟨rfl, X13, rfl⟩)
    | (go_at_call 42; refine (HTU2.out _ exq).mono ?_; rintro e w' ⟨v3, rfl, hv3, X14, rfl⟩; (obtain ⟨q3, b3', o3, c3', rfl, hml3, hpl3, hcl3⟩ := hv3.ex); (have HPL3 := Lib.hid hpl3); (have HCL3 := Lib.hid hcl3); clear hv3 hpl3 hcl3))
  go_loopw [304] (fun i wr => ∃ k3 : Nat, k3 ≤ (tunes (tried s more)).length ∧ i = .int .i64 k3 ∧ (World.ext _ X14).Exts wr) (fun i _ => (tunes (tried s more)).length - (intOf i).toNat)
  case atStart => exact ⟨0, Nat.zero_le _, rfl, exq⟩
  case round =>
    obtain ⟨k3, hk3, rfl, hE⟩ := hrel
    obtain ⟨X15, rfl⟩ := hE
    by_cases hlt3 : k3 < (tunes (tried s more)).length
    ·
      as_aux_lemma =>
      obtain ⟨rfl, hlay3⟩ := HPL3.out (by omega)
      obtain ⟨t3, ht3⟩ := some_of_lt hlt3
      have hcs3 := HCL3.out k3 t3 ht3
      have c0 := hcs3 0 _ rfl
      have c1 := hcs3 1 _ rfl
      have c2 := hcs3 2 _ rfl
      simp only [Nat.add_zero] at c0 c1 c2
      have hany : (tunes s).any (fun b => t3.gain == b.gain && (decide (b.off.lo ≤ t3.off.lo) && decide (t3.off.hi ≤ b.off.hi))) = true := by
        obtain ⟨b5, hb5, hg5, hl5, hh5⟩ := tried_in (List.mem_of_getElem? ht3)
        exact List.any_eq_true.2 ⟨b5, hb5, by simp [hg5, hl5, hh5]⟩
      have HANY := Lib.hid hany
      clear hany
      clear ht3
      go_upto_region 43 with (fail)
      obtain ⟨V4, hV4⟩ : ∃ V4, (World.ext _ X15).alloc (.cells #[.int .i64 t3.gain, .int .i64 t3.off.lo, .int .i64 t3.off.hi] 101) = V4 := ⟨_, rfl⟩
      have hEV4 : (World.ext _ X14).Exts V4 := by rw [← hV4]; exact exq
      have hAV4 : A.Exts V4 := by rw [← hV4]; exact exq
      have t0 : V4.cell? ⟨(World.ext _ X15).heap.size, 0, none⟩ = some (.int .i64 t3.gain) := by rw [← hV4]; simp [go_sem]
      have t1 : V4.cell? ⟨(World.ext _ X15).heap.size, 1, none⟩ = some (.int .i64 t3.off.lo) := by rw [← hV4]; simp [go_sem]
      have t2 : V4.cell? ⟨(World.ext _ X15).heap.size, 2, none⟩ = some (.int .i64 t3.off.hi) := by rw [← hV4]; simp [go_sem]
      rw [hV4]
      clear hV4
      generalize (World.ext _ X15).heap.size = nt at *
      have n4 := Lays.of_cell t0
      go_loopw [33, 310] (fun f i wr => ∃ (k4 : Nat) (bf : Bool), k4 ≤ (tunes s).length ∧ f = .bool bf ∧ i = .int .i64 k4 ∧ Hid (bf = ((tunes s).take k4).any fun b => t3.gain == b.gain && (decide (b.off.lo ≤ t3.off.lo) && decide (t3.off.hi ≤ b.off.hi))) ∧ V4.Exts wr) (fun _ i _ => (tunes s).length - (intOf i).toNat)
      case atStart => exact ⟨0, false, Nat.zero_le _, rfl, rfl, Lib.hid rfl, exq⟩
      case round =>
        obtain ⟨k4, bf, hk4, rfl, rfl, HBF, hE⟩ := hrel
        obtain ⟨X16, rfl⟩ := hE
        by_cases hlt4 : k4 < (tunes s).length
        · obtain ⟨rfl, hlay4⟩ := HPL2.out (by omega)
          obtain ⟨t4, ht4⟩ := some_of_lt hlt4
          have hcs4 := fun j u hj => hAV4.cell (HCL2.out k4 t4 ht4 j u hj)
          have c0 := hcs4 0 _ rfl
          have c1 := hcs4 1 _ rfl
          have c2 := hcs4 2 _ rfl
          simp only [Nat.add_zero] at c0 c1 c2
          have n9 := Lays.of_cell c0
          have hnx : ((tunes s).take (k4 + 1)).any (fun b => t3.gain == b.gain && (decide (b.off.lo ≤ t3.off.lo) && decide (t3.off.hi ≤ b.off.hi))) = (bf || (t3.gain == t4.gain && (decide (t4.off.lo ≤ t3.off.lo) && decide (t3.off.hi ≤ t4.off.hi)))) := by
            rw [take_snoc ht4, List.any_append, ← HBF.out]; simp
          have HNX := Lib.hid hnx
          clear hnx
          clear ht4 HBF
          cases bf
          all_goals
            cases hg6 : (t3.gain == t4.gain)
            all_goals
              by_cases hl6 : t4.off.lo ≤ t3.off.lo
              all_goals
                by_cases hh6 : t3.off.hi ≤ t4.off.hi
                all_goals
                  as_aux_lemma =>
                  go_wp2_with fail
                  go_roundw
                  case rel => exact ⟨k4 + 1, _, by omega, rfl, by go_num, Lib.hid (by rw [HNX.out]; simp [hg6, hl6, hh6]), exq⟩
                  case measure => simp [intOf]; omega
        · have hkn4 : k4 = (tunes s).length := by omega
          have h1 := HBF.out
          rw [hkn4, List.take_length, HANY.out] at h1
          subst h1
          clear HBF
          go_wp2_with fail
          exact ⟨⟨k3 + 1, by omega, by go_num, hEV4.trans exq⟩, by simp [intOf]; omega⟩
    · rcases HER4.out with rfl | rfl
      all_goals
        clear HER4
        go_wp2_with fail
        go_ret
        exact ⟨rfl, (exf hwA)⟩
theorem l04t_any (s : Kr.Scale) (tv : Value) (gain off weight : Int) (more : Trial) (w : World) (hrow : IsRow (fun t : Kr.Trial => [.int .i64 t.weight, .int .i64 t.shown]) 2 w tv s.trials) (hg : (Lit.int .u8 gain).wf = true) (ho : (Lit.int .u8 off).wf = true) (hw : (Lit.int .u32 weight).wf = true) (hcd : CondsAt w) :
    Calls Tryz.prog 8 #[.agg #[.int .i64 s.id, .int .i64 s.step, .int .i64 s.gain.lo, .int .i64 s.gain.hi, .int .i64 s.off.lo, .int .i64 s.off.hi, tv], .int .u8 gain, .int .u8 off, .int .u32 weight, .agg #[.int .i64 more.weight, .int .i64 more.shown]] w fun e w' => e = .returned (.bool true) ∧ w.Exts w' :=
  (l04t_any_c1.property (l04t_any_c2.property (l04t_any_c3.property (l04t_any_c4.property l04t_any_last)))) s tv gain off weight more w hrow hg ho hw hcd
end Go.Proofs.YtfjkiemjmnnbkaaGreatDoor
