/-
  The law ScaleTrials: its walk.
-/
import Derived.Test.YtfjkiemjmnnbkaaGreatDoorAm
import Derived.Test.YtfjkiemjmnnbkaaGreatDoorTrl
import Derived.Test.YtfjkiemjmnnbkaaGreatDoorHp
import Derived.Test.YtfjkiemjmnnbkaaGreatDoorTm
import Derived.Test.YtfjkiemjmnnbkaaGreatDoorJb
import Derived.Test.YtfjkiemjmnnbkaaGreatDoorScG
import Derived.Test.YtfjkiemjmnnbkaaGreatDoorScH
import Derived.Deep.DeepCutAuto
namespace Go.Proofs.YtfjkiemjmnnbkaaGreatDoor
open Go.RowKit Kr
set_option linter.unusedSimpArgs false

/-- A number of a span, by another number that goes round. -/
def pickAt (o : Span) (k : Int) : Int := o.lo + k % (o.hi - o.lo + 1)
theorem pickAt_in {o : Span} (h : o.lo ≤ o.hi) (k : Int) : o.lo ≤ pickAt o k ∧ pickAt o k ≤ o.hi := by
  have h1 := Int.emod_nonneg k (show o.hi - o.lo + 1 ≠ 0 by omega)
  have h2 := Int.emod_lt_of_pos k (show 0 < o.hi - o.lo + 1 by omega)
  unfold pickAt
  omega
theorem inL_one (o : Span) (n : Int) : inL [o] n = (decide (o.lo ≤ n) && decide (n ≤ o.hi)) := by simp [inL]
theorem tunes_ready {s : Kr.Scale} (h : right s = true) : (if right s then (if tunes s = [] then (6 : Int) else 0) else 40) = if tunes s = [] then 6 else 0 := if_pos h

set_option maxRecDepth 100000 in
set_option maxHeartbeats 8000000 in
noncomputable def l04t_any_c1 : { G : Prop // G → ∀ (s : Kr.Scale) (tv : Value) (gain off weight : Int) (more : Trial) (w : World) (_ : IsRow (fun t : Kr.Trial => [.int .i64 t.weight, .int .i64 t.shown]) 2 w tv s.trials) (_ : (Lit.int .u8 gain).wf = true) (_ : (Lit.int .u8 off).wf = true) (_ : (Lit.int .u32 weight).wf = true) (_ : CondsAt w),
    Calls Tryz.prog 8 #[.agg #[.int .i64 s.id, .int .i64 s.step, .int .i64 s.gain.lo, .int .i64 s.gain.hi, .int .i64 s.off.lo, .int .i64 s.off.hi, tv], .int .u8 gain, .int .u8 off, .int .u32 weight, .agg #[.int .i64 more.weight, .int .i64 more.shown]] w fun e w' => e = .returned (.bool true) ∧ w.Exts w' } := by
  apply Subtype.mk
  case property =>
  intro hG
  have HG := Lib.hid hG
  clear hG
  intro s tv gain off weight more w hrow hg ho hw hcd
  have hgb := wf_u8 hg
  have hob := wf_u8 ho
  have hwb := wf_u32 hw
  clear hg ho hw
  obtain ⟨qt, ct, rfl⟩ := hrow.len
  have HR := Lib.hid hrow
  clear hrow
  have HCD := Lib.hid hcd
  clear hcd
  rcases Nat.lt_or_ge 10 s.trials.length with h10 | h10
  ·
    as_aux_lemma =>
    go_enter Tryz.func8, Tryz.ntmps8
    go_wp2_with (go_at_call 21; refine (l04_alive_any _ (HCD.out.mono exq)).mono ?_; rintro e w' ⟨rfl, X0, rfl⟩)
    go_ret
    exact ⟨rfl, exq⟩
  cases hrt : right s
  case false =>
    as_aux_lemma =>
    have HRT := Lib.hid hrt
    clear hrt
    go_enter Tryz.func8, Tryz.ntmps8
    go_wp2_with (first
      | (go_at_call 21; refine (l04_alive_any _ (HCD.out.mono exq)).mono ?_; rintro e w' ⟨rfl, X0, rfl⟩)
      | (go_at_call 41; refine (r04_Scale_any s _ _ (HR.out.mono exq)).mono ?_; rintro e w' ⟨rfl, X1, rfl⟩; rw [HRT.out]))
    go_ret
    exact ⟨rfl, exq⟩
  obtain ⟨hid, hst, hgn, hof, h6, -⟩ := right_bounds hrt
  obtain ⟨hgn1, hgn2, hgn3⟩ := hgn
  obtain ⟨hof1, hof2, hof3⟩ := hof
  have hx := pickAt_in hgn2 gain
  have hy := pickAt_in hof2 off
  have hw1 : 0 ≤ weight % 1000001 ∧ weight % 1000001 ≤ 1000000 := by omega
  have e1 : IntKind.i64.wrap (s.gain.hi - s.gain.lo) = s.gain.hi - s.gain.lo := IntWalk.i64_in _ (by omega)
  have e2 : IntKind.i64.wrap (s.gain.hi - s.gain.lo + 1) = s.gain.hi - s.gain.lo + 1 := IntWalk.i64_in _ (by omega)
  have e3 : gain.tmod (s.gain.hi - s.gain.lo + 1) = gain % (s.gain.hi - s.gain.lo + 1) := Int.tmod_eq_emod_of_nonneg hgb.1
  have e4 : IntKind.i64.wrap (s.gain.lo + gain % (s.gain.hi - s.gain.lo + 1)) = pickAt s.gain gain := by have := hx; unfold pickAt at this ⊢; exact IntWalk.i64_in _ (by omega)
  have f1 : IntKind.i64.wrap (s.off.hi - s.off.lo) = s.off.hi - s.off.lo := IntWalk.i64_in _ (by omega)
  have f2 : IntKind.i64.wrap (s.off.hi - s.off.lo + 1) = s.off.hi - s.off.lo + 1 := IntWalk.i64_in _ (by omega)
  have f3 : off.tmod (s.off.hi - s.off.lo + 1) = off % (s.off.hi - s.off.lo + 1) := Int.tmod_eq_emod_of_nonneg hob.1
  have f4 : IntKind.i64.wrap (s.off.lo + off % (s.off.hi - s.off.lo + 1)) = pickAt s.off off := by have := hy; unfold pickAt at this ⊢; exact IntWalk.i64_in _ (by omega)
  have E1 := Lib.hid e1
  clear e1
  have E2 := Lib.hid e2
  clear e2
  have E3 := Lib.hid e3
  clear e3
  have E4 := Lib.hid e4
  clear e4
  have F1 := Lib.hid f1
  clear f1
  have F2 := Lib.hid f2
  clear f2
  have F3 := Lib.hid f3
  clear f3
  have F4 := Lib.hid f4
  clear f4
  have HRT := Lib.hid hrt
  clear hrt
  go_enter Tryz.func8, Tryz.ntmps8
  go_wp2_with (first
    | (go_at_call 21; refine (l04_alive_any _ (HCD.out.mono exq)).mono ?_; rintro e w' ⟨rfl, X0, rfl⟩)
    | (go_at_call 41; refine (r04_Scale_any s _ _ (HR.out.mono exq)).mono ?_; rintro e w' ⟨rfl, X1, rfl⟩; rw [HRT.out]))
  have e1 := E1.out
  have e2 := E2.out
  have e3 := E3.out
  have e4 := E4.out
  have f1 := F1.out
  have f2 := F2.out
  have f3 := F3.out
  have f4 := F4.out
  refine wp_region_ext (by kernel_rfl) (by kernel_rfl) ?_
  repeat (go_big_quiet_step (fail))
  refine wpQuiet_nil ?_
  rintro _ ⟨X, rfl⟩
  clear e1 e2 e3 e4 f1 f2 f3 f4
  have htu := fun (W : World) (hE : w.Exts W) => scale_Tunes_any s _ W (HR.out.mono hE)
  have hre := fun (W : World) (hE : w.Exts W) => scale_Reads_any s _ (weight % 1000001) W (HR.out.mono hE)
  obtain ⟨er, her⟩ : ∃ er : Int, er = (if tunes s = [] then 6 else 0) := ⟨_, rfl⟩
  have hwin : inb 0 1000000 (weight % 1000001) = true := by simp [inb]; omega
  have hrr : reads s (weight % 1000001) = (readsOf s.step (weight % 1000001) (tunes s), er) := by
    unfold reads
    rw [if_pos HRT.out, if_pos hwin, her]
    by_cases h : tunes s = []
    · rw [if_pos h, if_pos h, h]; rfl
    · rw [if_neg h, if_neg h]
  simp only [if_pos HRT.out] at htu
  rw [← her] at htu
  rw [hrr] at hre
  have HTU := Lib.hid htu
  clear htu
  have HRE := Lib.hid hre
  clear hre
  have HER := Lib.hid her
  clear her
  clear hrr hwin
  go_upto_region 10 with (first
    | (go_at_call 42; refine (HTU.out _ exq).mono ?_; rintro e w' ⟨v1, rfl, hv1, X2, rfl⟩; (obtain ⟨ql, bl, ol, cl, rfl, hml, hpl, hcl⟩ := hv1.ex); (have HV1 := Lib.hid hv1); (have HPL := Lib.hid hpl); (have HCL := Lib.hid hcl); clear hv1 hpl hcl)
    | (go_at_call 27; refine (HRE.out _ exq).mono ?_; rintro e w' ⟨rfl, X3, rfl⟩))
  go_cut [111] (fun c wx => c = .bool false ∧ ((World.ext _ X3).alloc (.cells #[.int .i64 (readsOf s.step (weight % 1000001) (tunes s)).lo, .int .i64 (readsOf s.step (weight % 1000001) (tunes s)).hi] 42)).Exts wx)
  case first =>
    as_aux_lemma =>
    by_cases htn : tunes s = []
    · have h6 : er = 6 := by rw [HER.out, if_pos htn]
      have hl0 : (tunes s).length = 0 := by rw [htn]; rfl
      clear HER htn
      subst h6
      generalize (tunes s).length = n at *
      have w3 : ((0 : Int) < (n : Int)) = False := eq_false (by omega)
      have w9 : (0 < n) = False := eq_false (by omega)
      clear hl0
      go_wp2_with fail
      go_meet
      exact ⟨rfl, exq⟩
    · have h6 : er = 0 := by rw [HER.out, if_neg htn]
      have hll : 0 < (tunes s).length := by rcases h : tunes s with _ | ⟨a, l⟩; exact absurd h htn; simp
      clear HER htn
      subst h6
      generalize (tunes s).length = n at *
      go_wp2_with fail
      go_meet
      exact ⟨rfl, exq⟩
  case rest =>
  obtain ⟨rfl, hE9⟩ := hcut
  obtain ⟨X35, rfl⟩ := hE9
  go_wp2_with fail
  have hzX3 := World.size_ext_le _ X3
  obtain ⟨V, hV⟩ : ∃ V, World.ext _ X35 = V := ⟨_, rfl⟩
  have hEV : w.Exts V := by rw [← hV]; exact exq
  have hLV := HV1.out.mono (w' := V) (by rw [← hV]; exact exq)
  have d0 : V.cell? ⟨(World.ext _ X3).heap.size, 0, none⟩ = some (.int .i64 (readsOf s.step (weight % 1000001) (tunes s)).lo) := by rw [← hV]; simp [go_sem]
  have d1 : V.cell? ⟨(World.ext _ X3).heap.size, 1, none⟩ = some (.int .i64 (readsOf s.step (weight % 1000001) (tunes s)).hi) := by rw [← hV]; simp [go_sem]
  have b0 : V.cell? ⟨w.heap.size, 0, none⟩ = some (.int .i64 s.id) := by rw [← hV]; simp [go_sem]
  have b1 : V.cell? ⟨w.heap.size, 1, none⟩ = some (.int .i64 s.step) := by rw [← hV]; simp [go_sem]
  have b2 : V.cell? ⟨w.heap.size, 2, none⟩ = some (.int .i64 s.gain.lo) := by rw [← hV]; simp [go_sem]
  have b3 : V.cell? ⟨w.heap.size, 3, none⟩ = some (.int .i64 s.gain.hi) := by rw [← hV]; simp [go_sem]
  have b4 : V.cell? ⟨w.heap.size, 4, none⟩ = some (.int .i64 s.off.lo) := by rw [← hV]; simp [go_sem]
  have b5 : V.cell? ⟨w.heap.size, 5, none⟩ = some (.int .i64 s.off.hi) := by rw [← hV]; simp [go_sem]
  have b6 : V.cell? ⟨w.heap.size, 6, none⟩ = some (.slice qt s.trials.length ct) := by rw [← hV]; simp [go_sem]
  have m0 : V.cell? ⟨w.heap.size + 1, 0, none⟩ = some (.int .i64 more.weight) := by rw [← hV]; simp [go_sem]
  have m1 : V.cell? ⟨w.heap.size + 1, 1, none⟩ = some (.int .i64 more.shown) := by rw [← hV]; simp [go_sem]
  rw [hV]
  clear hV hzX3 HV1
  generalize (World.ext _ X3).heap.size = br at *
  have n1 := Lays.of_cell d0
  have n2 := Lays.of_cell b0
  have n3 := Lays.of_cell m0
  obtain ⟨ql', bl', ol', cl', e, -, hpl, hcl⟩ := hLV.ex
  simp only [Value.slice.injEq] at e
  obtain ⟨rfl, -, rfl⟩ := e
  clear HPL HCL
  have htb := tunes_bound HRT.out
  have hrd := fun (t : Tune) (ht : t ∈ tunes s) (o : Int) (ho : t.off.lo ≤ o ∧ o ≤ t.off.hi) => reads_in HRT.out (w := weight % 1000001) ht ho
  have hti := fun (t : Tune) (ht : t ∈ tunes s) => tune_in ht
  have htt := fun (t : Tune) (ht : t ∈ tunes s) (o : Int) (ho : t.off.lo ≤ o ∧ o ≤ t.off.hi) => tune_true ht ho
  have hinc := fun (i : Nat) (a b : Tune) (ha : (tunes s)[i]? = some a) (hb : (tunes s)[i + 1]? = some b) => tunes_inc s ha hb
  have hlo := fun h => reads_lo (s := s) (w := weight % 1000001) h
  have hhi := fun h => reads_hi (s := s) (w := weight % 1000001) h
  have htold := told_true s (pickAt s.gain gain) (pickAt s.off off)
  have HPL := Lib.hid hpl
  clear hpl
  have HCL := Lib.hid hcl
  clear hcl
  have HTB := Lib.hid htb
  clear htb
  have HRD := Lib.hid hrd
  clear hrd
  have HTI := Lib.hid hti
  clear hti
  have HTT := Lib.hid htt
  clear htt
  have HINC := Lib.hid hinc
  clear hinc
  have HLO := Lib.hid hlo
  clear hlo
  have HHI := Lib.hid hhi
  clear hhi
  have HTOLD := Lib.hid htold
  clear htold
  have HLV := Lib.hid hLV
  clear hLV
  rename_i i9_1_1 i9_1_2 i9_1_3 i9_1_4 i9_1_5
  revert s gain off weight more w hgb hob hwb qt ct HR HCD h10 hid hst h6 hgn1 hgn2 hgn3 hof1 hof2 hof3 hx hy hw1 E1 E2 E3 E4 F1 F2 F3 F4 HRT i9_1_1 X0 i9_1_2 X1 i9_1_3 X er HTU HRE HER X2 ql bl ol cl hml X3 u36 u37 u38 u39 u40 u41 u42 u43 u44 u45 u46 u47 u48 u49 u50 u51 u52 u53 u54 u55 u56 u57 u58 u59 u60 u61 u62 u63 u64 u65 u66 u67 u68 u69 u70 u71 u72 u73 u74 u75 u76 u77 u78 u79 u80 u81 u82 u83 u84 u85 u86 u87 u88 u89 u90 u91 u92 u93 u94 u95 u96 u97 u98 u99 u100 u101 u102 u103 u104 u105 u106 u107 u108 u109 u110 u115 u116 u117 u118 u119 u120 u121 u122 u123 u124 u125 u126 u127 u128 u129 u130 u131 u132 u133 u134 u135 u136 u137 u138 u139 u140 u141 u142 u143 u144 u145 u146 u147 u148 u149 u150 u151 u152 u153 u154 u155 u156 u157 u158 u159 u160 u161 u162 u163 u164 u165 u166 u167 u168 u169 u170 u171 u172 u173 u174 u175 u176 u177 u178 u179 u180 u181 u182 u183 u184 u185 u186 u187 u188 u189 u190 u191 u192 u193 u194 u198 u199 u200 u201 u202 u203 u204 u205 u206 u207 u208 u209 u210 u211 u212 u213 u214 u215 u216 u217 u218 u219 u220 u221 u222 u223 u224 u225 u226 u227 u228 u229 u230 u231 u232 u233 u234 u235 u236 u237 u238 u239 u240 u241 u242 u243 u244 u245 u246 u247 u248 u249 u250 u251 u252 u253 u254 u255 u256 u257 u258 u259 u260 u261 u262 u263 u264 u265 u266 u267 u268 u269 u270 u271 u272 u273 u274 u275 u276 u277 u278 u279 u280 u281 u282 u283 u284 u285 u286 u287 u288 u289 u290 u291 u292 u293 u294 u295 u296 u297 u298 u299 u300 u301 u305 u306 u307 u311 u312 u313 u314 u315 u316 u317 u318 u319 u320 u321 u322 u323 u324 u325 u326 u327 u328 u329 u330 u331 u332 u333 u334 u335 u336 u337 u338 u339 u340 u341 u342 u343 u344 u345 u346 u347 u348 u349 u350 u351 u352 X35 i9_1_4 i9_1_5 V hEV b0 b1 b2 b3 b4 b5 b6 m0 m1 br d0 d1 n1 n2 n3 bl' ol' HPL HCL HTB HRD HTI HTT HINC HLO HHI HTOLD HLV
  exact HG.out
end Go.Proofs.YtfjkiemjmnnbkaaGreatDoor
