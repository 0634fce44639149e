/-
  Several texts in one: see the heads of its parts.
-/
import Derived.Test.YtfjkiemjmnnbkaaDoorPl
import Derived.Test.YtfjkiemjmnnbkaaDoorTsA
import Derived.Test.YtfjkiemjmnnbkaaDoorTq
import Derived.Test.YtfjkiemjmnnbkaaDoorScE

/-
  The chapter's examples: what the plain laws answer at them, by the kernel's reckoning.
-/
namespace Kr
/-- The bay of the examples. -/
def exBay : List Scale := [⟨3, 10, ⟨-10, 10⟩, ⟨-20, 20⟩, [⟨100000, 100000⟩]⟩, ⟨5, 100, ⟨-1, 1⟩, ⟨0, 0⟩, []⟩]
/-- The gear of the examples. -/
def exGear : Gear := ⟨[⟨3, 95000⟩, ⟨5, 210000⟩], 2000, 50, 2, [85, 88], [410, 414], 5, true⟩
/-- The norm of the examples. -/
def exNorm (hi warm : Int) : Norm := ⟨⟨300000, hi⟩, 6000, warm, ⟨405, 415⟩, true⟩
theorem ex_tunes0 : (right exBay[0] = true) ∧ tunes exBay[0] = [⟨0, ⟨0, 9⟩⟩] := by decide +kernel
theorem ex_reads : reads exBay[1] 210000 = (⟨209700, 210200⟩, 0) := by decide +kernel
theorem ex_warm : warm exGear = ([⟨31, 39⟩, ⟨34, 42⟩], 0) := by decide +kernel
theorem ex_hard : hard exGear = (⟨409, 415⟩, 0) := by decide +kernel
theorem ex_tot : totals exBay exGear = [⟨306782, 306899⟩, ⟨306991, 307108⟩, ⟨307202, 307319⟩] := by rw [totalsI_eq]; decide +kernel
theorem ex_tot0 : totals exBay { exGear with added := 0 } = [⟨304782, 304899⟩, ⟨304991, 305108⟩, ⟨305202, 305319⟩] := by rw [totalsI_eq]; decide +kernel
theorem ex_totals : Go.Proofs.YtfjkiemjmnnbkaaDoor.totalsR exBay exGear = ([⟨306782, 306899⟩, ⟨306991, 307108⟩, ⟨307202, 307319⟩], 0) := by unfold Go.Proofs.YtfjkiemjmnnbkaaDoor.totalsR; rw [ex_tot]; decide +kernel
theorem ex_judge (hi warm : Int) (ps : List Int) (w : Int) (h : (if check exBay exGear ≠ 0 then (([], 0), check exBay exGear) else if normB (exNorm hi warm) = false then (([], 0), 42)
  else if (hard exGear).2 ≠ 0 then (([], 0), (hard exGear).2)
  else (([knownR [⟨306782, 306899⟩, ⟨306991, 307108⟩, ⟨307202, 307319⟩] (exNorm hi warm).total, sureR (decide (exGear.added ≤ (exNorm hi warm).added)), warmOf exGear (exNorm hi warm).warm, knownR [(hard exGear).1] (exNorm hi warm).hard, sureR (exGear.stamp || !(exNorm hi warm).stamp)],
    minOf [knownR [⟨306782, 306899⟩, ⟨306991, 307108⟩, ⟨307202, 307319⟩] (exNorm hi warm).total, sureR (decide (exGear.added ≤ (exNorm hi warm).added)), warmOf exGear (exNorm hi warm).warm, knownR [(hard exGear).1] (exNorm hi warm).hard, sureR (exGear.stamp || !(exNorm hi warm).stamp)]), 0)) = ((ps, w), 0)) :
    judgeR exBay exGear (exNorm hi warm) = ((ps, w), 0) := by
  unfold judgeR partsJ
  rw [ex_tot, if_neg (show ¬ ([⟨306782, 306899⟩, ⟨306991, 307108⟩, ⟨307202, 307319⟩] : List Span) = [] by simp)]
  exact h
theorem ex_judged : judgeR exBay exGear (exNorm 307150 40) = (([1, 2, 1, 2, 2], 1), 0) := ex_judge _ _ _ _ (by decide +kernel)
theorem ex_again : againR exBay exGear exGear (exNorm 307319 40) = (2, 0) := by unfold againR; rw [ex_tot]; decide +kernel
theorem ex_ballast : ballastR exBay exGear ⟨⟨306000, 310000⟩, 6000, 40, ⟨405, 415⟩, true⟩ [5000, 2000, 1000] = ([1], 0) := by unfold ballastR; rw [ex_tot0]; decide +kernel
theorem ex_truth : (Go.Proofs.YtfjkiemjmnnbkaaDoor.truthR exBay exGear 306782).1.1.map (fun q => (q.gain, q.off)) = [(0, 9), (1, 0)] ∧ (Go.Proofs.YtfjkiemjmnnbkaaDoor.truthR exBay exGear 306782).1.2 = [94991, 209791] ∧ (Go.Proofs.YtfjkiemjmnnbkaaDoor.truthR exBay exGear 306782).2 = 0 := by
  unfold Go.Proofs.YtfjkiemjmnnbkaaDoor.truthR
  rw [truthI_eq]
  decide +kernel
end Kr

/-
  The examples' bay, gear and norm, as the laws make them.
-/
namespace Go
open Go.RowKit
/-- A slice written out, whose block was laid at some time before, and lies so still but for stores into older blocks. -/
theorem row_lit {α : Type} {enc : α → List Value} {k : Nat} (w : World) (cs : Array Value) (t : TypeId) (xs : List α) (n m : Nat) (hn : n = w.heap.size) (hm : m = xs.length) (hcs : cs.toList = xs.flatMap enc) (henc : ∀ y ∈ xs, (enc y).length = k) (hl : xs.length ≤ 1000000000) :
    (w.alloc (.cells cs t)).ownsRow w.heap.size t k (.slice (some ⟨n, 0, none⟩) m m) xs.length (xs.flatMap enc) ∧ IsRow enc k (w.alloc (.cells cs t)) (.slice (some ⟨n, 0, none⟩) m m) xs := by
  subst hn hm
  have hown := World.ownsRow_lit (e := t) (size := k) w cs xs.length (Nat.le_refl _) (by unfold maxLen; omega) (by rw [← Array.length_toList, hcs, flat_len xs henc])
  rw [hcs] at hown
  exact ⟨hown, IsRow.of_owns hown henc⟩
end Go
namespace Go.Proofs.YtfjkiemjmnnbkaaDoor
open Go.RowKit Kr
set_option linter.unusedSimpArgs false

/-- A bay, whatever its trials' slices. -/
def BayIs (w : World) (v : Value) (b : List Kr.Scale) : Prop := ∃ ts, BayAt w v ts ∧ ts.map Prod.fst = b
theorem BayIs.mono {w w' : World} {v : Value} {b : List Kr.Scale} (h : BayIs w v b) (hE : w.Exts w') : BayIs w' v b := by
  obtain ⟨ts, h1, h2⟩ := h
  exact ⟨ts, h1.mono hE, h2⟩
theorem BayIs.len {w : World} {v : Value} {b : List Kr.Scale} (h : BayIs w v b) : ∃ p c, v = .slice p b.length c := by
  obtain ⟨ts, h1, rfl⟩ := h
  obtain ⟨p, c, e⟩ := h1.row.len
  exact ⟨p, c, by rw [List.length_map]; exact e⟩

set_option maxHeartbeats 400000 in
theorem l04_span_any (lo hi : Int) (w : World) : Calls Tryd.prog 9 #[.int .i64 lo, .int .i64 hi] w fun e w' => e = .returned (.agg #[.int .i64 lo, .int .i64 hi]) ∧ w.Exts w' := by
  go_enter Tryd.func9, Tryd.ntmps9
  go_wp2_with fail
  refine bodyPost_ret (v := .agg #[.int .i64 lo, .int .i64 hi]) (by simp [results, Tryd.results9, go_sem]) rfl ?_
  exact ⟨rfl, exq⟩

set_option maxHeartbeats 1000000 in
theorem l04_norm_any (hi warm : Int) (w : World) : Calls Tryd.prog 13 #[.int .i64 hi, .int .i64 warm] w fun e w' => e = .returned (.agg #[.int .i64 (exNorm hi warm).total.lo, .int .i64 (exNorm hi warm).total.hi, .int .i64 (exNorm hi warm).added, .int .i64 (exNorm hi warm).warm, .int .i64 (exNorm hi warm).hard.lo, .int .i64 (exNorm hi warm).hard.hi, .bool (exNorm hi warm).stamp]) ∧ w.Exts w' := by
  go_enter Tryd.func13, Tryd.ntmps13
  go_wp2_with (go_at_call 9; refine (l04_span_any _ _ _).mono ?_; rintro e w' ⟨rfl, X, rfl⟩)
  refine bodyPost_ret (v := .agg #[.int .i64 300000, .int .i64 hi, .int .i64 6000, .int .i64 warm, .int .i64 405, .int .i64 415, .bool true]) (by simp [results, Tryd.results13, go_sem]) rfl ?_
  exact ⟨rfl, exq⟩

set_option maxHeartbeats 1000000 in
theorem l04_gear_any (w : World) : Calls Tryd.prog 10 #[] w fun e w' => ∃ l r s, e = .returned (.agg #[l, .int .i64 exGear.added, .int .i64 exGear.base, .int .i64 exGear.jitter, r, s, .int .i64 exGear.spread, .bool exGear.stamp]) ∧ GearAt w' (exGear, l, r, s) ∧ w.Exts w' := by
  go_enter Tryd.func10, Tryd.ntmps10
  go_wp2_with fail
  refine bodyPost_ret (v := .agg #[.slice (some ⟨w.heap.size + 1, 0, none⟩) 2 2, .int .i64 2000, .int .i64 50, .int .i64 2, .slice (some ⟨w.heap.size + 1 + 1, 0, none⟩) 2 2, .slice (some ⟨w.heap.size + 1 + 1 + 1, 0, none⟩) 2 2, .int .i64 5, .bool true]) (by simp [results, Tryd.results10, go_sem]) rfl ?_
  have h1 := (row_lit (enc := fun t : Kr.Load => [.int .i64 t.scale, .int .i64 t.shown]) (k := 2) (w.alloc (.cells #[.slice (some ⟨w.heap.size + 1, 0, none⟩) 2 2, .int .i64 2000, .int .i64 50, .int .i64 2, .slice (some ⟨w.heap.size + 1 + 1, 0, none⟩) 2 2, .slice (some ⟨w.heap.size + 1 + 1 + 1, 0, none⟩) 2 2, .int .i64 5, .bool true] 43)) #[.int .i64 3, .int .i64 95000, .int .i64 5, .int .i64 210000] 46 exGear.loads (w.heap.size + 1) 2 (by simp) rfl rfl (fun _ _ => rfl) (by decide)).2
  have h2 := (row_lit (enc := fun x : Int => [.int .i64 x]) (k := 1) ((w.alloc (.cells #[.slice (some ⟨w.heap.size + 1, 0, none⟩) 2 2, .int .i64 2000, .int .i64 50, .int .i64 2, .slice (some ⟨w.heap.size + 1 + 1, 0, none⟩) 2 2, .slice (some ⟨w.heap.size + 1 + 1 + 1, 0, none⟩) 2 2, .int .i64 5, .bool true] 43)).alloc (.cells #[.int .i64 3, .int .i64 95000, .int .i64 5, .int .i64 210000] 46)) #[.int .i64 85, .int .i64 88] 3 exGear.runners (w.heap.size + 1 + 1) 2 (by simp) rfl rfl (fun _ _ => rfl) (by decide)).2
  have h3 := (row_lit (enc := fun x : Int => [.int .i64 x]) (k := 1) (((w.alloc (.cells #[.slice (some ⟨w.heap.size + 1, 0, none⟩) 2 2, .int .i64 2000, .int .i64 50, .int .i64 2, .slice (some ⟨w.heap.size + 1 + 1, 0, none⟩) 2 2, .slice (some ⟨w.heap.size + 1 + 1 + 1, 0, none⟩) 2 2, .int .i64 5, .bool true] 43)).alloc (.cells #[.int .i64 3, .int .i64 95000, .int .i64 5, .int .i64 210000] 46)).alloc (.cells #[.int .i64 85, .int .i64 88] 3)) #[.int .i64 410, .int .i64 414] 3 exGear.strokes (w.heap.size + 1 + 1 + 1) 2 (by simp) rfl rfl (fun _ _ => rfl) (by decide)).2
  exact ⟨_, _, _, rfl, ⟨h1.mono exq, h2.mono exq, h3, (show exGear.runners.length ≤ 1000 ∧ exGear.strokes.length ≤ 1000 by decide), (show ∀ l ∈ exGear.loads, (Lit.int .i64 l.scale).wf = true by decide)⟩, exq⟩

set_option maxHeartbeats 1000000 in
theorem l04_bay_any (w : World) : Calls Tryd.prog 8 #[] w fun e w' => ∃ v, e = .returned (.agg #[v]) ∧ BayIs w' v exBay ∧ w.Exts w' := by
  go_enter Tryd.func8, Tryd.ntmps8
  go_wp2_with (go_at_call 9; refine (l04_span_any _ _ _).mono ?_; rintro e w' ⟨rfl, X, rfl⟩)
  rename_i X1 X2
  refine bodyPost_ret (v := .agg #[.slice (some ⟨(((((w.alloc (.cells #[.slice none 0 0] 37)).ext X1).ext X2).alloc (.cells #[.int .i64 100000, .int .i64 100000] 48)).ext X).heap.size, 0, none⟩) 2 2]) (by simp [results, Tryd.results8, go_sem]) rfl ?_
  have h1 := (row_lit (enc := fun t : Kr.Trial => [.int .i64 t.weight, .int .i64 t.shown]) (k := 2) (((w.alloc (.cells #[.slice none 0 0] 37)).ext X1).ext X2) #[.int .i64 100000, .int .i64 100000] 48 [⟨100000, 100000⟩] (((w.alloc (.cells #[.slice none 0 0] 37)).ext X1).ext X2).heap.size 1 rfl rfl rfl (fun _ _ => rfl) (by decide)).1
  have h2 := (row_lit (enc := fun x : Kr.Scale × Value => [.int .i64 x.1.id, .int .i64 x.1.step, .int .i64 x.1.gain.lo, .int .i64 x.1.gain.hi, .int .i64 x.1.off.lo, .int .i64 x.1.off.hi, x.2]) (k := 7) (((((w.alloc (.cells #[.slice none 0 0] 37)).ext X1).ext X2).alloc (.cells #[.int .i64 100000, .int .i64 100000] 48)).ext X) #[.int .i64 3, .int .i64 10, .int .i64 (-10), .int .i64 10, .int .i64 (-20), .int .i64 20, .slice (some ⟨(((w.alloc (.cells #[.slice none 0 0] 37)).ext X1).ext X2).heap.size, 0, none⟩) 1 1, .int .i64 5, .int .i64 100, .int .i64 (-1), .int .i64 1, .int .i64 0, .int .i64 0, .slice none 0 0] 34 [((⟨3, 10, ⟨-10, 10⟩, ⟨-20, 20⟩, [⟨100000, 100000⟩]⟩ : Kr.Scale), Value.slice (some ⟨(((w.alloc (.cells #[.slice none 0 0] 37)).ext X1).ext X2).heap.size, 0, none⟩) 1 1), (⟨5, 100, ⟨-1, 1⟩, ⟨0, 0⟩, []⟩, .slice none 0 0)] (((((w.alloc (.cells #[.slice none 0 0] 37)).ext X1).ext X2).alloc (.cells #[.int .i64 100000, .int .i64 100000] 48)).ext X).heap.size 2 rfl rfl rfl (fun _ _ => rfl) (by simp)).1
  have z1 := World.size_ext_le (w.alloc (.cells #[.slice none 0 0] 37)) X1
  have z2 := World.size_ext_le ((w.alloc (.cells #[.slice none 0 0] 37)).ext X1) X2
  have z3 := World.size_ext_le ((((w.alloc (.cells #[.slice none 0 0] 37)).ext X1).ext X2).alloc (.cells #[.int .i64 100000, .int .i64 100000] 48)) X
  simp only [World.size_alloc] at z1 z2 z3
  have r1 : IsRow (fun t : Kr.Trial => [.int .i64 t.weight, .int .i64 t.shown]) 2 _ _ [⟨100000, 100000⟩] := IsRow.of_owns ((ownsRow_exts (W := (((((w.alloc (.cells #[.slice none 0 0] 37)).ext X1).ext X2).alloc (.cells #[.int .i64 100000, .int .i64 100000] 48)).ext X).alloc (.cells #[.int .i64 3, .int .i64 10, .int .i64 (-10), .int .i64 10, .int .i64 (-20), .int .i64 20, .slice (some ⟨(((w.alloc (.cells #[.slice none 0 0] 37)).ext X1).ext X2).heap.size, 0, none⟩) 1 1, .int .i64 5, .int .i64 100, .int .i64 (-1), .int .i64 1, .int .i64 0, .int .i64 0, .slice none 0 0] 34)) h1 exq).set (p := ⟨w.heap.size, 0, none⟩) (by dsimp only; omega) (.slice (some ⟨(((((w.alloc (.cells #[.slice none 0 0] 37)).ext X1).ext X2).alloc (.cells #[.int .i64 100000, .int .i64 100000] 48)).ext X).heap.size, 0, none⟩) 2 2)) (fun _ _ => rfl)
  have r2 := IsRow.of_owns (enc := fun x : Kr.Scale × Value => [.int .i64 x.1.id, .int .i64 x.1.step, .int .i64 x.1.gain.lo, .int .i64 x.1.gain.hi, .int .i64 x.1.off.lo, .int .i64 x.1.off.hi, x.2]) (h2.set (p := ⟨w.heap.size, 0, none⟩) (by dsimp only; omega) (.slice (some ⟨(((((w.alloc (.cells #[.slice none 0 0] 37)).ext X1).ext X2).alloc (.cells #[.int .i64 100000, .int .i64 100000] 48)).ext X).heap.size, 0, none⟩) 2 2)) (fun _ _ => rfl)
  refine ⟨_, rfl, ⟨[((⟨3, 10, ⟨-10, 10⟩, ⟨-20, 20⟩, [⟨100000, 100000⟩]⟩ : Kr.Scale), Value.slice (some ⟨(((w.alloc (.cells #[.slice none 0 0] 37)).ext X1).ext X2).heap.size, 0, none⟩) 1 1), (⟨5, 100, ⟨-1, 1⟩, ⟨0, 0⟩, []⟩, .slice none 0 0)], ⟨r2, fun x hx => ?_⟩, rfl⟩, exq⟩
  rcases List.mem_cons.1 hx with rfl | hx
  · exact r1
  · rw [List.mem_singleton.1 hx]
    exact IsRow.nil _
end Go.Proofs.YtfjkiemjmnnbkaaDoor
