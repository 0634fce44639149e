/-
  The examples' bay, gear and norm, as the laws make them.
-/
import Derived.Test.YtfjkiemjmnnbkaaGreatDoorEx
import Derived.Test.YtfjkiemjmnnbkaaGreatDoorScE
namespace Go
open Go.RowKit
/-- A slice written out, whose block was laid at some time before, and lies so still but for stores into older blocks. -/
theorem row_lit {α : Type} {enc : α → List Value} {k : Nat} (w : World) (cs : Array Value) (t : TypeId) (xs : List α) (n m : Nat) (hn : n = w.heap.size) (hm : m = xs.length) (hcs : cs.toList = xs.flatMap enc) (henc : ∀ y ∈ xs, (enc y).length = k) (hl : xs.length ≤ 1000000000) :
    (w.alloc (.cells cs t)).ownsRow w.heap.size t k (.slice (some ⟨n, 0, none⟩) m m) xs.length (xs.flatMap enc) ∧ IsRow enc k (w.alloc (.cells cs t)) (.slice (some ⟨n, 0, none⟩) m m) xs := by
  subst hn hm
  have hown := World.ownsRow_lit (e := t) (size := k) w cs xs.length (Nat.le_refl _) (by unfold maxLen; omega) (by rw [← Array.length_toList, hcs, flat_len xs henc])
  rw [hcs] at hown
  exact ⟨hown, IsRow.of_owns hown henc⟩
end Go
namespace Go.Proofs.YtfjkiemjmnnbkaaGreatDoor
open Go.RowKit Kr
set_option linter.unusedSimpArgs false

/-- A bay, whatever its trials' slices. -/
def BayIs (w : World) (v : Value) (b : List Kr.Scale) : Prop := ∃ ts, BayAt w v ts ∧ ts.map Prod.fst = b
theorem BayIs.mono {w w' : World} {v : Value} {b : List Kr.Scale} (h : BayIs w v b) (hE : w.Exts w') : BayIs w' v b := by
  obtain ⟨ts, h1, h2⟩ := h
  exact ⟨ts, h1.mono hE, h2⟩
theorem BayIs.len {w : World} {v : Value} {b : List Kr.Scale} (h : BayIs w v b) : ∃ p c, v = .slice p b.length c := by
  obtain ⟨ts, h1, rfl⟩ := h
  obtain ⟨p, c, e⟩ := h1.row.len
  exact ⟨p, c, by rw [List.length_map]; exact e⟩

set_option maxHeartbeats 400000 in
theorem l04_span_any (lo hi : Int) (w : World) : Calls Tryz.prog 47 #[.int .i64 lo, .int .i64 hi] w fun e w' => e = .returned (.agg #[.int .i64 lo, .int .i64 hi]) ∧ w.Exts w' := by
  go_enter Tryz.func47, Tryz.ntmps47
  go_wp2_with fail
  refine bodyPost_ret (v := .agg #[.int .i64 lo, .int .i64 hi]) (by simp [results, Tryz.results47, go_sem]) rfl ?_
  exact ⟨rfl, exq⟩

set_option maxHeartbeats 1000000 in
theorem l04_norm_any (hi warm : Int) (w : World) : Calls Tryz.prog 69 #[.int .i64 hi, .int .i64 warm] w fun e w' => e = .returned (.agg #[.int .i64 (exNorm hi warm).total.lo, .int .i64 (exNorm hi warm).total.hi, .int .i64 (exNorm hi warm).added, .int .i64 (exNorm hi warm).warm, .int .i64 (exNorm hi warm).hard.lo, .int .i64 (exNorm hi warm).hard.hi, .bool (exNorm hi warm).stamp]) ∧ w.Exts w' := by
  go_enter Tryz.func69, Tryz.ntmps69
  go_wp2_with (go_at_call 47; refine (l04_span_any _ _ _).mono ?_; rintro e w' ⟨rfl, X, rfl⟩)
  refine bodyPost_ret (v := .agg #[.int .i64 300000, .int .i64 hi, .int .i64 6000, .int .i64 warm, .int .i64 405, .int .i64 415, .bool true]) (by simp [results, Tryz.results69, go_sem]) rfl ?_
  exact ⟨rfl, exq⟩

set_option maxHeartbeats 1000000 in
theorem l04_gear_any (w : World) : Calls Tryz.prog 68 #[] w fun e w' => ∃ l r s, e = .returned (.agg #[l, .int .i64 exGear.added, .int .i64 exGear.base, .int .i64 exGear.jitter, r, s, .int .i64 exGear.spread, .bool exGear.stamp]) ∧ GearAt w' (exGear, l, r, s) ∧ w.Exts w' := by
  go_enter Tryz.func68, Tryz.ntmps68
  go_wp2_with fail
  refine bodyPost_ret (v := .agg #[.slice (some ⟨w.heap.size + 1, 0, none⟩) 2 2, .int .i64 2000, .int .i64 50, .int .i64 2, .slice (some ⟨w.heap.size + 1 + 1, 0, none⟩) 2 2, .slice (some ⟨w.heap.size + 1 + 1 + 1, 0, none⟩) 2 2, .int .i64 5, .bool true]) (by simp [results, Tryz.results68, go_sem]) rfl ?_
  have h1 := (row_lit (enc := fun t : Kr.Load => [.int .i64 t.scale, .int .i64 t.shown]) (k := 2) (w.alloc (.cells #[.slice (some ⟨w.heap.size + 1, 0, none⟩) 2 2, .int .i64 2000, .int .i64 50, .int .i64 2, .slice (some ⟨w.heap.size + 1 + 1, 0, none⟩) 2 2, .slice (some ⟨w.heap.size + 1 + 1 + 1, 0, none⟩) 2 2, .int .i64 5, .bool true] 50)) #[.int .i64 3, .int .i64 95000, .int .i64 5, .int .i64 210000] 63 exGear.loads (w.heap.size + 1) 2 (by simp) rfl rfl (fun _ _ => rfl) (by decide)).2
  have h2 := (row_lit (enc := fun x : Int => [.int .i64 x]) (k := 1) ((w.alloc (.cells #[.slice (some ⟨w.heap.size + 1, 0, none⟩) 2 2, .int .i64 2000, .int .i64 50, .int .i64 2, .slice (some ⟨w.heap.size + 1 + 1, 0, none⟩) 2 2, .slice (some ⟨w.heap.size + 1 + 1 + 1, 0, none⟩) 2 2, .int .i64 5, .bool true] 50)).alloc (.cells #[.int .i64 3, .int .i64 95000, .int .i64 5, .int .i64 210000] 63)) #[.int .i64 85, .int .i64 88] 3 exGear.runners (w.heap.size + 1 + 1) 2 (by simp) rfl rfl (fun _ _ => rfl) (by decide)).2
  have h3 := (row_lit (enc := fun x : Int => [.int .i64 x]) (k := 1) (((w.alloc (.cells #[.slice (some ⟨w.heap.size + 1, 0, none⟩) 2 2, .int .i64 2000, .int .i64 50, .int .i64 2, .slice (some ⟨w.heap.size + 1 + 1, 0, none⟩) 2 2, .slice (some ⟨w.heap.size + 1 + 1 + 1, 0, none⟩) 2 2, .int .i64 5, .bool true] 50)).alloc (.cells #[.int .i64 3, .int .i64 95000, .int .i64 5, .int .i64 210000] 63)).alloc (.cells #[.int .i64 85, .int .i64 88] 3)) #[.int .i64 410, .int .i64 414] 3 exGear.strokes (w.heap.size + 1 + 1 + 1) 2 (by simp) rfl rfl (fun _ _ => rfl) (by decide)).2
  exact ⟨_, _, _, rfl, ⟨h1.mono exq, h2.mono exq, h3, (show exGear.runners.length ≤ 1000 ∧ exGear.strokes.length ≤ 1000 by decide), (show ∀ l ∈ exGear.loads, (Lit.int .i64 l.scale).wf = true by decide)⟩, exq⟩

set_option maxHeartbeats 1000000 in
theorem l04_bay_any (w : World) : Calls Tryz.prog 67 #[] w fun e w' => ∃ v, e = .returned (.agg #[v]) ∧ BayIs w' v exBay ∧ w.Exts w' := by
  go_enter Tryz.func67, Tryz.ntmps67
  go_wp2_with (go_at_call 47; refine (l04_span_any _ _ _).mono ?_; rintro e w' ⟨rfl, X, rfl⟩)
  rename_i X1 X2
  refine bodyPost_ret (v := .agg #[.slice (some ⟨(((((w.alloc (.cells #[.slice none 0 0] 24)).ext X1).ext X2).alloc (.cells #[.int .i64 100000, .int .i64 100000] 95)).ext X).heap.size, 0, none⟩) 2 2]) (by simp [results, Tryz.results67, go_sem]) rfl ?_
  have h1 := (row_lit (enc := fun t : Kr.Trial => [.int .i64 t.weight, .int .i64 t.shown]) (k := 2) (((w.alloc (.cells #[.slice none 0 0] 24)).ext X1).ext X2) #[.int .i64 100000, .int .i64 100000] 95 [⟨100000, 100000⟩] (((w.alloc (.cells #[.slice none 0 0] 24)).ext X1).ext X2).heap.size 1 rfl rfl rfl (fun _ _ => rfl) (by decide)).1
  have h2 := (row_lit (enc := fun x : Kr.Scale × Value => [.int .i64 x.1.id, .int .i64 x.1.step, .int .i64 x.1.gain.lo, .int .i64 x.1.gain.hi, .int .i64 x.1.off.lo, .int .i64 x.1.off.hi, x.2]) (k := 7) (((((w.alloc (.cells #[.slice none 0 0] 24)).ext X1).ext X2).alloc (.cells #[.int .i64 100000, .int .i64 100000] 95)).ext X) #[.int .i64 3, .int .i64 10, .int .i64 (-10), .int .i64 10, .int .i64 (-20), .int .i64 20, .slice (some ⟨(((w.alloc (.cells #[.slice none 0 0] 24)).ext X1).ext X2).heap.size, 0, none⟩) 1 1, .int .i64 5, .int .i64 100, .int .i64 (-1), .int .i64 1, .int .i64 0, .int .i64 0, .slice none 0 0] 59 [((⟨3, 10, ⟨-10, 10⟩, ⟨-20, 20⟩, [⟨100000, 100000⟩]⟩ : Kr.Scale), Value.slice (some ⟨(((w.alloc (.cells #[.slice none 0 0] 24)).ext X1).ext X2).heap.size, 0, none⟩) 1 1), (⟨5, 100, ⟨-1, 1⟩, ⟨0, 0⟩, []⟩, .slice none 0 0)] (((((w.alloc (.cells #[.slice none 0 0] 24)).ext X1).ext X2).alloc (.cells #[.int .i64 100000, .int .i64 100000] 95)).ext X).heap.size 2 rfl rfl rfl (fun _ _ => rfl) (by simp)).1
  have z1 := World.size_ext_le (w.alloc (.cells #[.slice none 0 0] 24)) X1
  have z2 := World.size_ext_le ((w.alloc (.cells #[.slice none 0 0] 24)).ext X1) X2
  have z3 := World.size_ext_le ((((w.alloc (.cells #[.slice none 0 0] 24)).ext X1).ext X2).alloc (.cells #[.int .i64 100000, .int .i64 100000] 95)) X
  simp only [World.size_alloc] at z1 z2 z3
  have r1 : IsRow (fun t : Kr.Trial => [.int .i64 t.weight, .int .i64 t.shown]) 2 _ _ [⟨100000, 100000⟩] := IsRow.of_owns ((ownsRow_exts (W := (((((w.alloc (.cells #[.slice none 0 0] 24)).ext X1).ext X2).alloc (.cells #[.int .i64 100000, .int .i64 100000] 95)).ext X).alloc (.cells #[.int .i64 3, .int .i64 10, .int .i64 (-10), .int .i64 10, .int .i64 (-20), .int .i64 20, .slice (some ⟨(((w.alloc (.cells #[.slice none 0 0] 24)).ext X1).ext X2).heap.size, 0, none⟩) 1 1, .int .i64 5, .int .i64 100, .int .i64 (-1), .int .i64 1, .int .i64 0, .int .i64 0, .slice none 0 0] 59)) h1 exq).set (p := ⟨w.heap.size, 0, none⟩) (by dsimp only; omega) (.slice (some ⟨(((((w.alloc (.cells #[.slice none 0 0] 24)).ext X1).ext X2).alloc (.cells #[.int .i64 100000, .int .i64 100000] 95)).ext X).heap.size, 0, none⟩) 2 2)) (fun _ _ => rfl)
  have r2 := IsRow.of_owns (enc := fun x : Kr.Scale × Value => [.int .i64 x.1.id, .int .i64 x.1.step, .int .i64 x.1.gain.lo, .int .i64 x.1.gain.hi, .int .i64 x.1.off.lo, .int .i64 x.1.off.hi, x.2]) (h2.set (p := ⟨w.heap.size, 0, none⟩) (by dsimp only; omega) (.slice (some ⟨(((((w.alloc (.cells #[.slice none 0 0] 24)).ext X1).ext X2).alloc (.cells #[.int .i64 100000, .int .i64 100000] 95)).ext X).heap.size, 0, none⟩) 2 2)) (fun _ _ => rfl)
  refine ⟨_, rfl, ⟨[((⟨3, 10, ⟨-10, 10⟩, ⟨-20, 20⟩, [⟨100000, 100000⟩]⟩ : Kr.Scale), Value.slice (some ⟨(((w.alloc (.cells #[.slice none 0 0] 24)).ext X1).ext X2).heap.size, 0, none⟩) 1 1), (⟨5, 100, ⟨-1, 1⟩, ⟨0, 0⟩, []⟩, .slice none 0 0)], ⟨r2, fun x hx => ?_⟩, rfl⟩, exq⟩
  rcases List.mem_cons.1 hx with rfl | hx
  · exact r1
  · rw [List.mem_singleton.1 hx]
    exact IsRow.nil _
end Go.Proofs.YtfjkiemjmnnbkaaGreatDoor
