/-
  Walks of the reference of layer 4: a twin of a gear, of a bay.
-/
import Derived.Test.YtomcenfikdmmkaaGreatDoorTk
namespace Go.Proofs.YtomcenfikdmmkaaGreatDoor
open Go.RowKit Kr
set_option linter.unusedSimpArgs false

theorem elem_Load : ElemOf Tryz.prog 25 104 (.agg #[.int .i64 0, .int .i64 0]) 2 16 := ⟨Tryz.underlying25, by kernel_rfl, rfl, by decide, by decide⟩
theorem ownsRow_new (W : World) (e : TypeId) (size : Nat) {nb : Nat} (hnb : nb = W.heap.size) : (W.alloc (.cells #[] e)).ownsRow nb e size (.slice (some ⟨nb, 0, none⟩) 0 0) 0 [] := by
  subst hnb
  have h := World.ownsRow_made (base := W.heap.size) (e := e) (size := size) W #[] 0 (by simp) (by decide) (by simp)
  simpa using h

theorem ownsRow_ext {A : World} {base e size n : Nat} {v : Value} {xs : List Value} (h : A.ownsRow base e size v n xs) (X : Ext A) : (A.ext X).ownsRow base e size v n xs := ownsRow_exts h ((World.Exts.refl A).ext X)

set_option maxRecDepth 4000 in
set_option maxHeartbeats 2000000 in
theorem r04_TwinGear_own (g : Gear) (lv rv sv : Value) (w : World) (hg : GearAt w (g, lv, rv, sv)) (hn1 : g.loads.length ≤ 1000) (hn2 : g.runners.length ≤ 1000) (hn3 : g.strokes.length ≤ 1000) :
    Calls Tryz.prog 8 #[.agg #[lv, .int .i64 g.added, .int .i64 g.base, .int .i64 g.jitter, rv, sv, .int .i64 g.spread, .bool g.stamp]] w fun e w' => ∃ l' r' s', e = .returned (.agg #[l', .int .i64 g.added, .int .i64 g.base, .int .i64 g.jitter, r', s', .int .i64 g.spread, .bool g.stamp]) ∧ GearAt w' (g, l', r', s') ∧ w.Exts w' ∧ RowT 104 w' l' ∧ RowT 3 w' r' ∧ RowT 3 w' s' := by
  have hl1 := hg.l
  have hl2 := hg.r
  have hl3 := hg.s
  dsimp only at hl1 hl2 hl3
  obtain ⟨p1, cap1, rfl⟩ := hl1.len
  obtain ⟨p2, cap2, rfl⟩ := hl2.len
  obtain ⟨p3, cap3, rfl⟩ := hl3.len
  have HG := Lib.hid hg
  clear hg
  have hlen := HG.out.len
  have hwf := HG.out.wf
  have HWF := Lib.hid hwf
  clear hwf
  go_enter Tryz.func8, Tryz.ntmps8
  go_wp2_with (at_builtin; refine wpList_append_row (.tmp 3) (.tmp 5) elem_Load rfl rfl rfl (ownsRow_new _ _ _ (by simp)) rfl (HG.out.l.mono (by repeat' (first | with_reducible exact World.Exts.refl _ | with_reducible refine World.Exts.alloc ?_ _ | with_reducible refine World.Exts.drew ?_ | with_reducible refine World.Exts.drewN ?_ _ | with_reducible refine World.Exts.ext ?_ _ | with_reducible refine World.Exts.setCell ?_ ?_ _ | (simp; done) | exact World.size_ext_le _ _ | (simp; omega)))) (fun _ _ => rfl) (fun _ _ u hu => by simp at hu; rcases hu with rfl | rfl <;> rfl) (by dsimp only; omega) (by simp) ?_)
  intro v1 w1 hown1 happ
  obtain ⟨X1, rfl⟩ := happ.exts ((w.alloc (.cells #[.slice p1 g.loads.length cap1, .int .i64 g.added, .int .i64 g.base, .int .i64 g.jitter, .slice p2 g.runners.length cap2, .slice p3 g.strokes.length cap3, .int .i64 g.spread, .bool g.stamp] 28)).alloc _) (by repeat' (first | with_reducible exact World.Exts.refl _ | with_reducible refine World.Exts.alloc ?_ _ | with_reducible refine World.Exts.drew ?_ | with_reducible refine World.Exts.drewN ?_ _ | with_reducible refine World.Exts.ext ?_ _ | with_reducible refine World.Exts.setCell ?_ ?_ _ | (simp; done) | exact World.size_ext_le _ _ | (simp; omega))) (by simp)
  have hz1 := World.size_ext_le _ X1
  simp at hz1
  obtain ⟨q1, cq1, e1⟩ := (IsRow.of_owns (by simpa using hown1) (fun _ _ => rfl) : IsRow (fun t : Kr.Load => [.int .i64 t.scale, .int .i64 t.shown]) 2 _ v1 g.loads).len
  subst e1
  have HO1 := Lib.hid hown1
  clear hown1
  clear happ
  go_wp2_with (at_builtin; refine wpList_append_row (.tmp 8) (.tmp 10) elem_int rfl rfl rfl (ownsRow_new _ _ _ (by simp)) rfl (HG.out.r.mono (by repeat' (first | with_reducible exact World.Exts.refl _ | with_reducible refine World.Exts.alloc ?_ _ | with_reducible refine World.Exts.drew ?_ | with_reducible refine World.Exts.drewN ?_ _ | with_reducible refine World.Exts.ext ?_ _ | with_reducible refine World.Exts.setCell ?_ ?_ _ | (simp; done) | exact World.size_ext_le _ _ | (simp; omega)))) (fun _ _ => rfl) (fun _ _ u hu => by simp at hu; rcases hu with rfl <;> rfl) (by dsimp only; omega) (by simp) ?_)
  intro v2 w2 hown2 happ
  obtain ⟨X2, rfl⟩ := happ.exts (World.setCell (World.ext _ X1) _ _) (by repeat' (first | with_reducible exact World.Exts.refl _ | with_reducible refine World.Exts.alloc ?_ _ | with_reducible refine World.Exts.drew ?_ | with_reducible refine World.Exts.drewN ?_ _ | with_reducible refine World.Exts.ext ?_ _ | with_reducible refine World.Exts.setCell ?_ ?_ _ | (simp; done) | exact World.size_ext_le _ _ | (simp; omega))) (by simp)
  have hz2 := World.size_ext_le _ X2
  simp at hz2
  obtain ⟨q2, cq2, e2⟩ := (IsRow.of_owns (by simpa using hown2) (fun _ _ => rfl) : IsRow (fun x : Int => [.int .i64 x]) 1 _ v2 g.runners).len
  subst e2
  have HO2 := Lib.hid hown2
  clear hown2
  clear happ
  go_wp2_with (at_builtin; refine wpList_append_row (.tmp 13) (.tmp 15) elem_int rfl rfl rfl (ownsRow_new _ _ _ (by simp)) rfl (HG.out.s.mono (by repeat' (first | with_reducible exact World.Exts.refl _ | with_reducible refine World.Exts.alloc ?_ _ | with_reducible refine World.Exts.drew ?_ | with_reducible refine World.Exts.drewN ?_ _ | with_reducible refine World.Exts.ext ?_ _ | with_reducible refine World.Exts.setCell ?_ ?_ _ | (simp; done) | exact World.size_ext_le _ _ | (simp; omega)))) (fun _ _ => rfl) (fun _ _ u hu => by simp at hu; rcases hu with rfl <;> rfl) (by dsimp only; omega) (by simp) ?_)
  intro v3 w3 hown3 happ
  obtain ⟨X3, rfl⟩ := happ.exts (World.setCell (World.ext _ X2) _ _) (by repeat' (first | with_reducible exact World.Exts.refl _ | with_reducible refine World.Exts.alloc ?_ _ | with_reducible refine World.Exts.drew ?_ | with_reducible refine World.Exts.drewN ?_ _ | with_reducible refine World.Exts.ext ?_ _ | with_reducible refine World.Exts.setCell ?_ ?_ _ | (simp; done) | exact World.size_ext_le _ _ | (simp; omega))) (by simp)
  obtain ⟨q3, cq3, e3⟩ := (IsRow.of_owns (by simpa using hown3) (fun _ _ => rfl) : IsRow (fun x : Int => [.int .i64 x]) 1 _ v3 g.strokes).len
  subst e3
  have HO3 := Lib.hid hown3
  clear hown3
  clear happ
  go_wp2_with fail
  refine bodyPost_ret (v := .agg #[.slice q1 g.loads.length cq1, .int .i64 g.added, .int .i64 g.base, .int .i64 g.jitter, .slice q2 g.runners.length cq2, .slice q3 g.strokes.length cq3, .int .i64 g.spread, .bool g.stamp]) (by simp [results, Tryz.results8, go_sem]) rfl ?_
  suffices hs : ∃ b1 b2 b3, World.ownsRow _ b1 104 2 (.slice q1 g.loads.length cq1) g.loads.length (g.loads.flatMap fun t => [.int .i64 t.scale, .int .i64 t.shown]) ∧ World.ownsRow _ b2 3 1 (.slice q2 g.runners.length cq2) g.runners.length (g.runners.flatMap fun x : Int => [.int .i64 x]) ∧ World.ownsRow _ b3 3 1 (.slice q3 g.strokes.length cq3) g.strokes.length (g.strokes.flatMap fun x : Int => [.int .i64 x]) by
    obtain ⟨b1, b2, b3, o1, o2, o3⟩ := hs
    exact ⟨_, _, _, rfl, ⟨IsRow.of_owns o1 (fun _ _ => rfl), IsRow.of_owns o2 (fun _ _ => rfl), IsRow.of_owns o3 (fun _ _ => rfl), hlen, HWF.out⟩, (by repeat' (first | with_reducible exact World.Exts.refl _ | with_reducible refine World.Exts.alloc ?_ _ | with_reducible refine World.Exts.drew ?_ | with_reducible refine World.Exts.drewN ?_ _ | with_reducible refine World.Exts.ext ?_ _ | with_reducible refine World.Exts.setCell ?_ ?_ _ | (simp; done) | exact World.size_ext_le _ _ | (simp; omega))), RowT.of_owns o1, RowT.of_owns o2, RowT.of_owns o3⟩
  refine ⟨w.heap.size + 1 + 1, (World.ext _ X1).heap.size, (World.ext _ X2).heap.size, ?_, ?_, ?_⟩
  · have h := HO1.out
    iterate 9 refine World.ownsRow.set ?_ (by simp; try omega) _
    refine ownsRow_ext (World.ownsRow.set (ownsRow_ext (World.ownsRow.set ?_ (by simp; try omega) _) X2) (by simp; try omega) _) X3
    simpa using h
  · have h := HO2.out
    iterate 9 refine World.ownsRow.set ?_ (by simp; try omega) _
    refine ownsRow_ext (World.ownsRow.set ?_ (by simp; try omega) _) X3
    simpa using h
  · have h := HO3.out
    iterate 9 refine World.ownsRow.set ?_ (by simp; try omega) _
    simpa using h
theorem r04_TwinGear_any (g : Gear) (lv rv sv : Value) (w : World) (hg : GearAt w (g, lv, rv, sv)) (hn1 : g.loads.length ≤ 1000) (hn2 : g.runners.length ≤ 1000) (hn3 : g.strokes.length ≤ 1000) :
    Calls Tryz.prog 8 #[.agg #[lv, .int .i64 g.added, .int .i64 g.base, .int .i64 g.jitter, rv, sv, .int .i64 g.spread, .bool g.stamp]] w fun e w' => ∃ l' r' s', e = .returned (.agg #[l', .int .i64 g.added, .int .i64 g.base, .int .i64 g.jitter, r', s', .int .i64 g.spread, .bool g.stamp]) ∧ GearAt w' (g, l', r', s') ∧ w.Exts w' :=
  (r04_TwinGear_own g lv rv sv w hg hn1 hn2 hn3).mono fun _ _ ⟨l', r', s', h1, h2, h3, _⟩ => ⟨l', r', s', h1, h2, h3⟩
end Go.Proofs.YtomcenfikdmmkaaGreatDoor
