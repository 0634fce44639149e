/-
  Walks of package scale and of its reference: how hard a gear can be played.
-/
import Derived.Test.YtomcenfikdmmkaaGreatDoorTh
namespace Go.Proofs.YtomcenfikdmmkaaGreatDoor
open Go.RowKit Kr
set_option linter.unusedSimpArgs false

theorem hard_val {g : Gear} (hb : bare g = true) {lo hi : Int} (ho : hardOf g = ⟨lo, hi⟩) : hard g = if hi < lo then (⟨0, 0⟩, 8) else (⟨lo, hi⟩, 0) := by
  unfold hard; rw [hb, ho]; rfl
theorem hardOf_some {g : Gear} (h : 0 < g.strokes.length) : hardOf g = ⟨max 0 (maxL g.strokes - g.spread), min 2000 (minL g.strokes + g.spread)⟩ := hard_fold h _
theorem hardOf_none {g : Gear} (h : g.strokes.length = 0) : hardOf g = ⟨0, 2000⟩ := by
  unfold hardOf; rw [List.length_eq_zero_iff.1 h]; rfl

set_option maxRecDepth 4000 in
set_option maxHeartbeats 2000000 in
theorem scale_Hard_some (g : Gear) (lv rv sv : Value) (w : World) (hg : GearAt w (g, lv, rv, sv)) (hb : bare g = true) (h0 : 0 < g.strokes.length) (M m : Int) (hMM : maxL g.strokes = M) (hmm : minL g.strokes = m) (hM : 0 ≤ M ∧ M ≤ 2000) (hm : 0 ≤ m ∧ m ≤ 2000) (hs : 0 ≤ g.spread ∧ g.spread ≤ 2000) :
    Calls Tryz.prog 24 #[.agg #[lv, .int .i64 g.added, .int .i64 g.base, .int .i64 g.jitter, rv, sv, .int .i64 g.spread, .bool g.stamp]] w fun e w' => e = .returned (.tuple #[.agg #[.int .i64 (hard g).1.lo, .int .i64 (hard g).1.hi], .int .i64 (hard g).2]) ∧ w.Exts w' := by
  have hl1 := hg.l
  have hl2 := hg.r
  have hl3 := hg.s
  dsimp only at hl1 hl2 hl3
  obtain ⟨p1, cap1, rfl⟩ := hl1.len
  obtain ⟨p2, cap2, rfl⟩ := hl2.len
  obtain ⟨p3, cap3, rfl⟩ := hl3.len
  have HG := Lib.hid hg
  clear hg
  have ho : hardOf g = ⟨max 0 (M - g.spread), min 2000 (m + g.spread)⟩ := by rw [hardOf_some h0, hMM, hmm]
  rcases Int.lt_or_le (min 2000 (m + g.spread)) (max 0 (M - g.spread)) with m3 | m3
  · have hfin := hard_val hb ho
    rw [if_pos m3] at hfin
    rw [hfin]
    have HB := Lib.hid hb
    clear hb
    have HMM := Lib.hid hMM
    clear hMM
    have Hmm := Lib.hid hmm
    clear hmm
    clear hfin ho
    go_enter Tryz.func24, Tryz.ntmps24
    go_wp2_with (go_at_call 59; refine (scale_bare_any g _ _ _ _ (HG.out.r.mono (by repeat' (first | with_reducible exact World.Exts.refl _ | with_reducible refine World.Exts.alloc ?_ _ | with_reducible refine World.Exts.drew ?_ | with_reducible refine World.Exts.drewN ?_ _ | with_reducible refine World.Exts.ext ?_ _ | with_reducible refine World.Exts.setCell ?_ ?_ _ | (simp; done) | exact World.size_ext_le _ _ | (simp; omega)))) (HG.out.s.mono (by repeat' (first | with_reducible exact World.Exts.refl _ | with_reducible refine World.Exts.alloc ?_ _ | with_reducible refine World.Exts.drew ?_ | with_reducible refine World.Exts.drewN ?_ _ | with_reducible refine World.Exts.ext ?_ _ | with_reducible refine World.Exts.setCell ?_ ?_ _ | (simp; done) | exact World.size_ext_le _ _ | (simp; omega)))) HG.out.len).mono ?_; rintro e w' ⟨rfl, X2, rfl⟩; rw [HB.out])
    have hsz : w.heap.size ≤ (World.ext _ X2).heap.size := World.Exts.size (by repeat' (first | with_reducible exact World.Exts.refl _ | with_reducible refine World.Exts.alloc ?_ _ | with_reducible refine World.Exts.drew ?_ | with_reducible refine World.Exts.drewN ?_ _ | with_reducible refine World.Exts.ext ?_ _ | with_reducible refine World.Exts.setCell ?_ ?_ _ | (simp; done) | exact World.size_ext_le _ _ | (simp; omega)))
    refine wp_region_ext_tail 19 (by kernel_rfl) (by kernel_rfl) ?_
    simp only [List.take_succ_cons, List.take_zero, List.drop_succ_cons, List.drop_zero]
    repeat (go_big_quiet_step (first | (go_at_call 60; exact Calls.in_ext_eq (Max_int_any g.strokes _ _ (HG.out.s.mono (by repeat' (first | with_reducible exact World.Exts.refl _ | with_reducible refine World.Exts.alloc ?_ _ | with_reducible refine World.Exts.drew ?_ | with_reducible refine World.Exts.drewN ?_ _ | with_reducible refine World.Exts.ext ?_ _ | with_reducible refine World.Exts.setCell ?_ ?_ _ | (simp; done) | exact World.size_ext_le _ _ | (simp; omega)))) h0) (congrArg (Value.int .i64) HMM.out)) | (go_at_call 61; exact Calls.in_ext_eq (Min_int_any g.strokes _ _ (HG.out.s.mono (by repeat' (first | with_reducible exact World.Exts.refl _ | with_reducible refine World.Exts.alloc ?_ _ | with_reducible refine World.Exts.drew ?_ | with_reducible refine World.Exts.drewN ?_ _ | with_reducible refine World.Exts.ext ?_ _ | with_reducible refine World.Exts.setCell ?_ ?_ _ | (simp; done) | exact World.size_ext_le _ _ | (simp; omega)))) h0) (congrArg (Value.int .i64) Hmm.out))))
    refine wpQuiet_nil ?_
    rintro _ ⟨X, rfl⟩
    go_wp2_with fail
    refine bodyPost_ret (v := .tuple #[.agg #[.int .i64 0, .int .i64 0], .int .i64 8]) (by simp [results, Tryz.results24, go_sem]) rfl ?_
    exact ⟨rfl, (by repeat' (first | with_reducible exact World.Exts.refl _ | with_reducible refine World.Exts.alloc ?_ _ | with_reducible refine World.Exts.drew ?_ | with_reducible refine World.Exts.drewN ?_ _ | with_reducible refine World.Exts.ext ?_ _ | with_reducible refine World.Exts.setCell ?_ ?_ _ | (simp; done) | exact World.size_ext_le _ _ | (simp; omega)))⟩
  · have hfin := hard_val hb ho
    rw [if_neg (by omega)] at hfin
    rw [hfin]
    have HB := Lib.hid hb
    clear hb
    have HMM := Lib.hid hMM
    clear hMM
    have Hmm := Lib.hid hmm
    clear hmm
    clear hfin ho
    go_enter Tryz.func24, Tryz.ntmps24
    go_wp2_with (go_at_call 59; refine (scale_bare_any g _ _ _ _ (HG.out.r.mono (by repeat' (first | with_reducible exact World.Exts.refl _ | with_reducible refine World.Exts.alloc ?_ _ | with_reducible refine World.Exts.drew ?_ | with_reducible refine World.Exts.drewN ?_ _ | with_reducible refine World.Exts.ext ?_ _ | with_reducible refine World.Exts.setCell ?_ ?_ _ | (simp; done) | exact World.size_ext_le _ _ | (simp; omega)))) (HG.out.s.mono (by repeat' (first | with_reducible exact World.Exts.refl _ | with_reducible refine World.Exts.alloc ?_ _ | with_reducible refine World.Exts.drew ?_ | with_reducible refine World.Exts.drewN ?_ _ | with_reducible refine World.Exts.ext ?_ _ | with_reducible refine World.Exts.setCell ?_ ?_ _ | (simp; done) | exact World.size_ext_le _ _ | (simp; omega)))) HG.out.len).mono ?_; rintro e w' ⟨rfl, X2, rfl⟩; rw [HB.out])
    have hsz : w.heap.size ≤ (World.ext _ X2).heap.size := World.Exts.size (by repeat' (first | with_reducible exact World.Exts.refl _ | with_reducible refine World.Exts.alloc ?_ _ | with_reducible refine World.Exts.drew ?_ | with_reducible refine World.Exts.drewN ?_ _ | with_reducible refine World.Exts.ext ?_ _ | with_reducible refine World.Exts.setCell ?_ ?_ _ | (simp; done) | exact World.size_ext_le _ _ | (simp; omega)))
    refine wp_region_ext_tail 19 (by kernel_rfl) (by kernel_rfl) ?_
    simp only [List.take_succ_cons, List.take_zero, List.drop_succ_cons, List.drop_zero]
    repeat (go_big_quiet_step (first | (go_at_call 60; exact Calls.in_ext_eq (Max_int_any g.strokes _ _ (HG.out.s.mono (by repeat' (first | with_reducible exact World.Exts.refl _ | with_reducible refine World.Exts.alloc ?_ _ | with_reducible refine World.Exts.drew ?_ | with_reducible refine World.Exts.drewN ?_ _ | with_reducible refine World.Exts.ext ?_ _ | with_reducible refine World.Exts.setCell ?_ ?_ _ | (simp; done) | exact World.size_ext_le _ _ | (simp; omega)))) h0) (congrArg (Value.int .i64) HMM.out)) | (go_at_call 61; exact Calls.in_ext_eq (Min_int_any g.strokes _ _ (HG.out.s.mono (by repeat' (first | with_reducible exact World.Exts.refl _ | with_reducible refine World.Exts.alloc ?_ _ | with_reducible refine World.Exts.drew ?_ | with_reducible refine World.Exts.drewN ?_ _ | with_reducible refine World.Exts.ext ?_ _ | with_reducible refine World.Exts.setCell ?_ ?_ _ | (simp; done) | exact World.size_ext_le _ _ | (simp; omega)))) h0) (congrArg (Value.int .i64) Hmm.out))))
    refine wpQuiet_nil ?_
    rintro _ ⟨X, rfl⟩
    go_wp2_with fail
    refine bodyPost_ret (v := .tuple #[.agg #[.int .i64 (max 0 (M - g.spread)), .int .i64 (min 2000 (m + g.spread))], .int .i64 0]) (by simp [results, Tryz.results24, go_sem]) rfl ?_
    exact ⟨rfl, (by repeat' (first | with_reducible exact World.Exts.refl _ | with_reducible refine World.Exts.alloc ?_ _ | with_reducible refine World.Exts.drew ?_ | with_reducible refine World.Exts.drewN ?_ _ | with_reducible refine World.Exts.ext ?_ _ | with_reducible refine World.Exts.setCell ?_ ?_ _ | (simp; done) | exact World.size_ext_le _ _ | (simp; omega)))⟩

set_option maxRecDepth 4000 in
set_option maxHeartbeats 1000000 in
theorem scale_Hard_any (g : Gear) (lv rv sv : Value) (w : World) (hg : GearAt w (g, lv, rv, sv)) :
    Calls Tryz.prog 24 #[.agg #[lv, .int .i64 g.added, .int .i64 g.base, .int .i64 g.jitter, rv, sv, .int .i64 g.spread, .bool g.stamp]] w fun e w' => e = .returned (.tuple #[.agg #[.int .i64 (hard g).1.lo, .int .i64 (hard g).1.hi], .int .i64 (hard g).2]) ∧ w.Exts w' := by
  cases hb : bare g
  · have hfin : hard g = (⟨0, 0⟩, 41) := by unfold hard; rw [hb]; rfl
    rw [hfin]
    have hl1 := hg.l
    have hl2 := hg.r
    have hl3 := hg.s
    dsimp only at hl1 hl2 hl3
    obtain ⟨p1, cap1, rfl⟩ := hl1.len
    obtain ⟨p2, cap2, rfl⟩ := hl2.len
    obtain ⟨p3, cap3, rfl⟩ := hl3.len
    have HG := Lib.hid hg
    clear hg
    have HB := Lib.hid hb
    clear hb
    clear hfin
    go_enter Tryz.func24, Tryz.ntmps24
    go_wp2_with (go_at_call 59; refine (scale_bare_any g _ _ _ _ (HG.out.r.mono (by repeat' (first | with_reducible exact World.Exts.refl _ | with_reducible refine World.Exts.alloc ?_ _ | with_reducible refine World.Exts.drew ?_ | with_reducible refine World.Exts.drewN ?_ _ | with_reducible refine World.Exts.ext ?_ _ | with_reducible refine World.Exts.setCell ?_ ?_ _ | (simp; done) | exact World.size_ext_le _ _ | (simp; omega)))) (HG.out.s.mono (by repeat' (first | with_reducible exact World.Exts.refl _ | with_reducible refine World.Exts.alloc ?_ _ | with_reducible refine World.Exts.drew ?_ | with_reducible refine World.Exts.drewN ?_ _ | with_reducible refine World.Exts.ext ?_ _ | with_reducible refine World.Exts.setCell ?_ ?_ _ | (simp; done) | exact World.size_ext_le _ _ | (simp; omega)))) HG.out.len).mono ?_; rintro e w' ⟨rfl, X2, rfl⟩; rw [HB.out])
    refine bodyPost_ret (v := .tuple #[.agg #[.int .i64 0, .int .i64 0], .int .i64 41]) (by simp [results, Tryz.results24, go_sem]) rfl ?_
    exact ⟨rfl, (by repeat' (first | with_reducible exact World.Exts.refl _ | with_reducible refine World.Exts.alloc ?_ _ | with_reducible refine World.Exts.drew ?_ | with_reducible refine World.Exts.drewN ?_ _ | with_reducible refine World.Exts.ext ?_ _ | with_reducible refine World.Exts.setCell ?_ ?_ _ | (simp; done) | exact World.size_ext_le _ _ | (simp; omega)))⟩
  · obtain ⟨_, _, _, _, _, hs1, hs2, hs3⟩ := bare_bounds hb
    rcases Nat.eq_zero_or_pos g.strokes.length with h0 | h0
    · have hfin := hard_val hb (hardOf_none h0)
      rw [if_neg (by omega)] at hfin
      rw [hfin]
      replace h0 : g.strokes.length ≤ 0 := by omega
      have hl1 := hg.l
      have hl2 := hg.r
      have hl3 := hg.s
      dsimp only at hl1 hl2 hl3
      obtain ⟨p1, cap1, rfl⟩ := hl1.len
      obtain ⟨p2, cap2, rfl⟩ := hl2.len
      obtain ⟨p3, cap3, rfl⟩ := hl3.len
      have HG := Lib.hid hg
      clear hg
      have HB := Lib.hid hb
      clear hb
      clear hfin hs1 hs2 hl1 hl2 hl3
      go_enter Tryz.func24, Tryz.ntmps24
      go_wp2_with (go_at_call 59; refine (scale_bare_any g _ _ _ _ (HG.out.r.mono (by repeat' (first | with_reducible exact World.Exts.refl _ | with_reducible refine World.Exts.alloc ?_ _ | with_reducible refine World.Exts.drew ?_ | with_reducible refine World.Exts.drewN ?_ _ | with_reducible refine World.Exts.ext ?_ _ | with_reducible refine World.Exts.setCell ?_ ?_ _ | (simp; done) | exact World.size_ext_le _ _ | (simp; omega)))) (HG.out.s.mono (by repeat' (first | with_reducible exact World.Exts.refl _ | with_reducible refine World.Exts.alloc ?_ _ | with_reducible refine World.Exts.drew ?_ | with_reducible refine World.Exts.drewN ?_ _ | with_reducible refine World.Exts.ext ?_ _ | with_reducible refine World.Exts.setCell ?_ ?_ _ | (simp; done) | exact World.size_ext_le _ _ | (simp; omega)))) HG.out.len).mono ?_; rintro e w' ⟨rfl, X2, rfl⟩; rw [HB.out])
      refine bodyPost_ret (v := .tuple #[.agg #[.int .i64 0, .int .i64 2000], .int .i64 0]) (by simp [results, Tryz.results24, go_sem]) rfl ?_
      exact ⟨rfl, (by repeat' (first | with_reducible exact World.Exts.refl _ | with_reducible refine World.Exts.alloc ?_ _ | with_reducible refine World.Exts.drew ?_ | with_reducible refine World.Exts.drewN ?_ _ | with_reducible refine World.Exts.ext ?_ _ | with_reducible refine World.Exts.setCell ?_ ?_ _ | (simp; done) | exact World.size_ext_le _ _ | (simp; omega)))⟩
    · exact scale_Hard_some g lv rv sv w hg hb h0 _ _ rfl rfl (hs1 _ (maxL_in h0)) (hs1 _ (minL_in h0)) hs3

set_option maxRecDepth 4000 in
set_option maxHeartbeats 2000000 in
theorem r04_Hard_any (g : Gear) (lv rv sv : Value) (w : World) (hg : GearAt w (g, lv, rv, sv)) :
    Calls Tryz.prog 34 #[.agg #[lv, .int .i64 g.added, .int .i64 g.base, .int .i64 g.jitter, rv, sv, .int .i64 g.spread, .bool g.stamp]] w fun e w' => e = .returned (.tuple #[.agg #[.int .i64 (hard g).1.lo, .int .i64 (hard g).1.hi], .int .i64 (hard g).2]) ∧ w.Exts w' := by
  have hl1 := hg.l
  have hl2 := hg.r
  have hl3 := hg.s
  dsimp only at hl1 hl2 hl3
  obtain ⟨p1, cap1, rfl⟩ := hl1.len
  obtain ⟨p2, cap2, rfl⟩ := hl2.len
  obtain ⟨p3, cap3, rfl⟩ := hl3.len
  have HG := Lib.hid hg
  clear hg
  cases hb : bare g
  · have hfin : hard g = (⟨0, 0⟩, 41) := by unfold hard; rw [hb]; rfl
    rw [hfin]
    have HB := Lib.hid hb
    clear hb
    clear hfin
    go_enter Tryz.func34, Tryz.ntmps34
    go_wp2_with (go_at_call 76; refine (r04_Bare_any g _ _ _ _ (HG.out.r.mono (by repeat' (first | with_reducible exact World.Exts.refl _ | with_reducible refine World.Exts.alloc ?_ _ | with_reducible refine World.Exts.drew ?_ | with_reducible refine World.Exts.drewN ?_ _ | with_reducible refine World.Exts.ext ?_ _ | with_reducible refine World.Exts.setCell ?_ ?_ _ | (simp; done) | exact World.size_ext_le _ _ | (simp; omega)))) (HG.out.s.mono (by repeat' (first | with_reducible exact World.Exts.refl _ | with_reducible refine World.Exts.alloc ?_ _ | with_reducible refine World.Exts.drew ?_ | with_reducible refine World.Exts.drewN ?_ _ | with_reducible refine World.Exts.ext ?_ _ | with_reducible refine World.Exts.setCell ?_ ?_ _ | (simp; done) | exact World.size_ext_le _ _ | (simp; omega))))).mono ?_; rintro e w' ⟨rfl, X2, rfl⟩; rw [HB.out])
    refine bodyPost_ret (v := .tuple #[.agg #[.int .i64 0, .int .i64 0], .int .i64 41]) (by simp [results, Tryz.results34, go_sem]) rfl ?_
    exact ⟨rfl, (by repeat' (first | with_reducible exact World.Exts.refl _ | with_reducible refine World.Exts.alloc ?_ _ | with_reducible refine World.Exts.drew ?_ | with_reducible refine World.Exts.drewN ?_ _ | with_reducible refine World.Exts.ext ?_ _ | with_reducible refine World.Exts.setCell ?_ ?_ _ | (simp; done) | exact World.size_ext_le _ _ | (simp; omega)))⟩
  · obtain ⟨_, _, _, _, _, hs1, hs2, hs3⟩ := bare_bounds hb
    have hval : ∀ lo hi, hardOf g = ⟨lo, hi⟩ → hard g = if hi < lo then (⟨0, 0⟩, 8) else (⟨lo, hi⟩, 0) := fun _ _ => hard_val hb
    obtain ⟨p3', b3, o3, cap3', e, hm3, hp3, hc3⟩ := hl3.ex
    cases e
    have HB := Lib.hid hb
    clear hb
    have HS1 := Lib.hid hs1
    clear hs1
    have HP3 := Lib.hid hp3
    clear hp3
    have HC3 := Lib.hid hc3
    clear hc3
    have HV := Lib.hid hval
    clear hval
    clear hl3
    go_enter Tryz.func34, Tryz.ntmps34
    go_wp2_with (go_at_call 76; refine (r04_Bare_any g _ _ _ _ (HG.out.r.mono (by repeat' (first | with_reducible exact World.Exts.refl _ | with_reducible refine World.Exts.alloc ?_ _ | with_reducible refine World.Exts.drew ?_ | with_reducible refine World.Exts.drewN ?_ _ | with_reducible refine World.Exts.ext ?_ _ | with_reducible refine World.Exts.setCell ?_ ?_ _ | (simp; done) | exact World.size_ext_le _ _ | (simp; omega)))) (HG.out.s.mono (by repeat' (first | with_reducible exact World.Exts.refl _ | with_reducible refine World.Exts.alloc ?_ _ | with_reducible refine World.Exts.drew ?_ | with_reducible refine World.Exts.drewN ?_ _ | with_reducible refine World.Exts.ext ?_ _ | with_reducible refine World.Exts.setCell ?_ ?_ _ | (simp; done) | exact World.size_ext_le _ _ | (simp; omega))))).mono ?_; rintro e w' ⟨rfl, X2, rfl⟩; rw [HB.out])
    go_loopw [5] (fun i wr => ∃ k : Nat, k ≤ g.strokes.length ∧ i = .int .i64 k ∧ (∃ o : Span, Hid ((g.strokes.take k).foldl (hardStep g.spread) ⟨0, 2000⟩ = o) ∧ wr.cell? ⟨(World.ext _ X2).heap.size, 0, none⟩ = some (.int .i64 o.lo) ∧ wr.cell? ⟨(World.ext _ X2).heap.size, 1, none⟩ = some (.int .i64 o.hi)) ∧ wr.frozen? ⟨(World.ext _ X2).heap.size, 0, none⟩ = false ∧ wr.frozen? ⟨(World.ext _ X2).heap.size, 1, none⟩ = false ∧ Lays wr (World.ext _ X2).heap.size ∧ (World.ext _ X2).Exts wr) (fun i _ => g.strokes.length - (intOf i).toNat)
    case atStart => exact ⟨0, Nat.zero_le _, rfl, ⟨⟨0, 2000⟩, Lib.hid rfl, by simp, by simp⟩, by simp, by simp, lays_new _ _, (by repeat' (first | with_reducible exact World.Exts.refl _ | with_reducible refine World.Exts.alloc ?_ _ | with_reducible refine World.Exts.drew ?_ | with_reducible refine World.Exts.drewN ?_ _ | with_reducible refine World.Exts.ext ?_ _ | with_reducible refine World.Exts.setCell ?_ ?_ _ | (simp; done) | exact World.size_ext_le _ _ | (simp; omega)))⟩
    case round =>
      obtain ⟨k, hk, rfl, ⟨⟨lo, hi⟩, HO, d0, d1⟩, f0, f1, hl, hE⟩ := hrel
      obtain ⟨X, rfl⟩ := hE
      by_cases hlt : k < g.strokes.length
      · obtain ⟨rfl, hlay⟩ := HP3.out (by omega)
        obtain ⟨x, hx⟩ := some_of_lt hlt
        have hcs := HC3.out k x hx
        have c0 := hcs 0 _ rfl
        simp only [Nat.mul_one, Nat.add_zero] at c0
        have hxb := HS1.out x (List.mem_of_getElem? hx)
        have hnx : (g.strokes.take (k + 1)).foldl (hardStep g.spread) ⟨0, 2000⟩ = hardStep g.spread ⟨lo, hi⟩ x := by rw [take_snoc hx, List.foldl_append, HO.out]; rfl
        have hnx2 : (g.strokes.take (k + 1)).foldl (hardStep g.spread) ⟨0, 2000⟩ = ⟨max lo (x - g.spread), min hi (x + g.spread)⟩ := by rw [hnx]; rfl
        have HN := Lib.hid hnx2
        clear hnx2
        clear hnx hx hcs
        go_wp2_with fail
        refine wp_region_ext_tail 23 (by kernel_rfl) (by kernel_rfl) ?_
        simp only [List.take_succ_cons, List.take_zero, List.drop_succ_cons, List.drop_zero]
        repeat (go_big_quiet_step (fail))
        refine wpQuiet_nil ?_
        rintro _ ⟨X, rfl⟩
        go_wp2_with fail
        go_roundw
        case rel => exact ⟨k + 1, by omega, by go_num, ⟨_, Lib.hid HN.out, by simp [go_sem, d0, d1], by simp [go_sem, d0, d1]⟩, by simp [go_sem, f0], by simp [go_sem, f1], inferInstance, (by repeat' (first | with_reducible exact World.Exts.refl _ | with_reducible refine World.Exts.alloc ?_ _ | with_reducible refine World.Exts.drew ?_ | with_reducible refine World.Exts.drewN ?_ _ | with_reducible refine World.Exts.ext ?_ _ | with_reducible refine World.Exts.setCell ?_ ?_ _ | (simp; done) | exact World.size_ext_le _ _ | (simp; omega)))⟩
        case measure => simp [intOf]; omega
      · have hkn : k = g.strokes.length := by omega
        have hO := HO.out
        rw [hkn, List.take_length] at hO
        have hfin := HV.out lo hi hO
        clear hkn hO HO HP3 HC3 HV
        rcases Int.lt_or_le hi lo with m3 | m3
        · rw [if_pos m3] at hfin
          have HF := Lib.hid hfin
          clear hfin
          go_wp2_with fail
          refine bodyPost_ret (v := .tuple #[.agg #[.int .i64 0, .int .i64 0], .int .i64 8]) (by simp [results, Tryz.results34, go_sem]) rfl ?_
          exact ⟨by rw [HF.out], (by repeat' (first | with_reducible exact World.Exts.refl _ | with_reducible refine World.Exts.alloc ?_ _ | with_reducible refine World.Exts.drew ?_ | with_reducible refine World.Exts.drewN ?_ _ | with_reducible refine World.Exts.ext ?_ _ | with_reducible refine World.Exts.setCell ?_ ?_ _ | (simp; done) | exact World.size_ext_le _ _ | (simp; omega)))⟩
        · rw [if_neg (by omega)] at hfin
          have HF := Lib.hid hfin
          clear hfin
          go_wp2_with fail
          refine bodyPost_ret (v := .tuple #[.agg #[.int .i64 lo, .int .i64 hi], .int .i64 0]) (by simp [results, Tryz.results34, go_sem]) rfl ?_
          exact ⟨by rw [HF.out], (by repeat' (first | with_reducible exact World.Exts.refl _ | with_reducible refine World.Exts.alloc ?_ _ | with_reducible refine World.Exts.drew ?_ | with_reducible refine World.Exts.drewN ?_ _ | with_reducible refine World.Exts.ext ?_ _ | with_reducible refine World.Exts.setCell ?_ ?_ _ | (simp; done) | exact World.size_ext_le _ _ | (simp; omega)))⟩
end Go.Proofs.YtomcenfikdmmkaaGreatDoor
