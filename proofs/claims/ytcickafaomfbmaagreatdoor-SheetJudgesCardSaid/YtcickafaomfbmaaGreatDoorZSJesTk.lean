/-
  Several texts in one: see the heads of its parts.
-/

import Derived.Test.YtcickafaomfbmaaGreatDoorZSJesSoT
/-
  Walks of package scale and of its reference: how hard a gear can be played.
-/
namespace Go.Proofs.YtcickafaomfbmaaGreatDoor
open Go.RowKit Kr
set_option linter.unusedSimpArgs false

theorem hard_val {g : Gear} (hb : bare g = true) {lo hi : Int} (ho : hardOf g = ⟨lo, hi⟩) : hard g = if hi < lo then (⟨0, 0⟩, 8) else (⟨lo, hi⟩, 0) := by
  unfold hard; rw [hb, ho]; rfl
theorem hardOf_some {g : Gear} (h : 0 < g.strokes.length) : hardOf g = ⟨max 0 (maxL g.strokes - g.spread), min 2000 (minL g.strokes + g.spread)⟩ := hard_fold h _
theorem hardOf_none {g : Gear} (h : g.strokes.length = 0) : hardOf g = ⟨0, 2000⟩ := by
  unfold hardOf; rw [List.length_eq_zero_iff.1 h]; rfl

set_option maxRecDepth 4000 in
set_option maxHeartbeats 2000000 in
theorem scale_Hard_some (g : Gear) (lv rv sv : Value) (w : World) (hg : GearAt w (g, lv, rv, sv)) (hb : bare g = true) (h0 : 0 < g.strokes.length) (M m : Int) (hMM : maxL g.strokes = M) (hmm : minL g.strokes = m) (hM : 0 ≤ M ∧ M ≤ 2000) (hm : 0 ≤ m ∧ m ≤ 2000) (hs : 0 ≤ g.spread ∧ g.spread ≤ 2000) :
    Calls Tryz.prog 43 #[.agg #[lv, .int .i64 g.added, .int .i64 g.base, .int .i64 g.jitter, rv, sv, .int .i64 g.spread, .bool g.stamp]] w fun e w' => e = .returned (.tuple #[.agg #[.int .i64 (hard g).1.lo, .int .i64 (hard g).1.hi], .int .i64 (hard g).2]) ∧ w.Exts w' := by
  have hl1 := hg.l
  have hl2 := hg.r
  have hl3 := hg.s
  dsimp only at hl1 hl2 hl3
  obtain ⟨p1, cap1, rfl⟩ := hl1.len
  obtain ⟨p2, cap2, rfl⟩ := hl2.len
  obtain ⟨p3, cap3, rfl⟩ := hl3.len
  have HG := Lib.hid hg
  clear hg
  have ho : hardOf g = ⟨max 0 (M - g.spread), min 2000 (m + g.spread)⟩ := by rw [hardOf_some h0, hMM, hmm]
  rcases Int.lt_or_le (min 2000 (m + g.spread)) (max 0 (M - g.spread)) with m3 | m3
  · have hfin := hard_val hb ho
    rw [if_pos m3] at hfin
    rw [hfin]
    have HB := Lib.hid hb
    clear hb
    have HMM := Lib.hid hMM
    clear hMM
    have Hmm := Lib.hid hmm
    clear hmm
    clear hfin ho
    go_enter Tryz.func43, Tryz.ntmps43
    go_wp2_with (go_at_call 95; refine (scale_bare_any g _ _ _ _ (HG.out.r.mono exq) (HG.out.s.mono exq) HG.out.len).mono ?_; rintro e w' ⟨rfl, X2, rfl⟩; rw [HB.out])
    have hsz : w.heap.size ≤ (World.ext _ X2).heap.size := World.Exts.size exq
    refine wp_region_ext_tail 19 (by kernel_rfl) (by kernel_rfl) ?_
    simp only [List.take_succ_cons, List.take_zero, List.drop_succ_cons, List.drop_zero]
    repeat (go_big_quiet_step (first | (go_at_call 96; exact Calls.in_ext_eq (Max_int_any g.strokes _ _ (HG.out.s.mono exq) h0) (congrArg (Value.int .i64) HMM.out)) | (go_at_call 97; exact Calls.in_ext_eq (Min_int_any g.strokes _ _ (HG.out.s.mono exq) h0) (congrArg (Value.int .i64) Hmm.out))))
    refine wpQuiet_nil ?_
    rintro _ ⟨X, rfl⟩
    go_wp2_with fail
    refine bodyPost_ret (v := .tuple #[.agg #[.int .i64 0, .int .i64 0], .int .i64 8]) (by simp [results, Tryz.results43, go_sem]) rfl ?_
    exact ⟨rfl, exq⟩
  · have hfin := hard_val hb ho
    rw [if_neg (by omega)] at hfin
    rw [hfin]
    have HB := Lib.hid hb
    clear hb
    have HMM := Lib.hid hMM
    clear hMM
    have Hmm := Lib.hid hmm
    clear hmm
    clear hfin ho
    go_enter Tryz.func43, Tryz.ntmps43
    go_wp2_with (go_at_call 95; refine (scale_bare_any g _ _ _ _ (HG.out.r.mono exq) (HG.out.s.mono exq) HG.out.len).mono ?_; rintro e w' ⟨rfl, X2, rfl⟩; rw [HB.out])
    have hsz : w.heap.size ≤ (World.ext _ X2).heap.size := World.Exts.size exq
    refine wp_region_ext_tail 19 (by kernel_rfl) (by kernel_rfl) ?_
    simp only [List.take_succ_cons, List.take_zero, List.drop_succ_cons, List.drop_zero]
    repeat (go_big_quiet_step (first | (go_at_call 96; exact Calls.in_ext_eq (Max_int_any g.strokes _ _ (HG.out.s.mono exq) h0) (congrArg (Value.int .i64) HMM.out)) | (go_at_call 97; exact Calls.in_ext_eq (Min_int_any g.strokes _ _ (HG.out.s.mono exq) h0) (congrArg (Value.int .i64) Hmm.out))))
    refine wpQuiet_nil ?_
    rintro _ ⟨X, rfl⟩
    go_wp2_with fail
    refine bodyPost_ret (v := .tuple #[.agg #[.int .i64 (max 0 (M - g.spread)), .int .i64 (min 2000 (m + g.spread))], .int .i64 0]) (by simp [results, Tryz.results43, go_sem]) rfl ?_
    exact ⟨rfl, exq⟩

set_option maxRecDepth 4000 in
set_option maxHeartbeats 1000000 in
theorem scale_Hard_any (g : Gear) (lv rv sv : Value) (w : World) (hg : GearAt w (g, lv, rv, sv)) :
    Calls Tryz.prog 43 #[.agg #[lv, .int .i64 g.added, .int .i64 g.base, .int .i64 g.jitter, rv, sv, .int .i64 g.spread, .bool g.stamp]] w fun e w' => e = .returned (.tuple #[.agg #[.int .i64 (hard g).1.lo, .int .i64 (hard g).1.hi], .int .i64 (hard g).2]) ∧ w.Exts w' := by
  cases hb : bare g
  · have hfin : hard g = (⟨0, 0⟩, 41) := by unfold hard; rw [hb]; rfl
    rw [hfin]
    have hl1 := hg.l
    have hl2 := hg.r
    have hl3 := hg.s
    dsimp only at hl1 hl2 hl3
    obtain ⟨p1, cap1, rfl⟩ := hl1.len
    obtain ⟨p2, cap2, rfl⟩ := hl2.len
    obtain ⟨p3, cap3, rfl⟩ := hl3.len
    have HG := Lib.hid hg
    clear hg
    have HB := Lib.hid hb
    clear hb
    clear hfin
    go_enter Tryz.func43, Tryz.ntmps43
    go_wp2_with (go_at_call 95; refine (scale_bare_any g _ _ _ _ (HG.out.r.mono exq) (HG.out.s.mono exq) HG.out.len).mono ?_; rintro e w' ⟨rfl, X2, rfl⟩; rw [HB.out])
    refine bodyPost_ret (v := .tuple #[.agg #[.int .i64 0, .int .i64 0], .int .i64 41]) (by simp [results, Tryz.results43, go_sem]) rfl ?_
    exact ⟨rfl, exq⟩
  · obtain ⟨_, _, _, _, _, hs1, hs2, hs3⟩ := bare_bounds hb
    rcases Nat.eq_zero_or_pos g.strokes.length with h0 | h0
    · have hfin := hard_val hb (hardOf_none h0)
      rw [if_neg (by omega)] at hfin
      rw [hfin]
      replace h0 : g.strokes.length ≤ 0 := by omega
      have hl1 := hg.l
      have hl2 := hg.r
      have hl3 := hg.s
      dsimp only at hl1 hl2 hl3
      obtain ⟨p1, cap1, rfl⟩ := hl1.len
      obtain ⟨p2, cap2, rfl⟩ := hl2.len
      obtain ⟨p3, cap3, rfl⟩ := hl3.len
      have HG := Lib.hid hg
      clear hg
      have HB := Lib.hid hb
      clear hb
      clear hfin hs1 hs2 hl1 hl2 hl3
      go_enter Tryz.func43, Tryz.ntmps43
      go_wp2_with (go_at_call 95; refine (scale_bare_any g _ _ _ _ (HG.out.r.mono exq) (HG.out.s.mono exq) HG.out.len).mono ?_; rintro e w' ⟨rfl, X2, rfl⟩; rw [HB.out])
      refine bodyPost_ret (v := .tuple #[.agg #[.int .i64 0, .int .i64 2000], .int .i64 0]) (by simp [results, Tryz.results43, go_sem]) rfl ?_
      exact ⟨rfl, exq⟩
    · exact scale_Hard_some g lv rv sv w hg hb h0 _ _ rfl rfl (hs1 _ (maxL_in h0)) (hs1 _ (minL_in h0)) hs3

end Go.Proofs.YtcickafaomfbmaaGreatDoor

/-
  Walks of the reference of layer 4: a twin of a gear, of a bay.
-/
namespace Go.Proofs.YtcickafaomfbmaaGreatDoor
open Go.RowKit Kr
set_option linter.unusedSimpArgs false

theorem ownsRow_new (W : World) (e : TypeId) (size : Nat) {nb : Nat} (hnb : nb = W.heap.size) : (W.alloc (.cells #[] e)).ownsRow nb e size (.slice (some ⟨nb, 0, none⟩) 0 0) 0 [] := by
  subst hnb
  have h := World.ownsRow_made (base := W.heap.size) (e := e) (size := size) W #[] 0 (by simp) (by decide) (by simp)
  simpa using h

end Go.Proofs.YtcickafaomfbmaaGreatDoor
