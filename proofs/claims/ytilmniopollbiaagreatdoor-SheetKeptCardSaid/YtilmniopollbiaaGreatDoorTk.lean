/-
  Several texts in one: see the heads of its parts.
-/
import Derived.Test.YtilmniopollbiaaGreatDoorSoT

/-
  Walks of package scale and of its reference: how hard a gear can be played.
-/
namespace Go.Proofs.YtilmniopollbiaaGreatDoor
open Go.RowKit Kr
set_option linter.unusedSimpArgs false

theorem hard_val {g : Gear} (hb : bare g = true) {lo hi : Int} (ho : hardOf g = ⟨lo, hi⟩) : hard g = if hi < lo then (⟨0, 0⟩, 8) else (⟨lo, hi⟩, 0) := by
  unfold hard; rw [hb, ho]; rfl
theorem hardOf_some {g : Gear} (h : 0 < g.strokes.length) : hardOf g = ⟨max 0 (maxL g.strokes - g.spread), min 2000 (minL g.strokes + g.spread)⟩ := hard_fold h _
theorem hardOf_none {g : Gear} (h : g.strokes.length = 0) : hardOf g = ⟨0, 2000⟩ := by
  unfold hardOf; rw [List.length_eq_zero_iff.1 h]; rfl

set_option maxRecDepth 4000 in
set_option maxHeartbeats 2000000 in
theorem scale_Hard_some (g : Gear) (lv rv sv : Value) (w : World) (hg : GearAt w (g, lv, rv, sv)) (hb : bare g = true) (h0 : 0 < g.strokes.length) (M m : Int) (hMM : maxL g.strokes = M) (hmm : minL g.strokes = m) (hM : 0 ≤ M ∧ M ≤ 2000) (hm : 0 ≤ m ∧ m ≤ 2000) (hs : 0 ≤ g.spread ∧ g.spread ≤ 2000) :
    Calls Tryz.prog 100 #[.agg #[lv, .int .i64 g.added, .int .i64 g.base, .int .i64 g.jitter, rv, sv, .int .i64 g.spread, .bool g.stamp]] w fun e w' => e = .returned (.tuple #[.agg #[.int .i64 (hard g).1.lo, .int .i64 (hard g).1.hi], .int .i64 (hard g).2]) ∧ w.Exts w' := by
  have hl1 := hg.l
  have hl2 := hg.r
  have hl3 := hg.s
  dsimp only at hl1 hl2 hl3
  obtain ⟨p1, cap1, rfl⟩ := hl1.len
  obtain ⟨p2, cap2, rfl⟩ := hl2.len
  obtain ⟨p3, cap3, rfl⟩ := hl3.len
  have HG := Lib.hid hg
  clear hg
  have ho : hardOf g = ⟨max 0 (M - g.spread), min 2000 (m + g.spread)⟩ := by rw [hardOf_some h0, hMM, hmm]
  rcases Int.lt_or_le (min 2000 (m + g.spread)) (max 0 (M - g.spread)) with m3 | m3
  · have hfin := hard_val hb ho
    rw [if_pos m3] at hfin
    rw [hfin]
    have HB := Lib.hid hb
    clear hb
    have HMM := Lib.hid hMM
    clear hMM
    have Hmm := Lib.hid hmm
    clear hmm
    clear hfin ho
    go_enter Tryz.func100, Tryz.ntmps100
    go_wp2_with (go_at_call 158; refine (scale_bare_any g _ _ _ _ (HG.out.r.mono exq) (HG.out.s.mono exq) HG.out.len).mono ?_; rintro e w' ⟨rfl, X2, rfl⟩; rw [HB.out])
    have hsz : w.heap.size ≤ (World.ext _ X2).heap.size := World.Exts.size exq
    refine wp_region_ext_tail 19 (by kernel_rfl) (by kernel_rfl) ?_
    simp only [List.take_succ_cons, List.take_zero, List.drop_succ_cons, List.drop_zero]
    repeat (go_big_quiet_step (first | (go_at_call 159; exact Calls.in_ext_eq (Max_int_any g.strokes _ _ (HG.out.s.mono exq) h0) (congrArg (Value.int .i64) HMM.out)) | (go_at_call 160; exact Calls.in_ext_eq (Min_int_any g.strokes _ _ (HG.out.s.mono exq) h0) (congrArg (Value.int .i64) Hmm.out))))
    refine wpQuiet_nil ?_
    rintro _ ⟨X, rfl⟩
    go_wp2_with fail
    refine bodyPost_ret (v := .tuple #[.agg #[.int .i64 0, .int .i64 0], .int .i64 8]) (by simp [results, Tryz.results100, go_sem]) rfl ?_
    exact ⟨rfl, exq⟩
  · have hfin := hard_val hb ho
    rw [if_neg (by omega)] at hfin
    rw [hfin]
    have HB := Lib.hid hb
    clear hb
    have HMM := Lib.hid hMM
    clear hMM
    have Hmm := Lib.hid hmm
    clear hmm
    clear hfin ho
    go_enter Tryz.func100, Tryz.ntmps100
    go_wp2_with (go_at_call 158; refine (scale_bare_any g _ _ _ _ (HG.out.r.mono exq) (HG.out.s.mono exq) HG.out.len).mono ?_; rintro e w' ⟨rfl, X2, rfl⟩; rw [HB.out])
    have hsz : w.heap.size ≤ (World.ext _ X2).heap.size := World.Exts.size exq
    refine wp_region_ext_tail 19 (by kernel_rfl) (by kernel_rfl) ?_
    simp only [List.take_succ_cons, List.take_zero, List.drop_succ_cons, List.drop_zero]
    repeat (go_big_quiet_step (first | (go_at_call 159; exact Calls.in_ext_eq (Max_int_any g.strokes _ _ (HG.out.s.mono exq) h0) (congrArg (Value.int .i64) HMM.out)) | (go_at_call 160; exact Calls.in_ext_eq (Min_int_any g.strokes _ _ (HG.out.s.mono exq) h0) (congrArg (Value.int .i64) Hmm.out))))
    refine wpQuiet_nil ?_
    rintro _ ⟨X, rfl⟩
    go_wp2_with fail
    refine bodyPost_ret (v := .tuple #[.agg #[.int .i64 (max 0 (M - g.spread)), .int .i64 (min 2000 (m + g.spread))], .int .i64 0]) (by simp [results, Tryz.results100, go_sem]) rfl ?_
    exact ⟨rfl, exq⟩

set_option maxRecDepth 4000 in
set_option maxHeartbeats 1000000 in
theorem scale_Hard_any (g : Gear) (lv rv sv : Value) (w : World) (hg : GearAt w (g, lv, rv, sv)) :
    Calls Tryz.prog 100 #[.agg #[lv, .int .i64 g.added, .int .i64 g.base, .int .i64 g.jitter, rv, sv, .int .i64 g.spread, .bool g.stamp]] w fun e w' => e = .returned (.tuple #[.agg #[.int .i64 (hard g).1.lo, .int .i64 (hard g).1.hi], .int .i64 (hard g).2]) ∧ w.Exts w' := by
  cases hb : bare g
  · have hfin : hard g = (⟨0, 0⟩, 41) := by unfold hard; rw [hb]; rfl
    rw [hfin]
    have hl1 := hg.l
    have hl2 := hg.r
    have hl3 := hg.s
    dsimp only at hl1 hl2 hl3
    obtain ⟨p1, cap1, rfl⟩ := hl1.len
    obtain ⟨p2, cap2, rfl⟩ := hl2.len
    obtain ⟨p3, cap3, rfl⟩ := hl3.len
    have HG := Lib.hid hg
    clear hg
    have HB := Lib.hid hb
    clear hb
    clear hfin
    go_enter Tryz.func100, Tryz.ntmps100
    go_wp2_with (go_at_call 158; refine (scale_bare_any g _ _ _ _ (HG.out.r.mono exq) (HG.out.s.mono exq) HG.out.len).mono ?_; rintro e w' ⟨rfl, X2, rfl⟩; rw [HB.out])
    refine bodyPost_ret (v := .tuple #[.agg #[.int .i64 0, .int .i64 0], .int .i64 41]) (by simp [results, Tryz.results100, go_sem]) rfl ?_
    exact ⟨rfl, exq⟩
  · obtain ⟨_, _, _, _, _, hs1, hs2, hs3⟩ := bare_bounds hb
    rcases Nat.eq_zero_or_pos g.strokes.length with h0 | h0
    · have hfin := hard_val hb (hardOf_none h0)
      rw [if_neg (by omega)] at hfin
      rw [hfin]
      replace h0 : g.strokes.length ≤ 0 := by omega
      have hl1 := hg.l
      have hl2 := hg.r
      have hl3 := hg.s
      dsimp only at hl1 hl2 hl3
      obtain ⟨p1, cap1, rfl⟩ := hl1.len
      obtain ⟨p2, cap2, rfl⟩ := hl2.len
      obtain ⟨p3, cap3, rfl⟩ := hl3.len
      have HG := Lib.hid hg
      clear hg
      have HB := Lib.hid hb
      clear hb
      clear hfin hs1 hs2 hl1 hl2 hl3
      go_enter Tryz.func100, Tryz.ntmps100
      go_wp2_with (go_at_call 158; refine (scale_bare_any g _ _ _ _ (HG.out.r.mono exq) (HG.out.s.mono exq) HG.out.len).mono ?_; rintro e w' ⟨rfl, X2, rfl⟩; rw [HB.out])
      refine bodyPost_ret (v := .tuple #[.agg #[.int .i64 0, .int .i64 2000], .int .i64 0]) (by simp [results, Tryz.results100, go_sem]) rfl ?_
      exact ⟨rfl, exq⟩
    · exact scale_Hard_some g lv rv sv w hg hb h0 _ _ rfl rfl (hs1 _ (maxL_in h0)) (hs1 _ (minL_in h0)) hs3

set_option maxRecDepth 4000 in
set_option maxHeartbeats 2000000 in
theorem r04_Hard_any (g : Gear) (lv rv sv : Value) (w : World) (hg : GearAt w (g, lv, rv, sv)) :
    Calls Tryz.prog 105 #[.agg #[lv, .int .i64 g.added, .int .i64 g.base, .int .i64 g.jitter, rv, sv, .int .i64 g.spread, .bool g.stamp]] w fun e w' => e = .returned (.tuple #[.agg #[.int .i64 (hard g).1.lo, .int .i64 (hard g).1.hi], .int .i64 (hard g).2]) ∧ w.Exts w' := by
  have hl1 := hg.l
  have hl2 := hg.r
  have hl3 := hg.s
  dsimp only at hl1 hl2 hl3
  obtain ⟨p1, cap1, rfl⟩ := hl1.len
  obtain ⟨p2, cap2, rfl⟩ := hl2.len
  obtain ⟨p3, cap3, rfl⟩ := hl3.len
  have HG := Lib.hid hg
  clear hg
  cases hb : bare g
  · have hfin : hard g = (⟨0, 0⟩, 41) := by unfold hard; rw [hb]; rfl
    rw [hfin]
    have HB := Lib.hid hb
    clear hb
    clear hfin
    go_enter Tryz.func105, Tryz.ntmps105
    go_wp2_with (go_at_call 169; refine (r04_Bare_any g _ _ _ _ (HG.out.r.mono exq) (HG.out.s.mono exq)).mono ?_; rintro e w' ⟨rfl, X2, rfl⟩; rw [HB.out])
    refine bodyPost_ret (v := .tuple #[.agg #[.int .i64 0, .int .i64 0], .int .i64 41]) (by simp [results, Tryz.results105, go_sem]) rfl ?_
    exact ⟨rfl, exq⟩
  · obtain ⟨_, _, _, _, _, hs1, hs2, hs3⟩ := bare_bounds hb
    have hval : ∀ lo hi, hardOf g = ⟨lo, hi⟩ → hard g = if hi < lo then (⟨0, 0⟩, 8) else (⟨lo, hi⟩, 0) := fun _ _ => hard_val hb
    obtain ⟨p3', b3, o3, cap3', e, hm3, hp3, hc3⟩ := hl3.ex
    cases e
    have HB := Lib.hid hb
    clear hb
    have HS1 := Lib.hid hs1
    clear hs1
    have HP3 := Lib.hid hp3
    clear hp3
    have HC3 := Lib.hid hc3
    clear hc3
    have HV := Lib.hid hval
    clear hval
    clear hl3
    go_enter Tryz.func105, Tryz.ntmps105
    go_wp2_with (go_at_call 169; refine (r04_Bare_any g _ _ _ _ (HG.out.r.mono exq) (HG.out.s.mono exq)).mono ?_; rintro e w' ⟨rfl, X2, rfl⟩; rw [HB.out])
    go_loopw [5] (fun i wr => ∃ k : Nat, k ≤ g.strokes.length ∧ i = .int .i64 k ∧ (∃ o : Span, Hid ((g.strokes.take k).foldl (hardStep g.spread) ⟨0, 2000⟩ = o) ∧ wr.cell? ⟨(World.ext _ X2).heap.size, 0, none⟩ = some (.int .i64 o.lo) ∧ wr.cell? ⟨(World.ext _ X2).heap.size, 1, none⟩ = some (.int .i64 o.hi)) ∧ wr.frozen? ⟨(World.ext _ X2).heap.size, 0, none⟩ = false ∧ wr.frozen? ⟨(World.ext _ X2).heap.size, 1, none⟩ = false ∧ Lays wr (World.ext _ X2).heap.size ∧ (World.ext _ X2).Exts wr) (fun i _ => g.strokes.length - (intOf i).toNat)
    case atStart => exact ⟨0, Nat.zero_le _, rfl, ⟨⟨0, 2000⟩, Lib.hid rfl, by simp, by simp⟩, by simp, by simp, lays_new _ _, exq⟩
    case round =>
      obtain ⟨k, hk, rfl, ⟨⟨lo, hi⟩, HO, d0, d1⟩, f0, f1, hl, hE⟩ := hrel
      obtain ⟨X, rfl⟩ := hE
      by_cases hlt : k < g.strokes.length
      · obtain ⟨rfl, hlay⟩ := HP3.out (by omega)
        obtain ⟨x, hx⟩ := some_of_lt hlt
        have hcs := HC3.out k x hx
        have c0 := hcs 0 _ rfl
        simp only [Nat.mul_one, Nat.add_zero] at c0
        have hxb := HS1.out x (List.mem_of_getElem? hx)
        have hnx : (g.strokes.take (k + 1)).foldl (hardStep g.spread) ⟨0, 2000⟩ = hardStep g.spread ⟨lo, hi⟩ x := by rw [take_snoc hx, List.foldl_append, HO.out]; rfl
        have hnx2 : (g.strokes.take (k + 1)).foldl (hardStep g.spread) ⟨0, 2000⟩ = ⟨max lo (x - g.spread), min hi (x + g.spread)⟩ := by rw [hnx]; rfl
        have HN := Lib.hid hnx2
        clear hnx2
        clear hnx hx hcs
        go_wp2_with fail
        refine wp_region_ext_tail 23 (by kernel_rfl) (by kernel_rfl) ?_
        simp only [List.take_succ_cons, List.take_zero, List.drop_succ_cons, List.drop_zero]
        repeat (go_big_quiet_step (fail))
        refine wpQuiet_nil ?_
        rintro _ ⟨X, rfl⟩
        go_wp2_with fail
        go_roundw
        case rel => exact ⟨k + 1, by omega, by go_num, ⟨_, Lib.hid HN.out, by simp [go_sem, d0, d1], by simp [go_sem, d0, d1]⟩, by simp [go_sem, f0], by simp [go_sem, f1], inferInstance, exq⟩
        case measure => simp [intOf]; omega
      · have hkn : k = g.strokes.length := by omega
        have hO := HO.out
        rw [hkn, List.take_length] at hO
        have hfin := HV.out lo hi hO
        clear hkn hO HO HP3 HC3 HV
        rcases Int.lt_or_le hi lo with m3 | m3
        · rw [if_pos m3] at hfin
          have HF := Lib.hid hfin
          clear hfin
          go_wp2_with fail
          refine bodyPost_ret (v := .tuple #[.agg #[.int .i64 0, .int .i64 0], .int .i64 8]) (by simp [results, Tryz.results105, go_sem]) rfl ?_
          exact ⟨by rw [HF.out], exq⟩
        · rw [if_neg (by omega)] at hfin
          have HF := Lib.hid hfin
          clear hfin
          go_wp2_with fail
          refine bodyPost_ret (v := .tuple #[.agg #[.int .i64 lo, .int .i64 hi], .int .i64 0]) (by simp [results, Tryz.results105, go_sem]) rfl ?_
          exact ⟨by rw [HF.out], exq⟩
end Go.Proofs.YtilmniopollbiaaGreatDoor

/-
  Walks of the reference of layer 4: a twin of a gear, of a bay.
-/
namespace Go.Proofs.YtilmniopollbiaaGreatDoor
open Go.RowKit Kr
set_option linter.unusedSimpArgs false

theorem elem_Load : ElemOf Tryz.prog 35 119 (.agg #[.int .i64 0, .int .i64 0]) 2 16 := ⟨Tryz.underlying35, by kernel_rfl, rfl, by decide, by decide⟩
theorem ownsRow_new (W : World) (e : TypeId) (size : Nat) {nb : Nat} (hnb : nb = W.heap.size) : (W.alloc (.cells #[] e)).ownsRow nb e size (.slice (some ⟨nb, 0, none⟩) 0 0) 0 [] := by
  subst hnb
  have h := World.ownsRow_made (base := W.heap.size) (e := e) (size := size) W #[] 0 (by simp) (by decide) (by simp)
  simpa using h

theorem ownsRow_ext {A : World} {base e size n : Nat} {v : Value} {xs : List Value} (h : A.ownsRow base e size v n xs) (X : Ext A) : (A.ext X).ownsRow base e size v n xs := ownsRow_exts h ((World.Exts.refl A).ext X)

/-- What a twin of gear owns: three slices in blocks that are new, and differ. -/
def GearOwn (w w' : World) (g : Gear) (l r s : Value) : Prop :=
  ∃ b1 b2 b3, w.heap.size ≤ b1 ∧ b1 ≤ b2 ∧ b2 ≤ b3 ∧ w'.ownsRow b1 119 2 l g.loads.length (g.loads.flatMap fun t => [.int .i64 t.scale, .int .i64 t.shown]) ∧ w'.ownsRow b2 3 1 r g.runners.length (g.runners.flatMap fun x : Int => [.int .i64 x]) ∧
    w'.ownsRow b3 3 1 s g.strokes.length (g.strokes.flatMap fun x : Int => [.int .i64 x]) ∧ (∀ k, l.ownBlock = some k → k < b2) ∧ ∀ k, r.ownBlock = some k → k < b3
theorem ownsRow_lt {W : World} {base e size n : Nat} {v : Value} {xs : List Value} (h : W.ownsRow base e size v n xs) {k : Nat} (hk : v.ownBlock = some k) : k < W.heap.size := by
  rcases h.2 with ⟨rfl, _⟩ | ⟨g, cap, cur, rfl, _, hg, _⟩
  · simp [Value.ownBlock] at hk
  · simp [Value.ownBlock] at hk
    subst hk
    exact (Array.getElem?_eq_some_iff.1 hg).1

set_option maxRecDepth 4000 in
set_option maxHeartbeats 2000000 in
theorem r04_TwinGear_new (g : Gear) (lv rv sv : Value) (w : World) (hg : GearAt w (g, lv, rv, sv)) (hn1 : g.loads.length ≤ 1000) (hn2 : g.runners.length ≤ 1000) (hn3 : g.strokes.length ≤ 1000) :
    Calls Tryz.prog 12 #[.agg #[lv, .int .i64 g.added, .int .i64 g.base, .int .i64 g.jitter, rv, sv, .int .i64 g.spread, .bool g.stamp]] w fun e w' => ∃ l' r' s', e = .returned (.agg #[l', .int .i64 g.added, .int .i64 g.base, .int .i64 g.jitter, r', s', .int .i64 g.spread, .bool g.stamp]) ∧ GearAt w' (g, l', r', s') ∧ w.Exts w' ∧ GearOwn w w' g l' r' s' := by
  have hl1 := hg.l
  have hl2 := hg.r
  have hl3 := hg.s
  dsimp only at hl1 hl2 hl3
  obtain ⟨p1, cap1, rfl⟩ := hl1.len
  obtain ⟨p2, cap2, rfl⟩ := hl2.len
  obtain ⟨p3, cap3, rfl⟩ := hl3.len
  have HG := Lib.hid hg
  clear hg
  have hlen := HG.out.len
  have hwf := HG.out.wf
  have HWF := Lib.hid hwf
  clear hwf
  go_enter Tryz.func12, Tryz.ntmps12
  go_wp2_with (at_builtin; refine wpList_append_row (.tmp 3) (.tmp 5) elem_Load rfl rfl rfl (ownsRow_new _ _ _ (by simp)) rfl (HG.out.l.mono exq) (fun _ _ => rfl) (fun _ _ u hu => by simp at hu; rcases hu with rfl | rfl <;> rfl) (by dsimp only; omega) (by simp) ?_)
  intro v1 w1 hown1 happ
  obtain ⟨X1, rfl⟩ := happ.exts ((w.alloc (.cells #[.slice p1 g.loads.length cap1, .int .i64 g.added, .int .i64 g.base, .int .i64 g.jitter, .slice p2 g.runners.length cap2, .slice p3 g.strokes.length cap3, .int .i64 g.spread, .bool g.stamp] 38)).alloc _) exq (by simp)
  have hz1 := World.size_ext_le _ X1
  simp at hz1
  obtain ⟨q1, cq1, e1⟩ := (IsRow.of_owns (by simpa using hown1) (fun _ _ => rfl) : IsRow (fun t : Kr.Load => [.int .i64 t.scale, .int .i64 t.shown]) 2 _ v1 g.loads).len
  subst e1
  have HO1 := Lib.hid hown1
  clear hown1
  clear happ
  go_wp2_with (at_builtin; refine wpList_append_row (.tmp 8) (.tmp 10) elem_int rfl rfl rfl (ownsRow_new _ _ _ (by simp)) rfl (HG.out.r.mono exq) (fun _ _ => rfl) (fun _ _ u hu => by simp at hu; rcases hu with rfl <;> rfl) (by dsimp only; omega) (by simp) ?_)
  intro v2 w2 hown2 happ
  obtain ⟨X2, rfl⟩ := happ.exts (World.setCell (World.ext _ X1) _ _) exq (by simp)
  have hz2 := World.size_ext_le _ X2
  simp at hz2
  obtain ⟨q2, cq2, e2⟩ := (IsRow.of_owns (by simpa using hown2) (fun _ _ => rfl) : IsRow (fun x : Int => [.int .i64 x]) 1 _ v2 g.runners).len
  subst e2
  have HO2 := Lib.hid hown2
  clear hown2
  clear happ
  go_wp2_with (at_builtin; refine wpList_append_row (.tmp 13) (.tmp 15) elem_int rfl rfl rfl (ownsRow_new _ _ _ (by simp)) rfl (HG.out.s.mono exq) (fun _ _ => rfl) (fun _ _ u hu => by simp at hu; rcases hu with rfl <;> rfl) (by dsimp only; omega) (by simp) ?_)
  intro v3 w3 hown3 happ
  obtain ⟨X3, rfl⟩ := happ.exts (World.setCell (World.ext _ X2) _ _) exq (by simp)
  obtain ⟨q3, cq3, e3⟩ := (IsRow.of_owns (by simpa using hown3) (fun _ _ => rfl) : IsRow (fun x : Int => [.int .i64 x]) 1 _ v3 g.strokes).len
  subst e3
  have HO3 := Lib.hid hown3
  clear hown3
  clear happ
  go_wp2_with fail
  refine bodyPost_ret (v := .agg #[.slice q1 g.loads.length cq1, .int .i64 g.added, .int .i64 g.base, .int .i64 g.jitter, .slice q2 g.runners.length cq2, .slice q3 g.strokes.length cq3, .int .i64 g.spread, .bool g.stamp]) (by simp [results, Tryz.results12, go_sem]) rfl ?_
  suffices hs : GearOwn w _ g (.slice q1 g.loads.length cq1) (.slice q2 g.runners.length cq2) (.slice q3 g.strokes.length cq3) by
    obtain ⟨b1, b2, b3, _, _, _, o1, o2, o3, _⟩ := id hs
    exact ⟨_, _, _, rfl, ⟨IsRow.of_owns o1 (fun _ _ => rfl), IsRow.of_owns o2 (fun _ _ => rfl), IsRow.of_owns o3 (fun _ _ => rfl), hlen, HWF.out⟩, exq, hs⟩
  refine ⟨w.heap.size + 1 + 1, (World.ext _ X1).heap.size, (World.ext _ X2).heap.size, by omega, by omega, by omega, ?_, ?_, ?_, fun k hk => ownsRow_lt HO1.out hk, fun k hk => ownsRow_lt HO2.out hk⟩
  · have h := HO1.out
    iterate 9 refine World.ownsRow.set ?_ (by simp; try omega) _
    refine ownsRow_ext (World.ownsRow.set (ownsRow_ext (World.ownsRow.set ?_ (by simp; try omega) _) X2) (by simp; try omega) _) X3
    simpa using h
  · have h := HO2.out
    iterate 9 refine World.ownsRow.set ?_ (by simp; try omega) _
    refine ownsRow_ext (World.ownsRow.set ?_ (by simp; try omega) _) X3
    simpa using h
  · have h := HO3.out
    iterate 9 refine World.ownsRow.set ?_ (by simp; try omega) _
    simpa using h
theorem r04_TwinGear_own (g : Gear) (lv rv sv : Value) (w : World) (hg : GearAt w (g, lv, rv, sv)) (hn1 : g.loads.length ≤ 1000) (hn2 : g.runners.length ≤ 1000) (hn3 : g.strokes.length ≤ 1000) :
    Calls Tryz.prog 12 #[.agg #[lv, .int .i64 g.added, .int .i64 g.base, .int .i64 g.jitter, rv, sv, .int .i64 g.spread, .bool g.stamp]] w fun e w' => ∃ l' r' s', e = .returned (.agg #[l', .int .i64 g.added, .int .i64 g.base, .int .i64 g.jitter, r', s', .int .i64 g.spread, .bool g.stamp]) ∧ GearAt w' (g, l', r', s') ∧ w.Exts w' ∧ RowT 119 w' l' ∧ RowT 3 w' r' ∧ RowT 3 w' s' :=
  (r04_TwinGear_new g lv rv sv w hg hn1 hn2 hn3).mono fun _ _ ⟨l', r', s', h1, h2, h3, _, _, _, _, _, _, o1, o2, o3, _⟩ => ⟨l', r', s', h1, h2, h3, RowT.of_owns o1, RowT.of_owns o2, RowT.of_owns o3⟩
theorem r04_TwinGear_any (g : Gear) (lv rv sv : Value) (w : World) (hg : GearAt w (g, lv, rv, sv)) (hn1 : g.loads.length ≤ 1000) (hn2 : g.runners.length ≤ 1000) (hn3 : g.strokes.length ≤ 1000) :
    Calls Tryz.prog 12 #[.agg #[lv, .int .i64 g.added, .int .i64 g.base, .int .i64 g.jitter, rv, sv, .int .i64 g.spread, .bool g.stamp]] w fun e w' => ∃ l' r' s', e = .returned (.agg #[l', .int .i64 g.added, .int .i64 g.base, .int .i64 g.jitter, r', s', .int .i64 g.spread, .bool g.stamp]) ∧ GearAt w' (g, l', r', s') ∧ w.Exts w' :=
  (r04_TwinGear_own g lv rv sv w hg hn1 hn2 hn3).mono fun _ _ ⟨l', r', s', h1, h2, h3, _⟩ => ⟨l', r', s', h1, h2, h3⟩
end Go.Proofs.YtilmniopollbiaaGreatDoor
