/-
  Walks of package scale: Tunes, by slices.Collect over the iterator.
-/
import Derived.Test.YtfjkiemjmnnbkaaDoorScF
import Derived.RangeFuncBox
import Derived.Maps.AppendAt
import Derived.Test.YtfjkiemjmnnbkaaDoorRe
namespace Go.Proofs.YtfjkiemjmnnbkaaDoor
open Go.RowKit Go.Shelf Kr

attribute [local go_sem] Oper.semAt_some

set_option maxRecDepth 100000 in
set_option maxHeartbeats 4000000 in
theorem AppendSeq_Tune_in (n : Nat) (hn : 2 ≤ n) (g : Nat) (lb : Array Value) (eg : ∀ args w, (callFunc g args).run Tryd.prog w = .ok (.enter g args) w) (S Sp : List TuneB → Prop) (N : Nat) (hN : N ≤ 1000) (w : World)
    (hseq : SeqStopsK Fence.wide (n - 1) Tryd.prog g lb encT (Below w.heap.size) S Sp N w) :
    CallsIn Fence.wide n Tryd.prog 63 #[.slice none 0 0, .func (.func g) #[] lb] w fun e w' => ∃ v xs, e = .returned v ∧ S xs ∧ w'.ownsRow w.heap.size 27 3 v xs.length (tuneCs (xs.map Subtype.val)) ∧ w.Exts w' := by
  obtain ⟨i0, hi, hz0, hz1, hz2⟩ := info_parts elem_Tune.inf
  refine callsIn_of_wp_marks Tryd.func63 rfl trivial ?_ rfl
  simp only [Tryd.ntmps63, List.size_toArray, List.length_cons, List.length_nil, Nat.reduceAdd, Nat.reduceSub, Array.replicate_succ, Array.replicate_zero, List.push_toArray, List.append_toArray, List.nil_append, List.cons_append]
  gi_wp2
  have bS := Boxed.new w 59 (.slice none 0 0)
  refine wpIn_rangeFunc_ownH rfl (by omega) (gf := g) (lb := lb) rfl trivial eg hseq belowK_t (belowK_b (by simp)) ((Below.refl _ w).alloc (Nat.le_refl _) _) (fun _ => rfl)
    (fun pre W => (∃ v, Boxed W w.heap.size 59 v ∧ W.ownsRow w.heap.size 27 3 v pre.length (tuneCs (pre.map Subtype.val)) ∧ True) ∧ Below w.heap.size w W)
    (fun _ _ _ => False)
    (OwnFrom.and (Own.from (holdsRow_own w.heap.size w.heap.size 59 27 3 (fun pre : List TuneB => pre.length) (fun pre => tuneCs (pre.map Subtype.val)) (fun _ _ => True)) _) (ownFrom_below (Nat.le_refl _) (by simp)))
    (fun _ _ _ _ _ hs _ _ => hs)
    ⟨⟨_, bS, World.ownsRow_nil _ _ _ _, trivial⟩, (Below.refl _ w).alloc (Nat.le_refl _) _⟩
    (fun x a' W => ∃ Bx, w.heap.size < Bx ∧ W.heap[Bx]? = some (.cells #[.int .i64 x.1.gain, .int .i64 x.1.off.lo, .int .i64 x.1.off.hi] 27 (0, 0)) ∧ a' = { tmps := #[.slice none 0 0, .func (.func g) #[] lb, .pointer (some ⟨w.heap.size, 0, none⟩), undef, .slice none 0 0, .pointer (some ⟨Bx, 0, none⟩), .func (.func g) #[] lb, .agg #[.int .i64 x.1.gain, .int .i64 x.1.off.lo, .int .i64 x.1.off.hi], undef, undef, undef, undef, undef], defers := [] })
    (fun x a' _ X Y row hs hg hr => by
      obtain ⟨Bx, h1, h2, h3⟩ := hs
      refine ⟨Bx, h1, (hg.block Bx (Array.getElem?_eq_some_iff.1 h2).1 (fun e => ?_)).trans h2, h3⟩
      obtain ⟨_, o, ho, hc⟩ := hr Bx e.symm
      rw [h2] at ho; cases ho; cases hc)
    ?assign ?body ?done ?stop
  case assign =>
    rintro l pre x W K ⟨⟨v, hv, hrow, -⟩, hB⟩ hK
    dsimp only [encT]
    gi_wp2
    exact hK _ _ ((KeepsOthers.alloc _ _).from _) ((Below.refl _ W).alloc hB.size _) ⟨⟨v, hv.alloc _, hrow.alloc _, trivial⟩, hB.alloc hB.size _⟩ ⟨W.heap.size, hv.lt, World.alloc_heap_new W _, rfl⟩
  case body =>
    rintro l pre x a' W hl ⟨r, hr⟩ ⟨⟨v, hv, hrow, -⟩, hB⟩ ⟨Bx, hBx, bX, rfl⟩ hlt
    have hc := hv.cell
    have x0 := cells_block (cs := [.int .i64 x.1.gain, .int .i64 x.1.off.lo, .int .i64 x.1.off.hi]) bX 0 _ rfl
    have x1 := cells_block (cs := [.int .i64 x.1.gain, .int .i64 x.1.off.lo, .int .i64 x.1.off.hi]) bX 1 _ rfl
    have x2 := cells_block (cs := [.int .i64 x.1.gain, .int .i64 x.1.off.lo, .int .i64 x.1.off.hi]) bX 2 _ rfl
    have hnew : ∀ (j : Nat) (u : Value), ([.int .i64 x.1.gain, .int .i64 x.1.off.lo, .int .i64 x.1.off.hi] : List Value)[j]? = some u → (W.alloc (.cells #[.int .i64 x.1.gain, .int .i64 x.1.off.lo, .int .i64 x.1.off.hi] 27)).cell? ((⟨W.heap.size, 0, none⟩ : Addr).add j) = some u := by
      intro j u hj
      rw [show (⟨W.heap.size, 0, none⟩ : Addr).add j = ⟨W.heap.size, j, none⟩ from by unfold Addr.add; split <;> simp_all]
      rw [World.cell?_alloc_new]
      simpa using hj
    gi_wp2_with (gi_at_builtin; refine wpListIn_append_own _ rfl _ _ 59 rfl w.heap.size 27 i0 (.agg #[.int .i64 0, .int .i64 0, .int .i64 0]) 3 24 Tryd.underlying59 hi hz0 hz1 hz2 rfl (by decide) _ _ _ rfl (hrow.alloc _) ⟨W.heap.size, 0, none⟩ 1 1 [.int .i64 x.1.gain, .int .i64 x.1.off.lo, .int .i64 x.1.off.hi] rfl rfl hnew (by intro u hu; simp at hu; rcases hu with rfl | rfl | rfl <;> rfl) (by unfold maxLen; omega) (by omega) (by have := hB.size; simp; omega) ?_; intro v' w1 hown' hgrow _; obtain ⟨g', cap', rfl⟩ := ownsRow_succ hown'; obtain ⟨hv1, hv2, hr2, hk2, hb2⟩ := hv.appended (by decide) hrow hB.size (Nat.le_refl _) hown' hgrow; have hc1 := hv1.cell; have hf1 := hv1.frozen)
    exact ⟨hk2.from _, hb2, ⟨_, hv2, by simpa [tuneCs] using hr2, trivial⟩, hB.trans hb2⟩
  case done =>
    rintro D ys W hD hS ⟨⟨v, hv, hrow, -⟩, hB⟩ hK
    have hc := hv.cell
    gi_wp2
    refine ⟨by simp, .inl ⟨_, _, rfl, run_takeDeferred hK, ?_⟩⟩
    exact ⟨_, results_tmp rfl _ _ _, v, ys, rfl, hS, ownsRow_putObj hrow _ hK rfl, .of (hB.trans (belowK_b (w := w) (Nat.le_refl _) W D _ _ (by simp at hD; omega) hK rfl rfl))⟩
  case stop =>
    rintro D c pre W _ _ h _
    exact h.elim

set_option maxHeartbeats 400000 in
theorem Collect_Tune_any (g : Nat) (lb : Array Value) (eg : ∀ args w, (callFunc g args).run Tryd.prog w = .ok (.enter g args) w) (S Sp : List TuneB → Prop) (N : Nat) (hN : N ≤ 1000) (w : World)
    (hseq : SeqStopsK Fence.wide 1 Tryd.prog g lb encT (Below w.heap.size) S Sp N w) :
    Calls Tryd.prog 36 #[.func (.func g) #[] lb] w fun e w' => ∃ v xs, e = .returned v ∧ S xs ∧ w'.ownsRow w.heap.size 27 3 v xs.length (tuneCs (xs.map Subtype.val)) ∧ w.Exts w' := by
  go_enter Tryd.func36, Tryd.ntmps36
  go_wp2_with (go_at_call 63; refine ((callsIn_wide (n := 2)).1 (AppendSeq_Tune_in 2 (by omega) g lb eg S Sp N hN _ hseq)).mono ?_; rintro e w' ⟨v, xs, rfl, hS, ho, X2, rfl⟩)
  go_ret
  exact ⟨v, xs, rfl, hS, ho, exq⟩

set_option maxHeartbeats 400000 in
theorem scale_tunes_any (s : Scale) (tv : Value) (w : World) (hrow : IsRow (fun t : Kr.Trial => [.int .i64 t.weight, .int .i64 t.shown]) 2 w tv s.trials) :
    Calls Tryd.prog 27 #[.agg #[.int .i64 s.id, .int .i64 s.step, .int .i64 s.gain.lo, .int .i64 s.gain.hi, .int .i64 s.off.lo, .int .i64 s.off.hi, tv]] w fun e w' => e = .returned (.func (.func 59) #[] #[.pointer (some ⟨w.heap.size, 0, none⟩)]) ∧ w' = w.alloc (.cells #[.int .i64 s.id, .int .i64 s.step, .int .i64 s.gain.lo, .int .i64 s.gain.hi, .int .i64 s.off.lo, .int .i64 s.off.hi, tv] 34) := by
  obtain ⟨p, cap, rfl⟩ := hrow.len
  go_enter Tryd.func27, Tryd.ntmps27
  go_wp2_with fail
  go_ret
  exact ⟨rfl, rfl⟩

/-- The iterator's contract, where it was just made. -/
theorem tunes_seq (n : Nat) (s : Scale) (tv : Value) (w : World) (hr : right s = true) (hrow : IsRow (fun t : Kr.Trial => [.int .i64 t.weight, .int .i64 t.shown]) 2 w tv s.trials) :
    SeqStopsK Fence.wide n Tryd.prog 59 #[.pointer (some ⟨w.heap.size, 0, none⟩)] encT (Below (w.alloc (.cells #[.int .i64 s.id, .int .i64 s.step, .int .i64 s.gain.lo, .int .i64 s.gain.hi, .int .i64 s.off.lo, .int .i64 s.off.hi, tv] 34)).heap.size) (fun xs => xs.map Subtype.val = tunes s) (fun _ => True) 21 (w.alloc (.cells #[.int .i64 s.id, .int .i64 s.step, .int .i64 s.gain.lo, .int .i64 s.gain.hi, .int .i64 s.off.lo, .int .i64 s.off.hi, tv] 34)) :=
  seqStopsK_mono (fun _ _ h => KeepsScale.of_below (by simp) (by simp) h) (scale_tunes_1_stops n s tv w.heap.size w _ hr ((World.Exts.refl w).alloc _) (World.alloc_heap_new w _) hrow)

set_option maxHeartbeats 1000000 in
theorem scale_Tunes_any (s : Scale) (tv : Value) (w : World) (hrow : IsRow (fun t : Kr.Trial => [.int .i64 t.weight, .int .i64 t.shown]) 2 w tv s.trials) :
    Calls Tryd.prog 15 #[.agg #[.int .i64 s.id, .int .i64 s.step, .int .i64 s.gain.lo, .int .i64 s.gain.hi, .int .i64 s.off.lo, .int .i64 s.off.hi, tv]] w fun e w' => ∃ v, e = .returned (.tuple #[v, .int .i64 (if right s then (if tunes s = [] then 6 else 0) else 40)]) ∧ IsRow (fun t : Kr.Tune => [.int .i64 t.gain, .int .i64 t.off.lo, .int .i64 t.off.hi]) 3 w' v (if right s then tunes s else []) ∧ w.Exts w' := by
  obtain ⟨p, cap, rfl⟩ := hrow.len
  have HR := Lib.hid hrow
  clear hrow
  cases hr : right s
  · have HOK := Lib.hid hr
    clear hr
    go_enter Tryd.func15, Tryd.ntmps15
    go_wp2_with (go_at_call 25; refine (scale_right_any s _ _ (HR.out.mono exq)).mono ?_; rintro e w' ⟨rfl, X2, rfl⟩; rw [HOK.out])
    go_ret2
    exact ⟨_, rfl, IsRow.nil _, exq⟩
  · cases hl : tunes s with
    | nil =>
      have HOK := Lib.hid hr
      clear hr
      have HL := Lib.hid hl
      clear hl
      go_enter Tryd.func15, Tryd.ntmps15
      go_wp2_with (first
        | (go_at_call 25; refine (scale_right_any s _ _ (HR.out.mono exq)).mono ?_; rintro e w' ⟨rfl, X2, rfl⟩; rw [HOK.out])
        | (go_at_call 27; refine (scale_tunes_any s _ _ (HR.out.mono exq)).mono ?_; rintro e w' ⟨rfl, rfl⟩)
        | (go_at_call 36; refine (Collect_Tune_any 59 _ (enters_of Tryd.func59 (by kernel_rfl) rfl) _ _ 21 (by omega) _ (tunes_seq 1 s _ _ HOK.out (HR.out.mono exq))).mono ?_; rintro e w' ⟨v, xs, rfl, hS, ho, X3, rfl⟩; have hrw := row_tunes (l := xs.map Subtype.val) (by rw [List.length_map]; exact ho); have hS2 : xs.map Subtype.val = tunes s := hS; rw [hS2] at hrw; obtain ⟨q, cp, rfl⟩ := hrw.len; rw [HL.out]; clear ho hrw hS hS2))
      go_ret2
      exact ⟨_, rfl, IsRow.nil _, exq⟩
    | cons t l =>
      have hlen : 0 < (tunes s).length := by rw [hl]; simp
      have hlen2 := tunesN_len s s.gain.lo (gainN s)
      have HOK := Lib.hid hr
      clear hr
      have HL := Lib.hid hl
      clear hl
      go_enter Tryd.func15, Tryd.ntmps15
      go_wp2_with (first
        | (go_at_call 25; refine (scale_right_any s _ _ (HR.out.mono exq)).mono ?_; rintro e w' ⟨rfl, X2, rfl⟩; rw [HOK.out])
        | (go_at_call 27; refine (scale_tunes_any s _ _ (HR.out.mono exq)).mono ?_; rintro e w' ⟨rfl, rfl⟩)
        | (go_at_call 36; refine (Collect_Tune_any 59 _ (enters_of Tryd.func59 (by kernel_rfl) rfl) _ _ 21 (by omega) _ (tunes_seq 1 s _ _ HOK.out (HR.out.mono exq))).mono ?_; rintro e w' ⟨v, xs, rfl, hS, ho, X3, rfl⟩; have hrw := row_tunes (l := xs.map Subtype.val) (by rw [List.length_map]; exact ho); have hS2 : xs.map Subtype.val = tunes s := hS; rw [hS2] at hrw; obtain ⟨q, cp, rfl⟩ := hrw.len; have HRW := Lib.hid hrw; clear ho hrw hS hS2))
      go_ret2
      exact ⟨_, rfl, by rw [← HL.out]; exact HRW.out, exq⟩
end Go.Proofs.YtfjkiemjmnnbkaaDoor
