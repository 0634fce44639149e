/-
  Several texts in one: see the heads of its parts.
-/
import Derived.Test.YtomcenfikdmmkaaGreatDoorTc
import Derived.Test.YtomcenfikdmmkaaGreatDoorBs

/-
  Walks of package scale: all truths of a scale with loads: a range over the iterator.
-/
namespace Go.Proofs.YtomcenfikdmmkaaGreatDoor
open Go.RowKit Go.Shelf Kr

attribute [local go_sem] Oper.semAt_some

theorem elem_truth : ElemOf Tryz.prog 128 150 (.agg #[.int .i64 0, .int .i64 0, .int .i64 0, .int .i64 0]) 4 32 := ⟨Tryz.underlying128, by kernel_rfl, rfl, by decide, by decide⟩
theorem not_own {W : World} {B : Nat} {cs : Array Value} {t e : TypeId} {base size k : Nat} {v : Value} {xs : List Value} (h : W.heap[B]? = some (.cells cs t (0, 0))) (hte : t ≠ e) (hr : W.ownsRow base e size v k xs) : some B ≠ v.ownBlock := by
  intro hb
  rcases hr.2 with ⟨rfl, _⟩ | ⟨g, cap, cur, rfl, _, hg, _⟩
  · simp [Value.ownBlock] at hb
  · simp [Value.ownBlock] at hb
    subst hb
    rw [h] at hg
    simp at hg
    exact hte hg.2

/-- What lies in a world in which truths are gathered: the box of all of them, the iterator's scale, the tune. -/
structure TruthsAt (V W : World) (l : List Part) (cs ct : Array Value) (Bx : Nat) : Prop where
  below : Below V.heap.size V W
  row : ∃ v, Boxed W V.heap.size 128 v ∧ W.ownsRow V.heap.size 150 4 v l.length (partCs l) ∧ True
  own : W.heap[V.heap.size + 1]? = some (.cells cs 69 (0, 0))
  tune : W.heap[Bx]? = some (.cells ct 117 (0, 0))
theorem TruthsAt.mono {V W W' : World} {l : List Part} {cs ct : Array Value} {Bx : Nat} (h : TruthsAt V W l cs ct Bx) (hE : W.Exts W') : TruthsAt V W' l cs ct Bx := by
  have hb := hE.below
  have hk : ∀ k o, W.heap[k]? = some o → W'.heap[k]? = some o := fun k o hk => (hb.block k (Array.getElem?_eq_some_iff.1 hk).1).trans hk
  obtain ⟨v, h1, h2, _⟩ := h.row
  exact ⟨h.below.trans (hb.mono h.below.size), ⟨v, hk _ _ h1, ownsRow_exts h2 hE, trivial⟩, hk _ _ h.own, hk _ _ h.tune⟩

theorem TruthsAt.grow {V W w1 : World} {l : List Part} {cs ct : Array Value} {Bx : Nat} {v v' : Value} {tmp : Obj} (x : Part) (h : TruthsAt V W l cs ct Bx) (hv : Boxed W V.heap.size 128 v) (hrow : W.ownsRow V.heap.size 150 4 v l.length (partCs l))
    (hown' : w1.ownsRow V.heap.size 150 4 v' (l.length + 1) (partCs l ++ [.int .i64 x.gain, .int .i64 x.off, .int .i64 x.sum.lo, .int .i64 x.sum.hi])) (hgrow : (W.alloc tmp).grownBy w1 v.ownBlock) (hBx : V.heap.size < Bx) :
    Boxed w1 V.heap.size 128 v ∧ KeepsOthers W (w1.setCell ⟨V.heap.size, 0, none⟩ v') ∧ TruthsAt V (w1.setCell ⟨V.heap.size, 0, none⟩ v') (l ++ [x]) cs ct Bx := by
  obtain ⟨hv1, hv2, hr2, hk2, hb2⟩ := hv.appended (by decide) hrow h.below.size (Nat.le_refl _) hown' hgrow
  have hlt := (Array.getElem?_eq_some_iff.1 h.own).1
  have hlt2 := (Array.getElem?_eq_some_iff.1 h.tune).1
  refine ⟨hv1, hk2, h.below.trans hb2, ⟨v', hv2, by simpa [partCs] using hr2, trivial⟩, ?_, ?_⟩
  · rw [World.heap_set_other _ _ _ (by simp), hgrow.block _ (by simp; omega) (not_own h.own (by decide) hrow), Below.heap_alloc _ _ _ hlt]
    exact h.own
  · rw [World.heap_set_other _ _ _ (by dsimp only; omega), hgrow.block _ (by simp; omega) (not_own h.tune (by decide) hrow), Below.heap_alloc _ _ _ hlt2]
    exact h.tune
theorem below_of {V W W' : World} (h : Below V.heap.size V W) (k : Below V.heap.size V W') (hs : W.heap.size ≤ W'.heap.size) : Below V.heap.size W W' :=
  ⟨k.os.trans h.os.symm, k.tape.trans h.tape.symm, k.output.trans h.output.symm, hs, fun i hi => (k.block i hi).trans (h.block i hi).symm⟩

set_option maxRecDepth 100000 in
set_option maxHeartbeats 4000000 in
theorem scale_truths_in (s : Scale) (tv : Value) (g : Gear) (lv rv sv : Value) (w : World) (hrow : IsRow (fun t : Kr.Trial => [.int .i64 t.weight, .int .i64 t.shown]) 2 w tv s.trials) (hr : right s = true) (hg : GearAt w (g, lv, rv, sv)) (h6 : g.loads.length ≤ 6)
    (hsh : ∀ l ∈ g.loads, l.scale = s.id → -2000000 ≤ l.shown ∧ l.shown ≤ 2000000) :
    CallsIn Fence.wide 3 Tryz.prog 68 #[.agg #[.int .i64 s.id, .int .i64 s.step, .int .i64 s.gain.lo, .int .i64 s.gain.hi, .int .i64 s.off.lo, .int .i64 s.off.hi, tv], .agg #[lv, .int .i64 g.added, .int .i64 g.base, .int .i64 g.jitter, rv, sv, .int .i64 g.spread, .bool g.stamp]] w fun e w' => ∃ v, e = .returned v ∧ IsRow (fun t : Kr.Part => [.int .i64 t.gain, .int .i64 t.off, .int .i64 t.sum.lo, .int .i64 t.sum.hi]) 4 w' v (parts s g.loads) ∧ w.Exts w' := by
  obtain ⟨p, cap, rfl⟩ := hrow.len
  have hl1 := hg.l
  have hl2 := hg.r
  have hl3 := hg.s
  dsimp only at hl1 hl2 hl3
  obtain ⟨p1, b1, o1, cap1, rfl, hm1, hp1, hc1⟩ := hl1.ex
  obtain ⟨p2, cap2, rfl⟩ := hl2.len
  obtain ⟨p3, cap3, rfl⟩ := hl3.len
  obtain ⟨i0, hii, hz0, hz1, hz2⟩ := info_parts elem_truth.inf
  have hst := (right_bounds hr).2.1
  have htb := tunes_bound hr
  have hlen2 := tunesN_len s s.gain.lo (gainN s)
  have hlen3 := gainN_le hr
  have HR := Lib.hid hrow
  clear hrow
  have HOK := Lib.hid hr
  clear hr
  have HC1 := Lib.hid hc1
  clear hc1
  have HP1 := Lib.hid hp1
  clear hp1
  have HSH := Lib.hid hsh
  clear hsh
  have HTB := Lib.hid htb
  clear htb
  clear hg hl1 hl2 hl3
  refine callsIn_of_wp_marks Tryz.func68 rfl trivial ?_ rfl
  simp only [Tryz.ntmps68, List.size_toArray, List.length_cons, List.length_nil, Nat.reduceAdd, Nat.reduceSub, Array.replicate_succ, Array.replicate_zero, List.push_toArray, List.append_toArray, List.nil_append, List.cons_append]
  gi_wp2_with (refine ⟨trivial, ?_⟩; gi_at_call 93; refine (callsIn_wide.2 (scale_tunes_any s _ _ (HR.out.mono (by repeat' (first | with_reducible exact World.Exts.refl _ | with_reducible refine World.Exts.alloc ?_ _ | with_reducible refine World.Exts.drew ?_ | with_reducible refine World.Exts.drewN ?_ _ | with_reducible refine World.Exts.ext ?_ _ | with_reducible refine World.Exts.setCell ?_ ?_ _ | (simp; done) | exact World.size_ext_le _ _ | (simp; omega)))))).mono ?_; rintro e w' ⟨rfl, rfl⟩)
  have hEV : w.Exts ((w.alloc (.cells #[.int .i64 s.id, .int .i64 s.step, .int .i64 s.gain.lo, .int .i64 s.gain.hi, .int .i64 s.off.lo, .int .i64 s.off.hi, .slice p s.trials.length cap] 69)).alloc (.cells #[.slice p1 g.loads.length cap1, .int .i64 g.added, .int .i64 g.base, .int .i64 g.jitter, .slice p2 g.runners.length cap2, .slice p3 g.strokes.length cap3, .int .i64 g.spread, .bool g.stamp] 28)) := (by repeat' (first | with_reducible exact World.Exts.refl _ | with_reducible refine World.Exts.alloc ?_ _ | with_reducible refine World.Exts.drew ?_ | with_reducible refine World.Exts.drewN ?_ _ | with_reducible refine World.Exts.ext ?_ _ | with_reducible refine World.Exts.setCell ?_ ?_ _ | (simp; done) | exact World.size_ext_le _ _ | (simp; omega)))
  have k0 : ((w.alloc (.cells #[.int .i64 s.id, .int .i64 s.step, .int .i64 s.gain.lo, .int .i64 s.gain.hi, .int .i64 s.off.lo, .int .i64 s.off.hi, .slice p s.trials.length cap] 69)).alloc (.cells #[.slice p1 g.loads.length cap1, .int .i64 g.added, .int .i64 g.base, .int .i64 g.jitter, .slice p2 g.runners.length cap2, .slice p3 g.strokes.length cap3, .int .i64 g.spread, .bool g.stamp] 28)).heap[w.heap.size]? = some (.cells #[.int .i64 s.id, .int .i64 s.step, .int .i64 s.gain.lo, .int .i64 s.gain.hi, .int .i64 s.off.lo, .int .i64 s.off.hi, .slice p s.trials.length cap] 69 (0, 0)) := by
    rw [Below.heap_alloc _ _ _ (by simp)]; exact World.alloc_heap_new w _
  have m0 : ((w.alloc (.cells #[.int .i64 s.id, .int .i64 s.step, .int .i64 s.gain.lo, .int .i64 s.gain.hi, .int .i64 s.off.lo, .int .i64 s.off.hi, .slice p s.trials.length cap] 69)).alloc (.cells #[.slice p1 g.loads.length cap1, .int .i64 g.added, .int .i64 g.base, .int .i64 g.jitter, .slice p2 g.runners.length cap2, .slice p3 g.strokes.length cap3, .int .i64 g.spread, .bool g.stamp] 28)).cell? ⟨w.heap.size + 1, 0, none⟩ = some (.slice p1 g.loads.length cap1) := by simp [go_sem]
  have hrow3 := HR.out.mono hEV
  have hVe : ((w.alloc (.cells #[.int .i64 s.id, .int .i64 s.step, .int .i64 s.gain.lo, .int .i64 s.gain.hi, .int .i64 s.off.lo, .int .i64 s.off.hi, .slice p s.trials.length cap] 69)).alloc (.cells #[.slice p1 g.loads.length cap1, .int .i64 g.added, .int .i64 g.base, .int .i64 g.jitter, .slice p2 g.runners.length cap2, .slice p3 g.strokes.length cap3, .int .i64 g.spread, .bool g.stamp] 28)).heap.size = w.heap.size + 1 + 1 := by simp
  generalize ((w.alloc (.cells #[.int .i64 s.id, .int .i64 s.step, .int .i64 s.gain.lo, .int .i64 s.gain.hi, .int .i64 s.off.lo, .int .i64 s.off.hi, .slice p s.trials.length cap] 69)).alloc (.cells #[.slice p1 g.loads.length cap1, .int .i64 g.added, .int .i64 g.base, .int .i64 g.jitter, .slice p2 g.runners.length cap2, .slice p3 g.strokes.length cap3, .int .i64 g.spread, .bool g.stamp] 28)) = V at *
  have hVs : w.heap.size < V.heap.size := (Array.getElem?_eq_some_iff.1 k0).1
  have K0 := Lib.hid k0
  clear k0
  rw [← hVe]
  clear hVe
  refine wpIn_range_box (enc := fun x : TuneB => .agg #[.int .i64 x.1.gain, .int .i64 x.1.off.lo, .int .i64 x.1.off.hi]) (by omega) (gf := 117) (lb := #[.pointer (some ⟨V.heap.size + 1, 0, none⟩)]) rfl (enters_of Tryz.func117 (by kernel_rfl) rfl)
    (scale_tunes_1_stops 2 s _ (V.heap.size + 1) V _ HOK.out (by repeat' (first | with_reducible exact World.Exts.refl _ | with_reducible refine World.Exts.alloc ?_ _ | with_reducible refine World.Exts.drew ?_ | with_reducible refine World.Exts.drewN ?_ _ | with_reducible refine World.Exts.ext ?_ _ | with_reducible refine World.Exts.setCell ?_ ?_ _ | (simp; done) | exact World.size_ext_le _ _ | (simp; omega))) (by have h := World.alloc_heap_new (V.alloc (.cells #[.slice none 0 0] 128)) (.cells #[.int .i64 s.id, .int .i64 s.step, .int .i64 s.gain.lo, .int .i64 s.gain.hi, .int .i64 s.off.lo, .int .i64 s.off.hi, .slice p s.trials.length cap] 69); simpa using h) hrow3)
    (fun h k => h.trans k) (KeepsScale.put (by simp; omega) (by simp))
    (fun pre W => Below V.heap.size V W ∧ (∃ v, Boxed W V.heap.size 128 v ∧ W.ownsRow V.heap.size 150 4 v (partsL s g.loads (tvals pre)).length (partCs (partsL s g.loads (tvals pre))) ∧ True) ∧ W.heap[V.heap.size + 1]? = some (.cells #[.int .i64 s.id, .int .i64 s.step, .int .i64 s.gain.lo, .int .i64 s.gain.hi, .int .i64 s.off.lo, .int .i64 s.off.hi, .slice p s.trials.length cap] 69 (0, 0)))
    (fun _ _ _ => False)
    ?hI (fun _ _ _ _ _ hs _ _ => hs) ?h0 6 (V.heap.size + 1) 117 (fun x => [.int .i64 x.1.gain, .int .i64 x.1.off.lo, .int .i64 x.1.off.hi]) ?assign ?body ?done ?stop
  case hI =>
    exact OwnFrom.and (ownFrom_below (Nat.le_refl _) (by simp; omega)) (OwnFrom.and (Own.from (holdsRow_own V.heap.size V.heap.size 128 150 4 (fun pre : List TuneB => (partsL s g.loads (tvals pre)).length) (fun pre => partCs (partsL s g.loads (tvals pre))) (fun _ _ => True)) _)
      (Own.from (block_own _ (fun _ => .cells #[.int .i64 s.id, .int .i64 s.step, .int .i64 s.gain.lo, .int .i64 s.gain.hi, .int .i64 s.off.lo, .int .i64 s.off.hi, .slice p s.trials.length cap] 69 (0, 0)) (fun _ => rfl)) _))
  case h0 =>
    refine ⟨World.Exts.below (by repeat' (first | with_reducible exact World.Exts.refl _ | with_reducible refine World.Exts.alloc ?_ _ | with_reducible refine World.Exts.drew ?_ | with_reducible refine World.Exts.drewN ?_ _ | with_reducible refine World.Exts.ext ?_ _ | with_reducible refine World.Exts.setCell ?_ ?_ _ | (simp; done) | exact World.size_ext_le _ _ | (simp; omega))), ⟨_, (Boxed.new V 128 (.slice none 0 0)).alloc _, World.ownsRow_nil _ _ _ _, trivial⟩, ?_⟩
    have h := World.alloc_heap_new (V.alloc (.cells #[.slice none 0 0] 128)) (.cells #[.int .i64 s.id, .int .i64 s.step, .int .i64 s.gain.lo, .int .i64 s.gain.hi, .int .i64 s.off.lo, .int .i64 s.off.hi, .slice p s.trials.length cap] 69)
    simpa using h
  case assign =>
    rintro l pre x W K ⟨hB, ⟨v, hv, hrow, -⟩, hs⟩ hK
    have hsz := (Array.getElem?_eq_some_iff.1 hs).1
    gi_wp2
    exact hK W.heap.size _ ((KeepsOthers.alloc _ _).from _) (KeepsScale.of_exts hB.size ((World.Exts.refl W).alloc _)) ⟨hB.alloc hB.size _, ⟨v, hv.alloc _, hrow.alloc _, trivial⟩, (Below.heap_alloc _ _ _ (by omega)).trans hs⟩ hsz (World.alloc_heap_new W _)
  case body =>
    rintro l pre x Bx W hl ⟨hB, hrowX, hs⟩ hBx hbx hlen
    have HT : TruthsAt V W (partsL s g.loads (tvals pre)) #[.int .i64 s.id, .int .i64 s.step, .int .i64 s.gain.lo, .int .i64 s.gain.hi, .int .i64 s.off.lo, .int .i64 s.off.hi, .slice p s.trials.length cap] #[.int .i64 x.1.gain, .int .i64 x.1.off.lo, .int .i64 x.1.off.hi] Bx := ⟨hB, hrowX, hs, hbx⟩
    obtain ⟨hxg, hxo1, hxo2⟩ := x.2
    have kk0 := cells_block (cs := [.int .i64 s.id, .int .i64 s.step, .int .i64 s.gain.lo, .int .i64 s.gain.hi, .int .i64 s.off.lo, .int .i64 s.off.hi, .slice p s.trials.length cap]) K0.out 0 _ rfl
    have kk1 := cells_block (cs := [.int .i64 s.id, .int .i64 s.step, .int .i64 s.gain.lo, .int .i64 s.gain.hi, .int .i64 s.off.lo, .int .i64 s.off.hi, .slice p s.trials.length cap]) K0.out 1 _ rfl
    have kk2 := cells_block (cs := [.int .i64 s.id, .int .i64 s.step, .int .i64 s.gain.lo, .int .i64 s.gain.hi, .int .i64 s.off.lo, .int .i64 s.off.hi, .slice p s.trials.length cap]) K0.out 2 _ rfl
    have kk3 := cells_block (cs := [.int .i64 s.id, .int .i64 s.step, .int .i64 s.gain.lo, .int .i64 s.gain.hi, .int .i64 s.off.lo, .int .i64 s.off.hi, .slice p s.trials.length cap]) K0.out 3 _ rfl
    have kk4 := cells_block (cs := [.int .i64 s.id, .int .i64 s.step, .int .i64 s.gain.lo, .int .i64 s.gain.hi, .int .i64 s.off.lo, .int .i64 s.off.hi, .slice p s.trials.length cap]) K0.out 4 _ rfl
    have kk5 := cells_block (cs := [.int .i64 s.id, .int .i64 s.step, .int .i64 s.gain.lo, .int .i64 s.gain.hi, .int .i64 s.off.lo, .int .i64 s.off.hi, .slice p s.trials.length cap]) K0.out 5 _ rfl
    have kk6 := cells_block (cs := [.int .i64 s.id, .int .i64 s.step, .int .i64 s.gain.lo, .int .i64 s.gain.hi, .int .i64 s.off.lo, .int .i64 s.off.hi, .slice p s.trials.length cap]) K0.out 6 _ rfl
    haveI := Lays.of_cell kk0
    haveI := Lays.of_cell m0
    have hWs : ∀ W', TruthsAt V W' (partsL s g.loads (tvals pre)) #[.int .i64 s.id, .int .i64 s.step, .int .i64 s.gain.lo, .int .i64 s.gain.hi, .int .i64 s.off.lo, .int .i64 s.off.hi, .slice p s.trials.length cap] #[.int .i64 x.1.gain, .int .i64 x.1.off.lo, .int .i64 x.1.off.hi] Bx → True := fun _ _ => trivial
    clear hWs hrowX hs
    obtain ⟨XW, rfl⟩ : ∃ X : Ext V, W = V.ext X := ⟨⟨W, hB⟩, rfl⟩
    have x0 := cells_block (cs := [.int .i64 x.1.gain, .int .i64 x.1.off.lo, .int .i64 x.1.off.hi]) hbx 0 _ rfl
    have x1 := cells_block (cs := [.int .i64 x.1.gain, .int .i64 x.1.off.lo, .int .i64 x.1.off.hi]) hbx 1 _ rfl
    have HTT := Lib.hid HT
    clear HT
    have HBV := Lib.hid hB
    clear hB
    clear hbx
    dsimp only [Act.put]
    gi_wp2
    refine wpIn_scope ?_
    gi_wp2
    refine wpIn_label ?_
    gi_wp2
    gi_loopw [7] (fun off wr => ∃ m : Nat, m ≤ offN x.1 ∧ off = .int .i64 (x.1.off.lo + m) ∧ Hid (TruthsAt V wr (partsL s g.loads (tvals pre) ++ partsN s g.loads x.1.gain x.1.off.lo m) #[.int .i64 s.id, .int .i64 s.step, .int .i64 s.gain.lo, .int .i64 s.gain.hi, .int .i64 s.off.lo, .int .i64 s.off.hi, .slice p s.trials.length cap] #[.int .i64 x.1.gain, .int .i64 x.1.off.lo, .int .i64 x.1.off.hi] Bx) ∧ Hid (KeepsOthers (V.ext XW) wr)) (fun off _ => (x.1.off.hi + 1 - intOf off).toNat)
    case atStart => exact ⟨0, Nat.zero_le _, congrArg (Value.int .i64) (by omega), Lib.hid (by simpa [partsN] using HTT.out), Lib.hid (KeepsOthers.refl _)⟩
    case round =>
      obtain ⟨m, hm, rfl, HT2, HK2⟩ := hrel
      obtain ⟨X2, rfl⟩ : ∃ X : Ext V, wr = V.ext X := ⟨⟨_, HT2.out.below⟩, rfl⟩
      have y0 := cells_block (cs := [.int .i64 x.1.gain, .int .i64 x.1.off.lo, .int .i64 x.1.off.hi]) HT2.out.tune 0 _ rfl
      have y1 := cells_block (cs := [.int .i64 x.1.gain, .int .i64 x.1.off.lo, .int .i64 x.1.off.hi]) HT2.out.tune 1 _ rfl
      have y2 := cells_block (cs := [.int .i64 x.1.gain, .int .i64 x.1.off.lo, .int .i64 x.1.off.hi]) HT2.out.tune 2 _ rfl
      haveI := Lays.of_cell y0
      by_cases hlt2 : x.1.off.lo + m ≤ x.1.off.hi
      · gi_wp2
        gi_loopw [33] (fun kk wr => ∃ (j : Nat) (lo hi : Int), j ≤ g.loads.length ∧ kk = .int .i64 j ∧ Hid ((g.loads.take j).foldl (addLoad s x.1.gain (x.1.off.lo + m)) (some ⟨0, 0⟩) = some ⟨lo, hi⟩) ∧ (0 ≤ lo ∧ lo ≤ 1000000 * j) ∧ (0 ≤ hi ∧ hi ≤ 1000000 * j) ∧ (World.ext _ X2).Exts wr ∧ Lays wr (World.ext _ X2).heap.size ∧
          wr.cell? ⟨(World.ext _ X2).heap.size, 0, none⟩ = some (.int .i64 x.1.gain) ∧ wr.cell? ⟨(World.ext _ X2).heap.size, 1, none⟩ = some (.int .i64 (x.1.off.lo + m)) ∧ wr.cell? ⟨(World.ext _ X2).heap.size, 2, none⟩ = some (.int .i64 lo) ∧ wr.cell? ⟨(World.ext _ X2).heap.size, 3, none⟩ = some (.int .i64 hi) ∧
          wr.frozen? ⟨(World.ext _ X2).heap.size, 2, none⟩ = false ∧ wr.frozen? ⟨(World.ext _ X2).heap.size, 3, none⟩ = false) (fun kk _ => g.loads.length - (intOf kk).toNat)
        case atStart => exact ⟨0, 0, 0, Nat.zero_le _, rfl, rfl, by omega, by omega, (by repeat' (first | with_reducible exact World.Exts.refl _ | with_reducible refine World.Exts.alloc ?_ _ | with_reducible refine World.Exts.drew ?_ | with_reducible refine World.Exts.drewN ?_ _ | with_reducible refine World.Exts.ext ?_ _ | with_reducible refine World.Exts.setCell ?_ ?_ _ | (simp; done) | exact World.size_ext_le _ _ | (simp; omega))), lays_new _ _, by simp, by simp, by simp, by simp, by simp, by simp⟩
        case round =>
          obtain ⟨j, lo, hi, hj, rfl, HF, hlo, hhi, hE4, hlay, e0, e1, e2, e3, f2, f3⟩ := hrel
          obtain ⟨X4, rfl⟩ := hE4
          by_cases hlt3 : j < g.loads.length
          · obtain ⟨rfl, hlp1⟩ := HP1.out (by omega)
            obtain ⟨ld, hld⟩ := some_of_lt hlt3
            have hcl := HC1.out j ld hld
            have a0 := hEV.cell (hcl 0 _ rfl)
            have a1 := hEV.cell (hcl 1 _ rfl)
            simp only [Nat.add_zero] at a0 a1
            haveI := Lays.of_cell a0
            have hsn := fold_snoc (s := s) (gain := x.1.gain) (off := x.1.off.lo + m) hld (some ⟨0, 0⟩)
            rw [HF.out] at hsn
            have hdead : (g.loads.take (j + 1)).foldl (addLoad s x.1.gain (x.1.off.lo + m)) (some ⟨0, 0⟩) = none → g.loads.foldl (addLoad s x.1.gain (x.1.off.lo + m)) (some ⟨0, 0⟩) = none := fun h => by
              rw [← List.take_append_drop (j + 1) g.loads, List.foldl_append, h, addLoad_none]
            have hshown := HSH.out ld (List.mem_of_getElem? hld)
            have HSN := Lib.hid hsn
            clear hsn
            have HDEAD := Lib.hid hdead
            clear hdead
            clear hcl hld HP1
            cases hq : ld.scale == s.id
            · have hq2 : (ld.scale != s.id) = true := by simp [bne, hq]
              have hnx := HSN.out
              rw [addLoad_other hq] at hnx
              have HNX := Lib.hid hnx
              clear hnx
              clear hq hshown
              gi_wp2
              go_roundw
              case rel => exact ⟨j + 1, lo, hi, by omega, by go_num, Lib.hid HNX.out, by omega, by omega, (by repeat' (first | with_reducible exact World.Exts.refl _ | with_reducible refine World.Exts.alloc ?_ _ | with_reducible refine World.Exts.drew ?_ | with_reducible refine World.Exts.drewN ?_ _ | with_reducible refine World.Exts.ext ?_ _ | with_reducible refine World.Exts.setCell ?_ ?_ _ | (simp; done) | exact World.size_ext_le _ _ | (simp; omega))), inferInstance, by simp [go_sem, e0], by simp [go_sem, e1], by simp [go_sem, e2], by simp [go_sem, e3], by simp [go_sem, f2], by simp [go_sem, f3]⟩
              case measure => simp [intOf]; omega
            · have hq2 : (ld.scale != s.id) = false := by simp [bne, hq]
              have hsb := hshown (by simpa using hq)
              have hwb := wt_bound s.step x.1.gain (x.1.off.lo + m) ld.shown
              have hyes : (wt s.step x.1.gain (x.1.off.lo + m) ld.shown).lo ≤ (wt s.step x.1.gain (x.1.off.lo + m) ld.shown).hi → (g.loads.take (j + 1)).foldl (addLoad s x.1.gain (x.1.off.lo + m)) (some ⟨0, 0⟩) = some ⟨lo + (wt s.step x.1.gain (x.1.off.lo + m) ld.shown).lo, hi + (wt s.step x.1.gain (x.1.off.lo + m) ld.shown).hi⟩ := fun h2 => by
                rw [HSN.out]; unfold addLoad; rw [if_pos (by simpa using hq)]; simp only; rw [if_pos h2]
              have hno : (wt s.step x.1.gain (x.1.off.lo + m) ld.shown).hi < (wt s.step x.1.gain (x.1.off.lo + m) ld.shown).lo → partsN s g.loads x.1.gain x.1.off.lo (m + 1) = partsN s g.loads x.1.gain x.1.off.lo m := fun h2 => by
                refine parts_no (HDEAD.out ?_)
                rw [HSN.out]; unfold addLoad; rw [if_pos (by simpa using hq)]; simp only; rw [if_neg (by omega)]
              generalize hwr : wt s.step x.1.gain (x.1.off.lo + m) ld.shown = y at hwb hyes hno
              have HWR := Lib.hid hwr
              clear hwr
              have HYES := Lib.hid hyes
              clear hyes
              have HNO := Lib.hid hno
              clear hno
              clear hq hshown
              rcases Int.lt_or_le y.hi y.lo with hx | hx
              · gi_wp2_with (refine ⟨trivial, ?_⟩; gi_at_call 90; refine (callsIn_wide.2 (scale_weights_any s _ _ _ _ _ hst hxg (by omega) hsb)).mono ?_; rw [HWR.out]; rintro e w' ⟨rfl, X5, rfl⟩)
                go_roundw
                case rel => exact ⟨m + 1, by unfold offN; omega, congrArg (Value.int .i64) (by omega), Lib.hid (by rw [HNO.out hx]; exact HT2.out.mono (by repeat' (first | with_reducible exact World.Exts.refl _ | with_reducible refine World.Exts.alloc ?_ _ | with_reducible refine World.Exts.drew ?_ | with_reducible refine World.Exts.drewN ?_ _ | with_reducible refine World.Exts.ext ?_ _ | with_reducible refine World.Exts.setCell ?_ ?_ _ | (simp; done) | exact World.size_ext_le _ _ | (simp; omega)))), Lib.hid (HK2.out.trans (KeepsOthers.of_exts (by repeat' (first | with_reducible exact World.Exts.refl _ | with_reducible refine World.Exts.alloc ?_ _ | with_reducible refine World.Exts.drew ?_ | with_reducible refine World.Exts.drewN ?_ _ | with_reducible refine World.Exts.ext ?_ _ | with_reducible refine World.Exts.setCell ?_ ?_ _ | (simp; done) | exact World.size_ext_le _ _ | (simp; omega)))))⟩
                case measure => simp [intOf]; omega
              · gi_wp2_with (refine ⟨trivial, ?_⟩; gi_at_call 90; refine (callsIn_wide.2 (scale_weights_any s _ _ _ _ _ hst hxg (by omega) hsb)).mono ?_; rw [HWR.out]; rintro e w' ⟨rfl, X5, rfl⟩)
                go_roundw
                case rel => exact ⟨j + 1, lo + y.lo, hi + y.hi, by omega, by go_num, Lib.hid (HYES.out hx), by omega, by omega, (by repeat' (first | with_reducible exact World.Exts.refl _ | with_reducible refine World.Exts.alloc ?_ _ | with_reducible refine World.Exts.drew ?_ | with_reducible refine World.Exts.drewN ?_ _ | with_reducible refine World.Exts.ext ?_ _ | with_reducible refine World.Exts.setCell ?_ ?_ _ | (simp; done) | exact World.size_ext_le _ _ | (simp; omega))), inferInstance, by simp [go_sem, e0], by simp [go_sem, e1], by simp [go_sem, e2], by simp [go_sem, e3], by simp [go_sem, f2], by simp [go_sem, f3]⟩
                case measure => simp [intOf]; omega
          · have hjn : j = g.loads.length := by omega
            have hF := HF.out
            rw [hjn, List.take_length] at hF
            have HF2 := Lib.hid hF
            clear hF
            clear hjn
            have hnx := parts_yes HF2.out
            have HNX := Lib.hid hnx
            clear hnx
            have hT4 := HT2.out.mono (W' := World.ext _ X4) (by repeat' (first | with_reducible exact World.Exts.refl _ | with_reducible refine World.Exts.alloc ?_ _ | with_reducible refine World.Exts.drew ?_ | with_reducible refine World.Exts.drewN ?_ _ | with_reducible refine World.Exts.ext ?_ _ | with_reducible refine World.Exts.setCell ?_ ?_ _ | (simp; done) | exact World.size_ext_le _ _ | (simp; omega)))
            obtain ⟨v, hv, hrw, -⟩ := hT4.row
            have hc := hv.cell
            have hBs := hT4.below.size
            have hlen4 : (partsL s g.loads (tvals pre) ++ partsN s g.loads x.1.gain x.1.off.lo m).length ≤ 1000000 := by
              have h1 := partsL_len s g.loads (tvals pre) (fun t ht => by obtain ⟨y, _, rfl⟩ := List.mem_map.1 ht; have := y.2; omega)
              have h2 := partsN_len s g.loads x.1.gain x.1.off.lo m
              have h3 : offN x.1 ≤ 201 := by unfold offN; omega
              have h4 : (tvals pre).length = pre.length := by simp [tvals]
              rw [List.length_append]; omega
            have hnew : ∀ (i : Nat) (u : Value), ([.int .i64 x.1.gain, .int .i64 (x.1.off.lo + m), .int .i64 lo, .int .i64 hi] : List Value)[i]? = some u → ((World.ext _ X4).alloc (.cells #[.int .i64 x.1.gain, .int .i64 (x.1.off.lo + m), .int .i64 lo, .int .i64 hi] 150)).cell? ((⟨(World.ext _ X4).heap.size, 0, none⟩ : Addr).add i) = some u := by
              intro i u hj
              rw [show (⟨(World.ext _ X4).heap.size, 0, none⟩ : Addr).add i = ⟨(World.ext _ X4).heap.size, i, none⟩ from by unfold Addr.add; split <;> simp_all]
              rw [World.cell?_alloc_new]
              simpa using hj
            have hone : ∀ u ∈ ([.int .i64 x.1.gain, .int .i64 (x.1.off.lo + m), .int .i64 lo, .int .i64 hi] : List Value), u.oneCell' = true := by intro u hu; simp at hu; rcases hu with rfl | rfl | rfl | rfl <;> rfl
            generalize hL : partsL s g.loads (tvals pre) ++ partsN s g.loads x.1.gain x.1.off.lo m = L at hT4 hrw hlen4
            have HL := Lib.hid hL
            clear hL
            have HT4 := Lib.hid hT4
            clear hT4
            have HNEW := Lib.hid hnew
            clear hnew
            have HONE := Lib.hid hone
            clear hone
            have HV := Lib.hid hv
            clear hv
            have HRW := Lib.hid hrw
            clear hrw
            gi_wp2_with (gi_at_builtin; refine wpListIn_append_own _ rfl _ _ 128 rfl V.heap.size 150 i0 (.agg #[.int .i64 0, .int .i64 0, .int .i64 0, .int .i64 0]) 4 32 Tryz.underlying128 hii hz0 hz1 hz2 rfl (by decide) _ _ _ rfl (HRW.out.alloc _) ⟨(World.ext _ X4).heap.size, 0, none⟩ 1 1 [.int .i64 x.1.gain, .int .i64 (x.1.off.lo + m), .int .i64 lo, .int .i64 hi] rfl rfl HNEW.out HONE.out (by unfold maxLen; omega) (by omega) (by simp; omega) ?_; intro v' w1 hown' hgrow _; obtain ⟨g', cap', rfl⟩ := ownsRow_succ hown'; obtain ⟨hv1, hk5, hT5⟩ := HT4.out.grow ⟨x.1.gain, x.1.off.lo + m, ⟨lo, hi⟩⟩ HV.out HRW.out hown' hgrow (by omega); have hc1 := hv1.cell; have hf1 := hv1.frozen; have HT5 := Lib.hid hT5; have HK5 := Lib.hid hk5; clear hT5 hk5 hv1 hown' hgrow)
            go_roundw
            case rel => exact ⟨m + 1, by unfold offN; omega, congrArg (Value.int .i64) (by omega), Lib.hid (by rw [HNX.out, ← List.append_assoc, HL.out]; exact HT5.out), Lib.hid ((HK2.out.trans (KeepsOthers.of_exts (by repeat' (first | with_reducible exact World.Exts.refl _ | with_reducible refine World.Exts.alloc ?_ _ | with_reducible refine World.Exts.drew ?_ | with_reducible refine World.Exts.drewN ?_ _ | with_reducible refine World.Exts.ext ?_ _ | with_reducible refine World.Exts.setCell ?_ ?_ _ | (simp; done) | exact World.size_ext_le _ _ | (simp; omega))))).trans HK5.out)⟩
            case measure => simp [intOf]; omega
      · have hmn : m = offN x.1 := by unfold offN at hm ⊢; omega
        have hT := HT2.out
        have hfin : partsL s g.loads (tvals pre) ++ partsN s g.loads x.1.gain x.1.off.lo (offN x.1) = partsL s g.loads (tvals (pre ++ [x])) := by
          rw [tvals_snoc]; unfold partsL; rw [List.flatMap_append]; simp [partsT]
        rw [hmn, hfin] at hT
        have HT3 := Lib.hid hT
        clear hT
        clear hmn hfin
        gi_wp2
        obtain ⟨v, hv, hrw, -⟩ := HT3.out.row
        refine ⟨HK2.out.from _, ⟨below_of HBV.out HT3.out.below HK2.out.size, fun _ => ?_⟩, HT3.out.below, ⟨v, hv, hrw, trivial⟩, HT3.out.own⟩
        exact HT3.out.own.trans HTT.out.own.symm
  case done =>
    rintro D ys W hD hS ⟨hB, ⟨v, hv, hrow, -⟩, hs⟩ hK
    have hS2 : tvals ys = tunes s := hS
    rw [hS2] at hrow
    have hc := hv.cell
    gi_wp2
    refine ⟨by simp, .inl ⟨_, _, rfl, run_takeDeferred hK, ?_⟩⟩
    exact ⟨_, results_tmp rfl _ _ _, v, rfl, row_parts (ownsRow_putObj hrow _ hK rfl), .of ((hEV.below.trans (hB.mono hEV.size)).trans (belowK_b (w := w) (Nat.le_refl _) W D _ _ (by simp at hD; omega) hK rfl rfl))⟩
  case stop =>
    rintro D c pre W _ _ h _
    exact h.elim
theorem scale_truths_any (s : Scale) (tv : Value) (g : Gear) (lv rv sv : Value) (w : World) (hrow : IsRow (fun t : Kr.Trial => [.int .i64 t.weight, .int .i64 t.shown]) 2 w tv s.trials) (hr : right s = true) (hg : GearAt w (g, lv, rv, sv)) (h6 : g.loads.length ≤ 6)
    (hsh : ∀ l ∈ g.loads, l.scale = s.id → -2000000 ≤ l.shown ∧ l.shown ≤ 2000000) :
    Calls Tryz.prog 68 #[.agg #[.int .i64 s.id, .int .i64 s.step, .int .i64 s.gain.lo, .int .i64 s.gain.hi, .int .i64 s.off.lo, .int .i64 s.off.hi, tv], .agg #[lv, .int .i64 g.added, .int .i64 g.base, .int .i64 g.jitter, rv, sv, .int .i64 g.spread, .bool g.stamp]] w fun e w' => ∃ v, e = .returned v ∧ IsRow (fun t : Kr.Part => [.int .i64 t.gain, .int .i64 t.off, .int .i64 t.sum.lo, .int .i64 t.sum.hi]) 4 w' v (parts s g.loads) ∧ w.Exts w' :=
  callsIn_wide.1 (scale_truths_in s tv g lv rv sv w hrow hr hg h6 hsh)
end Go.Proofs.YtomcenfikdmmkaaGreatDoor

/-
  Walks of package scale: slices.Backward at scales and at spans: iterators that yield an index and an element.
-/
namespace Go.Proofs.YtomcenfikdmmkaaGreatDoor
open Go.RowKit Go.Shelf Kr
set_option linter.unusedSimpArgs false

attribute [local go_sem] Oper.semAt_some

/-- The first m of the indices, from the last one on. -/
def backs (n m : Nat) : List (Fin n) := (List.finRange n).reverse.take m
theorem backs_all (n : Nat) : backs n n = (List.finRange n).reverse := by unfold backs; rw [List.take_of_length_le (by simp)]
theorem backs_len (n m : Nat) : (backs n m).length = min m n := by unfold backs; simp
theorem backs_snoc {n j : Nat} (h : j < n) : backs n (n - j) = backs n (n - (j + 1)) ++ [⟨j, h⟩] := by
  unfold backs
  rw [show n - j = n - (j + 1) + 1 by omega, List.take_succ_eq_append_getElem (by simp; omega)]
  congr 1
  simp
  omega
theorem Backward_Scale_any (q : Option Addr) (n c : Nat) (w : World) : Calls Tryz.prog 86 #[.slice q n c] w fun e w' => e = .returned (.func (.func 113) #[] #[.pointer (some ⟨w.heap.size, 0, none⟩)]) ∧ w' = w.alloc (.cells #[.slice q n c] 22) := by
  go_enter Tryz.func86, Tryz.ntmps86
  go_wp2_with fail
  go_ret
  exact ⟨rfl, rfl⟩
def encBackward_Scale (xs : List (Kr.Scale × Value)) (i : Fin xs.length) : Array Value := #[.int .i64 (i.1 : Int), .agg #[.int .i64 (xs.get i).1.id, .int .i64 (xs.get i).1.step, .int .i64 (xs.get i).1.gain.lo, .int .i64 (xs.get i).1.gain.hi, .int .i64 (xs.get i).1.off.lo, .int .i64 (xs.get i).1.off.hi, (xs.get i).2]]
set_option maxRecDepth 100000 in
set_option maxHeartbeats 2000000 in
theorem Backward_Scale_1_stops (n : Nat) (xs : List (Kr.Scale × Value)) (v : Value) (Bs : Nat) (u w : World) (hu : u.Exts w) (hBs : w.heap[Bs]? = some (.cells #[v] 22 (0, 0))) (hrow : IsRow (fun x : Kr.Scale × Value => [.int .i64 x.1.id, .int .i64 x.1.step, .int .i64 x.1.gain.lo, .int .i64 x.1.gain.hi, .int .i64 x.1.off.lo, .int .i64 x.1.off.hi, x.2]) 7 u v xs) :
    SeqStopsK Fence.wide n Tryz.prog 113 #[.pointer (some ⟨Bs, 0, none⟩)] (encBackward_Scale xs) (KeepsScale u Bs) (fun l => l = (List.finRange xs.length).reverse) (fun _ => True) xs.length w := by
  intro l J Jx W hW hJ hJx hY hJ0
  have hEu : u.Exts W := hu.trans (.of hW)
  have hlt0 : Bs < w.heap.size := (Array.getElem?_eq_some_iff.1 hBs).1
  have hBW : W.heap[Bs]? = some (.cells #[v] 22 (0, 0)) := (hW.block Bs hlt0).trans hBs
  clear hBs hlt0 hW hu
  obtain ⟨X0, rfl⟩ := hEu
  obtain ⟨p, b, oo, cap, rfl, hm, hp, hc⟩ := hrow.ex
  have h2 : (u.ext X0).cell? ⟨Bs, 0, none⟩ = some (.slice p xs.length cap) := cells_block (cs := [.slice p xs.length cap]) hBW 0 _ rfl
  haveI := Lays.of_cell h2
  have HBW := Lib.hid hBW
  clear hBW
  have HC := Lib.hid hc
  clear hc
  have HP := Lib.hid hp
  clear hp
  have HY := Lib.hid hY
  clear hY
  have HJA := Lib.hid hJ
  clear hJ
  have HJ0 := Lib.hid hJ0
  clear hJ0
  clear hrow hJx
  show CallsIn Fence.wide n Tryz.prog 113 #[.func (.yield l) #[] #[], .pointer (some ⟨Bs, 0, none⟩)] _ _
  refine callsIn_of_wp Tryz.func113 rfl trivial ?_ rfl
  simp only [Tryz.ntmps113, List.size_toArray, List.length_cons, List.length_nil, Nat.reduceAdd, Nat.reduceSub, Array.replicate_succ, Array.replicate_zero, List.push_toArray, List.append_toArray, List.nil_append, List.cons_append]
  gi_wp2
  gi_loopw [3] (fun i wr => ∃ (j : Nat), j ≤ xs.length ∧ i = .int .i64 ((j : Int) - 1) ∧ u.Exts wr ∧ Hid (wr.heap[Bs]? = some (.cells #[.slice p xs.length cap] 22 (0, 0))) ∧ Hid (J (backs xs.length (xs.length - j)) wr)) (fun i _ => (intOf i + 1).toNat)
  case atStart => exact ⟨xs.length, Nat.le_refl _, rfl, (by repeat' (first | with_reducible exact World.Exts.refl _ | with_reducible refine World.Exts.alloc ?_ _ | with_reducible refine World.Exts.drew ?_ | with_reducible refine World.Exts.drewN ?_ _ | with_reducible refine World.Exts.ext ?_ _ | with_reducible refine World.Exts.setCell ?_ ?_ _ | (simp; done) | exact World.size_ext_le _ _ | (simp; omega))), HBW, Lib.hid (by rw [Nat.sub_self]; exact HJ0.out)⟩
  case round =>
    obtain ⟨j, hj, rfl, hE, HB, HJ⟩ := hrel
    obtain ⟨X, rfl⟩ := hE
    have g1 := cells_block (cs := [.slice p xs.length cap]) HB.out 0 _ rfl
    haveI := Lays.of_cell g1
    rcases j with _ | j
    · have e0 : ((0 : Nat) : Int) - 1 = -1 := rfl
      rw [e0]
      clear e0
      have hJ9 := HJ.out
      rw [Nat.sub_zero, backs_all] at hJ9
      have HJ9 := Lib.hid hJ9
      clear hJ9
      gi_wp2
      go_end0
      exact ⟨⟨_, rfl⟩, .inl ⟨_, rfl, HJ9.out⟩⟩
    · obtain ⟨x, hx⟩ := some_of_lt (xs := xs) (k := j) (by omega)
      obtain ⟨rfl, hlay⟩ := HP.out (by omega)
      have hcs := HC.out j x hx
      have c0 := hcs 0 _ rfl
      have c1 := hcs 1 _ rfl
      have c2 := hcs 2 _ rfl
      have c3 := hcs 3 _ rfl
      have c4 := hcs 4 _ rfl
      have c5 := hcs 5 _ rfl
      have c6 := hcs 6 _ rfl
      simp only [Nat.add_zero] at c0 c1 c2 c3 c4 c5 c6
      have hLc := Lays.of_cell c0
      have hget : xs.get ⟨j, by omega⟩ = x := (List.getElem?_eq_some_iff.1 hx).2
      have hbk := backs_snoc (n := xs.length) (j := j) (by omega)
      obtain ⟨fn, tmps, assign, body, hy, hR⟩ := HY.out (backs xs.length (xs.length - (j + 1))) ⟨j, by omega⟩ _ HJ.out (by rw [backs_len]; omega)
      dsimp only [encBackward_Scale] at hy
      rw [hget] at hy
      rw [← hbk] at hR
      have HBK := Lib.hid hbk
      clear hbk
      clear hx hcs hget
      gi_wp2
      refine ⟨fun e => (by cases e), hR.mono ?_⟩
      rintro e W3 (⟨rfl, hJ3, hk3⟩ | ⟨rfl, hJx3⟩)
      · have hE3 : u.Exts W3 := .of ((World.Exts.below (w := u) (w' := World.ext _ X) (by repeat' (first | with_reducible exact World.Exts.refl _ | with_reducible refine World.Exts.alloc ?_ _ | with_reducible refine World.Exts.drew ?_ | with_reducible refine World.Exts.drewN ?_ _ | with_reducible refine World.Exts.ext ?_ _ | with_reducible refine World.Exts.setCell ?_ ?_ _ | (simp; done) | exact World.size_ext_le _ _ | (simp; omega)))).trans hk3.1)
        have HB3 := Lib.hid ((hk3.2 (Array.getElem?_eq_some_iff.1 HB.out).1).trans HB.out)
        clear hk3
        gi_wp2
        go_roundw
        case rel => exact ⟨j, by omega, by go_num, hE3, HB3, Lib.hid hJ3⟩
        case measure => simp [intOf] <;> omega
      · gi_wp2
        refine bodyPost_ret (results_none rfl _ _ _) rfl ?_
        exact ⟨⟨_, rfl⟩, .inr ⟨_, trivial, hJx3⟩⟩
theorem Backward_Span_any (q : Option Addr) (n c : Nat) (w : World) : Calls Tryz.prog 91 #[.slice q n c] w fun e w' => e = .returned (.func (.func 114) #[] #[.pointer (some ⟨w.heap.size, 0, none⟩)]) ∧ w' = w.alloc (.cells #[.slice q n c] 57) := by
  go_enter Tryz.func91, Tryz.ntmps91
  go_wp2_with fail
  go_ret
  exact ⟨rfl, rfl⟩
def encBackward_Span (xs : List (Kr.Span)) (i : Fin xs.length) : Array Value := #[.int .i64 (i.1 : Int), .agg #[.int .i64 (xs.get i).lo, .int .i64 (xs.get i).hi]]
set_option maxRecDepth 100000 in
set_option maxHeartbeats 2000000 in
theorem Backward_Span_1_stops (n : Nat) (xs : List (Kr.Span)) (v : Value) (Bs : Nat) (u w : World) (hu : u.Exts w) (hBs : w.heap[Bs]? = some (.cells #[v] 57 (0, 0))) (hrow : IsRow (fun t : Kr.Span => [.int .i64 t.lo, .int .i64 t.hi]) 2 u v xs) :
    SeqStopsK Fence.wide n Tryz.prog 114 #[.pointer (some ⟨Bs, 0, none⟩)] (encBackward_Span xs) (KeepsScale u Bs) (fun l => l = (List.finRange xs.length).reverse) (fun _ => True) xs.length w := by
  intro l J Jx W hW hJ hJx hY hJ0
  have hEu : u.Exts W := hu.trans (.of hW)
  have hlt0 : Bs < w.heap.size := (Array.getElem?_eq_some_iff.1 hBs).1
  have hBW : W.heap[Bs]? = some (.cells #[v] 57 (0, 0)) := (hW.block Bs hlt0).trans hBs
  clear hBs hlt0 hW hu
  obtain ⟨X0, rfl⟩ := hEu
  obtain ⟨p, b, oo, cap, rfl, hm, hp, hc⟩ := hrow.ex
  have h2 : (u.ext X0).cell? ⟨Bs, 0, none⟩ = some (.slice p xs.length cap) := cells_block (cs := [.slice p xs.length cap]) hBW 0 _ rfl
  haveI := Lays.of_cell h2
  have HBW := Lib.hid hBW
  clear hBW
  have HC := Lib.hid hc
  clear hc
  have HP := Lib.hid hp
  clear hp
  have HY := Lib.hid hY
  clear hY
  have HJA := Lib.hid hJ
  clear hJ
  have HJ0 := Lib.hid hJ0
  clear hJ0
  clear hrow hJx
  show CallsIn Fence.wide n Tryz.prog 114 #[.func (.yield l) #[] #[], .pointer (some ⟨Bs, 0, none⟩)] _ _
  refine callsIn_of_wp Tryz.func114 rfl trivial ?_ rfl
  simp only [Tryz.ntmps114, List.size_toArray, List.length_cons, List.length_nil, Nat.reduceAdd, Nat.reduceSub, Array.replicate_succ, Array.replicate_zero, List.push_toArray, List.append_toArray, List.nil_append, List.cons_append]
  gi_wp2
  gi_loopw [3] (fun i wr => ∃ (j : Nat), j ≤ xs.length ∧ i = .int .i64 ((j : Int) - 1) ∧ u.Exts wr ∧ Hid (wr.heap[Bs]? = some (.cells #[.slice p xs.length cap] 57 (0, 0))) ∧ Hid (J (backs xs.length (xs.length - j)) wr)) (fun i _ => (intOf i + 1).toNat)
  case atStart => exact ⟨xs.length, Nat.le_refl _, rfl, (by repeat' (first | with_reducible exact World.Exts.refl _ | with_reducible refine World.Exts.alloc ?_ _ | with_reducible refine World.Exts.drew ?_ | with_reducible refine World.Exts.drewN ?_ _ | with_reducible refine World.Exts.ext ?_ _ | with_reducible refine World.Exts.setCell ?_ ?_ _ | (simp; done) | exact World.size_ext_le _ _ | (simp; omega))), HBW, Lib.hid (by rw [Nat.sub_self]; exact HJ0.out)⟩
  case round =>
    obtain ⟨j, hj, rfl, hE, HB, HJ⟩ := hrel
    obtain ⟨X, rfl⟩ := hE
    have g1 := cells_block (cs := [.slice p xs.length cap]) HB.out 0 _ rfl
    haveI := Lays.of_cell g1
    rcases j with _ | j
    · have e0 : ((0 : Nat) : Int) - 1 = -1 := rfl
      rw [e0]
      clear e0
      have hJ9 := HJ.out
      rw [Nat.sub_zero, backs_all] at hJ9
      have HJ9 := Lib.hid hJ9
      clear hJ9
      gi_wp2
      go_end0
      exact ⟨⟨_, rfl⟩, .inl ⟨_, rfl, HJ9.out⟩⟩
    · obtain ⟨x, hx⟩ := some_of_lt (xs := xs) (k := j) (by omega)
      obtain ⟨rfl, hlay⟩ := HP.out (by omega)
      have hcs := HC.out j x hx
      have c0 := hcs 0 _ rfl
      have c1 := hcs 1 _ rfl
      simp only [Nat.add_zero] at c0 c1
      have hLc := Lays.of_cell c0
      have hget : xs.get ⟨j, by omega⟩ = x := (List.getElem?_eq_some_iff.1 hx).2
      have hbk := backs_snoc (n := xs.length) (j := j) (by omega)
      obtain ⟨fn, tmps, assign, body, hy, hR⟩ := HY.out (backs xs.length (xs.length - (j + 1))) ⟨j, by omega⟩ _ HJ.out (by rw [backs_len]; omega)
      dsimp only [encBackward_Span] at hy
      rw [hget] at hy
      rw [← hbk] at hR
      have HBK := Lib.hid hbk
      clear hbk
      clear hx hcs hget
      gi_wp2
      refine ⟨fun e => (by cases e), hR.mono ?_⟩
      rintro e W3 (⟨rfl, hJ3, hk3⟩ | ⟨rfl, hJx3⟩)
      · have hE3 : u.Exts W3 := .of ((World.Exts.below (w := u) (w' := World.ext _ X) (by repeat' (first | with_reducible exact World.Exts.refl _ | with_reducible refine World.Exts.alloc ?_ _ | with_reducible refine World.Exts.drew ?_ | with_reducible refine World.Exts.drewN ?_ _ | with_reducible refine World.Exts.ext ?_ _ | with_reducible refine World.Exts.setCell ?_ ?_ _ | (simp; done) | exact World.size_ext_le _ _ | (simp; omega)))).trans hk3.1)
        have HB3 := Lib.hid ((hk3.2 (Array.getElem?_eq_some_iff.1 HB.out).1).trans HB.out)
        clear hk3
        gi_wp2
        go_roundw
        case rel => exact ⟨j, by omega, by go_num, hE3, HB3, Lib.hid hJ3⟩
        case measure => simp [intOf] <;> omega
      · gi_wp2
        refine bodyPost_ret (results_none rfl _ _ _) rfl ?_
        exact ⟨⟨_, rfl⟩, .inr ⟨_, trivial, hJx3⟩⟩
end Go.Proofs.YtomcenfikdmmkaaGreatDoor
