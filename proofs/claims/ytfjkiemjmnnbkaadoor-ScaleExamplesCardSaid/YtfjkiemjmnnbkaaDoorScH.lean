/-
  Walks of package scale: Reads: a range over the iterator.
-/
import Derived.Test.YtfjkiemjmnnbkaaDoorScG
import Derived.Test.YtfjkiemjmnnbkaaDoorBt
namespace Go.Proofs.YtfjkiemjmnnbkaaDoor
open Go.RowKit Go.Shelf Kr

attribute [local go_sem] Oper.semAt_some

theorem block_own {β : Type} (B : Nat) (f : β → Obj) (hf : ∀ s, (f s).isCells = true) : Own (fun s W => W.heap[B]? = some (f s)) := fun s X Y row hs hg hrow => by
  refine (hg.block B (Array.getElem?_eq_some_iff.1 hs).1 (fun e => ?_)).trans hs
  obtain ⟨o, ho, hc⟩ := hrow B e.symm
  rw [hs] at ho; cases ho; rw [hf] at hc; cases hc
theorem block_frozen {W : World} {B i : Nat} {cs : Array Value} {t : TypeId} (h : W.heap[B]? = some (.cells cs t (0, 0))) : W.frozen? ⟨B, i, none⟩ = false := by simp [World.frozen?, h]
/-- A range over an iterator at the wide fence, its one loop variable in a box of its own. -/
theorem wpIn_range_box {α : Type} {P : Program} {n : Nat} {g : Operand} {pv : Tmp} {assign body : Code} {Q : Exit → Act → World → Prop} {a : Act} {w : World}
    (h1 : 1 ≤ n) {gf : Nat} {lb : Array Value} (hg : a.eval g = .func (.func gf) #[] lb) (eg : ∀ args w, (callFunc gf args).run P w = .ok (.enter gf args) w)
    {enc : α → Value} {Kp : World → World → Prop} {S Sp : List α → Prop} {N : Nat} (hseq : SeqStopsK Fence.wide (n - 1) P gf lb (fun x => #[enc x]) Kp S Sp N w)
    (hKt : ∀ {A B C : World}, Kp A B → Kp B C → Kp A C) (hKb : ∀ (W : World) (l : Nat) (o o' : Obj), w.heap.size ≤ l → W.heap[l]? = some o → o.isCells = false → o.isWalk = false → Kp W (W.putObj l o'))
    (I : List α → World → Prop) (Ix : Code → List α → World → Prop) (hI : OwnFrom w.heap.size I) (hIx : ∀ c, OwnFrom w.heap.size (Ix c)) (h0 : I [] w) (bx low : Nat) (t : TypeId) (cs : α → List Value)
    (hassign : ∀ (l : Nat) (pre : List α) (x : α) (W : World) (K : Act → World → Prop), I pre W →
      (∀ Bx W', KeepsFrom w.heap.size W W' → Kp W W' → I pre W' → low < Bx → W'.heap[Bx]? = some (.cells (cs x).toArray t (0, 0)) → K (Act.put { tmps := a.tmps.setIfInBounds pv (enc x), defers := [] } (some bx) (.pointer (some ⟨Bx, 0, none⟩))) W') →
      assign.wpIn (Fence.wide.inRound l) (n - 1 - 1) P (Exit.then K (fun _ _ _ => False)) { tmps := a.tmps.setIfInBounds pv (enc x), defers := [] } W)
    (hbody : ∀ (l : Nat) (pre : List α) (x : α) (Bx : Nat) (W : World), w.heap.size ≤ l → I pre W → low < Bx → W.heap[Bx]? = some (.cells (cs x).toArray t (0, 0)) → pre.length < N →
      body.wpIn (Fence.wide.inRound l) (n - 1 - 1) P (ownPostG w.heap.size Kp I Ix (pre ++ [x]) W) (Act.put { tmps := a.tmps.setIfInBounds pv (enc x), defers := [] } (some bx) (.pointer (some ⟨Bx, 0, none⟩))) W)
    (hdone : ∀ (D : Nat) (xs : List α) (W : World), w.heap.size ≤ D → S xs → I xs W → W.heap[D]? = some (.deferred (some [])) → Q .normal { a with defers := { target := .collected D, args := #[] } :: a.defers } W)
    (hstop : ∀ (D : Nat) (c : Code) (pre : List α) (W : World), w.heap.size ≤ D → Sp pre → Ix c pre W → W.heap[D]? = some (.deferred (some [])) → c.wpIn Fence.wide n P Q { a with defers := { target := .collected D, args := #[] } :: a.defers } W) :
    (Code.rangeFunc g #[pv] assign body).wpIn Fence.wide n P Q a w := by
  have hz : ∀ (x : α) (t : Array Value), ((#[pv] : Array Tmp).zip #[enc x]).foldl (fun t (p, v) => t.setIfInBounds p v) t = t.setIfInBounds pv (enc x) := fun x t => by simp
  refine wpIn_rangeFunc_ownH rfl h1 hg trivial eg hseq hKt hKb (Below.refl _ _) (fun _ => rfl) I Ix hI hIx h0
    (fun x a' W => ∃ Bx, low < Bx ∧ W.heap[Bx]? = some (.cells (cs x).toArray t (0, 0)) ∧ a' = Act.put { tmps := a.tmps.setIfInBounds pv (enc x), defers := [] } (some bx) (.pointer (some ⟨Bx, 0, none⟩)))
    (fun x a' _ X Y row hs hg hr => ?_) (fun l pre x W K hi hK => by rw [hz]; exact hassign l pre x W K hi fun Bx W' h1 h2 h3 h4 h5 => hK _ _ h1 h2 h3 ⟨Bx, h4, h5, rfl⟩) ?_ hdone hstop
  · obtain ⟨Bx, h1, h2, h3⟩ := hs
    refine ⟨Bx, h1, (hg.block Bx (Array.getElem?_eq_some_iff.1 h2).1 (fun e => ?_)).trans h2, h3⟩
    obtain ⟨_, o, ho, hc⟩ := hr Bx e.symm
    rw [h2] at ho; cases ho; cases hc
  · rintro l pre x a' W hl _ hi ⟨Bx, h1, h2, rfl⟩ hlen
    exact hbody l pre x Bx W hl hi h1 h2 hlen

def Obj.upd (i : Nat) (v : Value) : Obj → Obj
  | .cells c e f => .cells (c.setIfInBounds i v) e f
  | ob => ob
theorem heap_set_get (W : World) (B i : Nat) (v : Value) (k : Nat) : (W.setCell ⟨B, i, none⟩ v).heap[k]? = if k = B then (W.heap[k]?).map (Obj.upd i v) else W.heap[k]? := by
  by_cases h : k = B
  · subst h
    rw [if_pos rfl]
    unfold World.setCell
    simp only [Array.getElem?_modify, if_pos]
    cases W.heap[k]? with
    | none => rfl
    | some ob => cases ob <;> rfl
  · rw [if_neg h, World.heap_set_other _ _ _ h]
theorem KeepsOthers.of_exts {W W' : World} (h : W.Exts W') : KeepsOthers W W' := ⟨h.size, fun _ _ hk _ => (h.below.block _ (Array.getElem?_eq_some_iff.1 hk).1).trans hk⟩
/-- The tunes alone; whether there are some. -/
def tvals (l : List TuneB) : List Tune := l.map Subtype.val
def someT (l : List TuneB) : Bool := !l.isEmpty
theorem tvals_snoc (l : List TuneB) (x : TuneB) : tvals (l ++ [x]) = tvals l ++ [x.1] := by simp [tvals]
theorem someT_snoc (l : List TuneB) (x : TuneB) : someT (l ++ [x]) = true := by simp [someT]
theorem someT_false {l : List TuneB} (h : someT l = false) : tvals l = [] := by cases l with | nil => rfl | cons a l => cases h
theorem someT_true {l : List TuneB} (h : someT l = true) : tvals l ≠ [] := by cases l with | nil => cases h | cons a l => simp [tvals]

theorem readsOf_snoc {step weight : Int} {l : List Tune} (h : l ≠ []) (t : Tune) : readsOf step weight (l ++ [t]) = wider step weight (readsOf step weight l) t := by
  cases l with
  | nil => exact absurd rfl h
  | cons x l => simp [readsOf, List.foldl_append]

set_option maxRecDepth 100000 in
set_option maxHeartbeats 4000000 in
theorem scale_Reads_in (s : Scale) (tv : Value) (weight : Int) (w : World) (hrow : IsRow (fun t : Kr.Trial => [.int .i64 t.weight, .int .i64 t.shown]) 2 w tv s.trials) (hr : right s = true) (hw : inAll 0 1000000 [weight] = true) :
    CallsIn Fence.wide 3 Tryd.prog 7 #[.agg #[.int .i64 s.id, .int .i64 s.step, .int .i64 s.gain.lo, .int .i64 s.gain.hi, .int .i64 s.off.lo, .int .i64 s.off.hi, tv], .int .i64 weight] w fun e w' => e = .returned (.tuple #[.agg #[.int .i64 (reads s weight).1.lo, .int .i64 (reads s weight).1.hi], .int .i64 (reads s weight).2]) ∧ w.Exts w' := by
  obtain ⟨p, cap, rfl⟩ := hrow.len
  have HR := Lib.hid hrow
  clear hrow
  have HOK := Lib.hid hr
  clear hr
  have HW := Lib.hid hw
  clear hw
  refine callsIn_of_wp_marks Tryd.func7 rfl trivial ?_ rfl
  simp only [Tryd.ntmps7, List.size_toArray, List.length_cons, List.length_nil, Nat.reduceAdd, Nat.reduceSub, Array.replicate_succ, Array.replicate_zero, List.push_toArray, List.append_toArray, List.nil_append, List.cons_append]
  gi_wp2_with (first
    | (refine ⟨trivial, ?_⟩; gi_at_call 25; refine (callsIn_wide.2 (scale_right_any s _ _ (HR.out.mono exq))).mono ?_; rintro e w' ⟨rfl, X2, rfl⟩; rw [HOK.out])
    | (refine ⟨trivial, ?_⟩; gi_at_call 26; refine (callsIn_wide.2 (scale_in_any _ _ _ [weight] _ (row_int1 _ _ _ (by simp)))).mono ?_; rintro e w' ⟨rfl, X3, rfl⟩; rw [HW.out])
    | (refine ⟨trivial, ?_⟩; gi_at_call 27; refine (callsIn_wide.2 (scale_tunes_any s _ _ (HR.out.mono exq))).mono ?_; rintro e w' ⟨rfl, rfl⟩))
  have hst := (right_bounds HOK.out).2.1
  have hwb : 0 ≤ weight ∧ weight ≤ 1000000 := by have h := HW.out; simp [inAll, inb] at h; omega
  have hEV : w.Exts (World.ext _ X3) := exq
  have k2 : (World.ext _ X3).cell? ⟨w.heap.size, 1, none⟩ = some (.int .i64 s.step) := by simp [go_sem]
  have k3 : (World.ext _ X3).cell? ⟨w.heap.size + 1, 0, none⟩ = some (.int .i64 weight) := by simp [go_sem]
  have k40 : (World.ext _ X3).cell? ⟨w.heap.size + 1 + 1, 0, none⟩ = some (.int .i64 0) := by simp [go_sem]
  have k41 : (World.ext _ X3).cell? ⟨w.heap.size + 1 + 1, 1, none⟩ = some (.int .i64 0) := by simp [go_sem]
  have z40 : (World.ext _ X3).frozen? ⟨w.heap.size + 1 + 1, 0, none⟩ = false := by simp [go_sem]
  have z41 : (World.ext _ X3).frozen? ⟨w.heap.size + 1 + 1, 1, none⟩ = false := by simp [go_sem]
  have hrow3 := HR.out.mono hEV
  generalize World.ext _ X3 = V at *
  refine wpIn_range_box (enc := fun x : TuneB => .agg #[.int .i64 x.1.gain, .int .i64 x.1.off.lo, .int .i64 x.1.off.hi]) (by omega) (gf := 59) (lb := #[.pointer (some ⟨V.heap.size + 1 + 1 + 1, 0, none⟩)]) rfl (enters_of Tryd.func59 (by kernel_rfl) rfl)
    (scale_tunes_1_stops 2 s _ (V.heap.size + 1 + 1 + 1) V _ HOK.out exq (by have h := World.alloc_heap_new (((V.alloc (.cells #[.int .i64 0, .int .i64 0] 25)).alloc (.cells #[.int .i64 0, .int .i64 0] 25)).alloc (.cells #[.bool false] 4)) (.cells #[.int .i64 s.id, .int .i64 s.step, .int .i64 s.gain.lo, .int .i64 s.gain.hi, .int .i64 s.off.lo, .int .i64 s.off.hi, .slice p s.trials.length cap] 34); simpa using h) hrow3)
    (fun h k => h.trans k) (KeepsScale.put (by simp; omega) (by simp))
    (fun pre W => Below V.heap.size V W ∧ W.heap[V.heap.size]? = some (.cells #[.int .i64 0, .int .i64 0] 25 (0, 0)) ∧
      W.heap[V.heap.size + 1]? = some (.cells #[.int .i64 (readsOf s.step weight (tvals pre)).lo, .int .i64 (readsOf s.step weight (tvals pre)).hi] 25 (0, 0)) ∧
      W.heap[V.heap.size + 1 + 1]? = some (.cells #[.bool (someT pre)] 4 (0, 0)) ∧ V.heap.size + 1 + 1 + 1 < W.heap.size)
    (fun _ _ _ => False)
    ?hI (fun _ _ _ _ _ hs _ _ => hs) ?h0 9 (V.heap.size + 1 + 1 + 1) 27 (fun x => [.int .i64 x.1.gain, .int .i64 x.1.off.lo, .int .i64 x.1.off.hi]) ?assign ?body ?done ?stop
  case hI =>
    refine OwnFrom.and (ownFrom_below (Nat.le_refl _) (by simp; omega)) (OwnFrom.and (Own.from (block_own _ (fun _ => .cells #[.int .i64 0, .int .i64 0] 25 (0, 0)) (fun _ => rfl)) _) (OwnFrom.and (Own.from (block_own _ (fun pre : List TuneB => .cells #[.int .i64 (readsOf s.step weight (tvals pre)).lo, .int .i64 (readsOf s.step weight (tvals pre)).hi] 25 (0, 0)) (fun _ => rfl)) _)
      (OwnFrom.and (Own.from (block_own _ (fun pre : List TuneB => .cells #[.bool (someT pre)] 4 (0, 0)) (fun _ => rfl)) _) (fun _ _ _ _ hs hg _ => Nat.lt_of_lt_of_le hs hg.size))))
  case h0 =>
    refine ⟨World.Exts.below exq, ?_, ?_, ?_, by simp⟩
    · rw [Below.heap_alloc _ _ _ (by simp <;> omega), Below.heap_alloc _ _ _ (by simp <;> omega), Below.heap_alloc _ _ _ (by simp <;> omega)]
      exact World.alloc_heap_new V _
    · rw [Below.heap_alloc _ _ _ (by simp <;> omega), Below.heap_alloc _ _ _ (by simp <;> omega)]
      simpa [readsOf, tvals] using World.alloc_heap_new (V.alloc (.cells #[.int .i64 0, .int .i64 0] 25)) (.cells #[.int .i64 0, .int .i64 0] 25)
    · rw [Below.heap_alloc _ _ _ (by simp <;> omega)]
      simpa [someT] using World.alloc_heap_new ((V.alloc (.cells #[.int .i64 0, .int .i64 0] 25)).alloc (.cells #[.int .i64 0, .int .i64 0] 25)) (.cells #[.bool false] 4)
  case assign =>
    rintro l pre x W K ⟨hB, h6, h7, h8, hsz⟩ hK
    gi_wp2
    exact hK W.heap.size _ ((KeepsOthers.alloc _ _).from _) (KeepsScale.of_exts hB.size ((World.Exts.refl W).alloc _)) ⟨hB.alloc hB.size _, (Below.heap_alloc _ _ _ (by omega)).trans h6, (Below.heap_alloc _ _ _ (by omega)).trans h7, (Below.heap_alloc _ _ _ (by omega)).trans h8, by simp; omega⟩ hsz (World.alloc_heap_new W _)
  case body =>
    rintro l pre x Bx W hl ⟨hB, h6, h7, h8, hsz⟩ hBx hbx hlen
    obtain ⟨XW, rfl⟩ : ∃ X : Ext V, W = V.ext X := ⟨⟨W, hB⟩, rfl⟩
    have x0 := cells_block (cs := [.int .i64 x.1.gain, .int .i64 x.1.off.lo, .int .i64 x.1.off.hi]) hbx 0 _ rfl
    have x1 := cells_block (cs := [.int .i64 x.1.gain, .int .i64 x.1.off.lo, .int .i64 x.1.off.hi]) hbx 1 _ rfl
    have x2 := cells_block (cs := [.int .i64 x.1.gain, .int .i64 x.1.off.lo, .int .i64 x.1.off.hi]) hbx 2 _ rfl
    have d60 := cells_block (cs := [.int .i64 0, .int .i64 0]) h6 0 _ rfl
    have d61 := cells_block (cs := [.int .i64 0, .int .i64 0]) h6 1 _ rfl
    have d70 := cells_block (cs := [.int .i64 (readsOf s.step weight (tvals pre)).lo, .int .i64 (readsOf s.step weight (tvals pre)).hi]) h7 0 _ rfl
    have d71 := cells_block (cs := [.int .i64 (readsOf s.step weight (tvals pre)).lo, .int .i64 (readsOf s.step weight (tvals pre)).hi]) h7 1 _ rfl
    have d80 := cells_block (cs := [.bool (someT pre)]) h8 0 _ rfl
    have z70 := block_frozen (i := 0) h7
    have z71 := block_frozen (i := 1) h7
    have z80 := block_frozen (i := 0) h8
    haveI := Lays.of_cell k2
    haveI := Lays.of_cell k3
    haveI := Lays.of_cell x0
    haveI := Lays.of_cell d60
    haveI := Lays.of_cell d70
    haveI := Lays.of_cell d80
    obtain ⟨hg, ho1, ho2⟩ := x.2
    have hm1 : 0 ≤ weight * (1000 + x.1.gain) := Int.mul_nonneg (by omega) (by omega)
    have hm2 : weight * (1000 + x.1.gain) ≤ 1000000 * 1010 := Int.mul_le_mul (by omega) (by omega) (by omega) (by omega)
    have hb1 := readAt_bound hst hwb hg ho1
    have hb2 := readAt_bound hst hwb hg ho2
    have hr1 : readT s.step weight x.1 = ⟨readAt s.step weight x.1.gain x.1.off.lo, readAt s.step weight x.1.gain x.1.off.hi⟩ := rfl
    unfold readAt at hb1 hb2 hr1
    rw [Int.ediv_ediv_of_nonneg (by omega)] at hb1 hb2
    rw [Int.ediv_ediv_of_nonneg (by omega), Int.ediv_ediv_of_nonneg (by omega)] at hr1
    generalize hql : (weight * (1000 + x.1.gain) + 1000 * x.1.off.lo) / (1000 * s.step) = ql at hb1 hr1
    generalize hqh : (weight * (1000 + x.1.gain) + 1000 * x.1.off.hi) / (1000 * s.step) = qh at hb2 hr1
    have H6 := Lib.hid h6
    clear h6
    have H7 := Lib.hid h7
    clear h7
    have H8 := Lib.hid h8
    clear h8
    dsimp only [Act.put]
    gi_wp2
    refine wpIn_region_alloc_round 28 27 _ (.cells #[.int .i64 0, .int .i64 0] 25) (by kernel_rfl) (fun pp => by kernel_rfl) (by kernel_rfl) rfl rfl rfl (by decide) (by kernel_rfl) (fun a W => by kernel_rfl) ?_
    apply Exists.intro
    refine ⟨fun pp hpp T hT L hL => ?_, fun pp => ?_, fun pp Wp hpp hEp hop => ?_⟩
    · haveI := hT.2
      simp only [mvOp, List.set_cons_succ, List.set_cons_zero, List.take_succ_cons, List.take_zero]
      repeat (go_big_quiet_step ((go_at_call 28; first | exact Calls.in_extT_eq hT (scale_down_any _ _ _ ⟨by omega, by omega⟩ (by omega)) (congrArg (Value.int .i64) hql) | exact Calls.in_extT_eq hT (scale_down_any _ _ _ ⟨by omega, by omega⟩ (by omega)) (congrArg (Value.int .i64) hqh))))
      exact wpQuiet_nil hL
    · rfl
    · simp only [List.drop_succ_cons, List.drop_zero]
      have hsz2 : (World.ext _ XW).heap.size ≤ pp := hpp
      obtain ⟨X5, rfl⟩ := hEp
      have p0 := cells_block (cs := [.int .i64 0, .int .i64 0]) hop 0 _ rfl
      have p1 := cells_block (cs := [.int .i64 0, .int .i64 0]) hop 1 _ rfl
      have q0 := block_frozen (i := 0) hop
      have q1 := block_frozen (i := 1) hop
      haveI := Lays.of_cell p0
      haveI : Differ pp (V.heap.size) := ⟨by omega⟩
      haveI : Differ pp (V.heap.size + 1) := ⟨by omega⟩
      haveI : Differ pp (V.heap.size + 1 + 1) := ⟨by omega⟩
      haveI : Differ (V.heap.size + 1) pp := ⟨by omega⟩
      haveI : Differ (V.heap.size + 1 + 1) pp := ⟨by omega⟩
      haveI : Differ (V.heap.size + 1) V.heap.size := ⟨by omega⟩
      haveI : Differ (V.heap.size + 1 + 1) V.heap.size := ⟨by omega⟩
      haveI : Differ (V.heap.size + 1) (V.heap.size + 1 + 1) := ⟨by omega⟩
      haveI : Differ (V.heap.size + 1 + 1) (V.heap.size + 1) := ⟨by omega⟩
      have hE5 : (World.ext _ XW).Exts (World.ext _ X5) := ⟨X5, rfl⟩
      have b6 := (hE5.below.block _ (Array.getElem?_eq_some_iff.1 H6.out).1).trans H6.out
      have b7 := (hE5.below.block _ (Array.getElem?_eq_some_iff.1 H7.out).1).trans H7.out
      have b8 := (hE5.below.block _ (Array.getElem?_eq_some_iff.1 H8.out).1).trans H8.out
      have hBX5 : Below V.heap.size (World.ext _ XW) (World.ext _ X5) := hE5.below.mono hB.size
      have hBV5 : Below V.heap.size V (World.ext _ X5) := hB.trans hBX5
      have hs5 := hE5.size
      have B6 := Lib.hid b6
      clear b6
      have B7 := Lib.hid b7
      clear b7
      have B8 := Lib.hid b8
      clear b8
      have HBX5 := Lib.hid hBX5
      clear hBX5
      have HBV5 := Lib.hid hBV5
      clear hBV5
      clear hpp
      go_wp2_with fail
      refine ⟨rfl, ?_⟩
      cases hsm : someT pre
      · have hnil := someT_false hsm
        have hsn : readsOf s.step weight (tvals (pre ++ [x])) = ⟨ql * s.step, qh * s.step⟩ := by rw [tvals_snoc, hnil]; exact hr1
        have hso := someT_snoc pre x
        rw [hnil] at d70 d71
        simp only [readsOf] at d70 d71
        rw [hsm] at d80
        gi_wp2
        refine ⟨KeepsOthers.from ?_ _, ⟨?_, fun hlt9 => ?_⟩, ?_, ?_, ?_, ?_, ?_⟩
        · repeat (with_reducible refine KeepsOthers.trans ?_ (KeepsOthers.setCell _ _ _))
          exact KeepsOthers.of_exts hE5
        · repeat (with_reducible refine Below.setCell ?_ (by dsimp only; omega) _)
          exact HBX5.out
        · simp only [heap_set_get]
          repeat (rw [if_neg (by omega)])
          exact hE5.below.block _ hlt9
        · repeat (with_reducible refine Below.setCell ?_ (by dsimp only; omega) _)
          exact HBV5.out
        · simp only [heap_set_get]
          repeat (rw [if_neg (by omega)])
          exact B6.out
        · have n1 : ¬ V.heap.size + 1 = pp := by omega
          have n2 : ¬ V.heap.size + 1 = V.heap.size + 1 + 1 := by omega
          simp only [heap_set_get, if_neg n1, if_neg n2, if_true, B7.out, Option.map_some, Obj.upd, hsn]
          simp <;> omega
        · have n1 : ¬ V.heap.size + 1 + 1 = pp := by omega
          have n2 : ¬ V.heap.size + 1 + 1 = V.heap.size + 1 := by omega
          simp only [heap_set_get, if_neg n1, if_neg n2, if_true, B8.out, Option.map_some, Obj.upd, hso]
          rfl
        · simp only [World.size_setCell]; omega
      · have hsn := readsOf_snoc (step := s.step) (weight := weight) (someT_true hsm) x.1
        rw [← tvals_snoc] at hsn
        unfold wider at hsn
        rw [hr1] at hsn
        have hso := someT_snoc pre x
        rw [hsm] at d80
        generalize hro : readsOf s.step weight (tvals pre) = ro at d70 d71 hsn
        by_cases z1 : ro.lo = 0 <;> by_cases z2 : ro.hi = 0
        · rcases Int.lt_or_le (ql * s.step) ro.lo with m1 | m1 <;> rcases Int.lt_or_le ro.hi (qh * s.step) with m2 | m2
          · gi_wp2
            refine ⟨KeepsOthers.from ?_ _, ⟨?_, fun hlt9 => ?_⟩, ?_, ?_, ?_, ?_, ?_⟩
            · repeat (with_reducible refine KeepsOthers.trans ?_ (KeepsOthers.setCell _ _ _))
              exact KeepsOthers.of_exts hE5
            · repeat (with_reducible refine Below.setCell ?_ (by dsimp only; omega) _)
              exact HBX5.out
            · simp only [heap_set_get]
              repeat (rw [if_neg (by omega)])
              exact hE5.below.block _ hlt9
            · repeat (with_reducible refine Below.setCell ?_ (by dsimp only; omega) _)
              exact HBV5.out
            · simp only [heap_set_get]
              repeat (rw [if_neg (by omega)])
              exact B6.out
            · have n1 : ¬ V.heap.size + 1 = pp := by omega
              have n2 : ¬ V.heap.size + 1 = V.heap.size + 1 + 1 := by omega
              simp only [heap_set_get, if_neg n1, if_neg n2, if_true, B7.out, Option.map_some, Obj.upd, hsn]
              simp <;> omega
            · have n1 : ¬ V.heap.size + 1 + 1 = pp := by omega
              have n2 : ¬ V.heap.size + 1 + 1 = V.heap.size + 1 := by omega
              simp only [heap_set_get, if_neg n1, if_neg n2, if_true, B8.out, Option.map_some, Obj.upd, hso]
              rfl
            · simp only [World.size_setCell]; omega
          · gi_wp2
            refine ⟨KeepsOthers.from ?_ _, ⟨?_, fun hlt9 => ?_⟩, ?_, ?_, ?_, ?_, ?_⟩
            · repeat (with_reducible refine KeepsOthers.trans ?_ (KeepsOthers.setCell _ _ _))
              exact KeepsOthers.of_exts hE5
            · repeat (with_reducible refine Below.setCell ?_ (by dsimp only; omega) _)
              exact HBX5.out
            · simp only [heap_set_get]
              repeat (rw [if_neg (by omega)])
              exact hE5.below.block _ hlt9
            · repeat (with_reducible refine Below.setCell ?_ (by dsimp only; omega) _)
              exact HBV5.out
            · simp only [heap_set_get]
              repeat (rw [if_neg (by omega)])
              exact B6.out
            · have n1 : ¬ V.heap.size + 1 = pp := by omega
              have n2 : ¬ V.heap.size + 1 = V.heap.size + 1 + 1 := by omega
              simp only [heap_set_get, if_neg n1, if_neg n2, if_true, B7.out, Option.map_some, Obj.upd, hsn]
              simp <;> omega
            · have n1 : ¬ V.heap.size + 1 + 1 = pp := by omega
              have n2 : ¬ V.heap.size + 1 + 1 = V.heap.size + 1 := by omega
              simp only [heap_set_get, if_neg n1, if_neg n2, if_true, B8.out, Option.map_some, Obj.upd, hso]
              rfl
            · simp only [World.size_setCell]; omega
          · gi_wp2
            refine ⟨KeepsOthers.from ?_ _, ⟨?_, fun hlt9 => ?_⟩, ?_, ?_, ?_, ?_, ?_⟩
            · repeat (with_reducible refine KeepsOthers.trans ?_ (KeepsOthers.setCell _ _ _))
              exact KeepsOthers.of_exts hE5
            · repeat (with_reducible refine Below.setCell ?_ (by dsimp only; omega) _)
              exact HBX5.out
            · simp only [heap_set_get]
              repeat (rw [if_neg (by omega)])
              exact hE5.below.block _ hlt9
            · repeat (with_reducible refine Below.setCell ?_ (by dsimp only; omega) _)
              exact HBV5.out
            · simp only [heap_set_get]
              repeat (rw [if_neg (by omega)])
              exact B6.out
            · have n1 : ¬ V.heap.size + 1 = pp := by omega
              have n2 : ¬ V.heap.size + 1 = V.heap.size + 1 + 1 := by omega
              simp only [heap_set_get, if_neg n1, if_neg n2, if_true, B7.out, Option.map_some, Obj.upd, hsn]
              simp <;> omega
            · have n1 : ¬ V.heap.size + 1 + 1 = pp := by omega
              have n2 : ¬ V.heap.size + 1 + 1 = V.heap.size + 1 := by omega
              simp only [heap_set_get, if_neg n1, if_neg n2, if_true, B8.out, Option.map_some, Obj.upd, hso]
              rfl
            · simp only [World.size_setCell]; omega
          · gi_wp2
            refine ⟨KeepsOthers.from ?_ _, ⟨?_, fun hlt9 => ?_⟩, ?_, ?_, ?_, ?_, ?_⟩
            · repeat (with_reducible refine KeepsOthers.trans ?_ (KeepsOthers.setCell _ _ _))
              exact KeepsOthers.of_exts hE5
            · repeat (with_reducible refine Below.setCell ?_ (by dsimp only; omega) _)
              exact HBX5.out
            · simp only [heap_set_get]
              repeat (rw [if_neg (by omega)])
              exact hE5.below.block _ hlt9
            · repeat (with_reducible refine Below.setCell ?_ (by dsimp only; omega) _)
              exact HBV5.out
            · simp only [heap_set_get]
              repeat (rw [if_neg (by omega)])
              exact B6.out
            · have n1 : ¬ V.heap.size + 1 = pp := by omega
              have n2 : ¬ V.heap.size + 1 = V.heap.size + 1 + 1 := by omega
              simp only [heap_set_get, if_neg n1, if_neg n2, if_true, B7.out, Option.map_some, Obj.upd, hsn]
              simp <;> omega
            · have n1 : ¬ V.heap.size + 1 + 1 = pp := by omega
              have n2 : ¬ V.heap.size + 1 + 1 = V.heap.size + 1 := by omega
              simp only [heap_set_get, if_neg n1, if_neg n2, if_true, B8.out, Option.map_some, Obj.upd, hso]
              rfl
            · simp only [World.size_setCell]; omega
        · rcases Int.lt_or_le (ql * s.step) ro.lo with m1 | m1 <;> rcases Int.lt_or_le ro.hi (qh * s.step) with m2 | m2
          · gi_wp2
            refine ⟨KeepsOthers.from ?_ _, ⟨?_, fun hlt9 => ?_⟩, ?_, ?_, ?_, ?_, ?_⟩
            · repeat (with_reducible refine KeepsOthers.trans ?_ (KeepsOthers.setCell _ _ _))
              exact KeepsOthers.of_exts hE5
            · repeat (with_reducible refine Below.setCell ?_ (by dsimp only; omega) _)
              exact HBX5.out
            · simp only [heap_set_get]
              repeat (rw [if_neg (by omega)])
              exact hE5.below.block _ hlt9
            · repeat (with_reducible refine Below.setCell ?_ (by dsimp only; omega) _)
              exact HBV5.out
            · simp only [heap_set_get]
              repeat (rw [if_neg (by omega)])
              exact B6.out
            · have n1 : ¬ V.heap.size + 1 = pp := by omega
              have n2 : ¬ V.heap.size + 1 = V.heap.size + 1 + 1 := by omega
              simp only [heap_set_get, if_neg n1, if_neg n2, if_true, B7.out, Option.map_some, Obj.upd, hsn]
              simp <;> omega
            · have n1 : ¬ V.heap.size + 1 + 1 = pp := by omega
              have n2 : ¬ V.heap.size + 1 + 1 = V.heap.size + 1 := by omega
              simp only [heap_set_get, if_neg n1, if_neg n2, if_true, B8.out, Option.map_some, Obj.upd, hso]
              rfl
            · simp only [World.size_setCell]; omega
          · gi_wp2
            refine ⟨KeepsOthers.from ?_ _, ⟨?_, fun hlt9 => ?_⟩, ?_, ?_, ?_, ?_, ?_⟩
            · repeat (with_reducible refine KeepsOthers.trans ?_ (KeepsOthers.setCell _ _ _))
              exact KeepsOthers.of_exts hE5
            · repeat (with_reducible refine Below.setCell ?_ (by dsimp only; omega) _)
              exact HBX5.out
            · simp only [heap_set_get]
              repeat (rw [if_neg (by omega)])
              exact hE5.below.block _ hlt9
            · repeat (with_reducible refine Below.setCell ?_ (by dsimp only; omega) _)
              exact HBV5.out
            · simp only [heap_set_get]
              repeat (rw [if_neg (by omega)])
              exact B6.out
            · have n1 : ¬ V.heap.size + 1 = pp := by omega
              have n2 : ¬ V.heap.size + 1 = V.heap.size + 1 + 1 := by omega
              simp only [heap_set_get, if_neg n1, if_neg n2, if_true, B7.out, Option.map_some, Obj.upd, hsn]
              simp <;> omega
            · have n1 : ¬ V.heap.size + 1 + 1 = pp := by omega
              have n2 : ¬ V.heap.size + 1 + 1 = V.heap.size + 1 := by omega
              simp only [heap_set_get, if_neg n1, if_neg n2, if_true, B8.out, Option.map_some, Obj.upd, hso]
              rfl
            · simp only [World.size_setCell]; omega
          · gi_wp2
            refine ⟨KeepsOthers.from ?_ _, ⟨?_, fun hlt9 => ?_⟩, ?_, ?_, ?_, ?_, ?_⟩
            · repeat (with_reducible refine KeepsOthers.trans ?_ (KeepsOthers.setCell _ _ _))
              exact KeepsOthers.of_exts hE5
            · repeat (with_reducible refine Below.setCell ?_ (by dsimp only; omega) _)
              exact HBX5.out
            · simp only [heap_set_get]
              repeat (rw [if_neg (by omega)])
              exact hE5.below.block _ hlt9
            · repeat (with_reducible refine Below.setCell ?_ (by dsimp only; omega) _)
              exact HBV5.out
            · simp only [heap_set_get]
              repeat (rw [if_neg (by omega)])
              exact B6.out
            · have n1 : ¬ V.heap.size + 1 = pp := by omega
              have n2 : ¬ V.heap.size + 1 = V.heap.size + 1 + 1 := by omega
              simp only [heap_set_get, if_neg n1, if_neg n2, if_true, B7.out, Option.map_some, Obj.upd, hsn]
              simp <;> omega
            · have n1 : ¬ V.heap.size + 1 + 1 = pp := by omega
              have n2 : ¬ V.heap.size + 1 + 1 = V.heap.size + 1 := by omega
              simp only [heap_set_get, if_neg n1, if_neg n2, if_true, B8.out, Option.map_some, Obj.upd, hso]
              rfl
            · simp only [World.size_setCell]; omega
          · gi_wp2
            refine ⟨KeepsOthers.from ?_ _, ⟨?_, fun hlt9 => ?_⟩, ?_, ?_, ?_, ?_, ?_⟩
            · repeat (with_reducible refine KeepsOthers.trans ?_ (KeepsOthers.setCell _ _ _))
              exact KeepsOthers.of_exts hE5
            · repeat (with_reducible refine Below.setCell ?_ (by dsimp only; omega) _)
              exact HBX5.out
            · simp only [heap_set_get]
              repeat (rw [if_neg (by omega)])
              exact hE5.below.block _ hlt9
            · repeat (with_reducible refine Below.setCell ?_ (by dsimp only; omega) _)
              exact HBV5.out
            · simp only [heap_set_get]
              repeat (rw [if_neg (by omega)])
              exact B6.out
            · have n1 : ¬ V.heap.size + 1 = pp := by omega
              have n2 : ¬ V.heap.size + 1 = V.heap.size + 1 + 1 := by omega
              simp only [heap_set_get, if_neg n1, if_neg n2, if_true, B7.out, Option.map_some, Obj.upd, hsn]
              simp <;> omega
            · have n1 : ¬ V.heap.size + 1 + 1 = pp := by omega
              have n2 : ¬ V.heap.size + 1 + 1 = V.heap.size + 1 := by omega
              simp only [heap_set_get, if_neg n1, if_neg n2, if_true, B8.out, Option.map_some, Obj.upd, hso]
              rfl
            · simp only [World.size_setCell]; omega
        · rcases Int.lt_or_le (ql * s.step) ro.lo with m1 | m1 <;> rcases Int.lt_or_le ro.hi (qh * s.step) with m2 | m2
          · gi_wp2
            refine ⟨KeepsOthers.from ?_ _, ⟨?_, fun hlt9 => ?_⟩, ?_, ?_, ?_, ?_, ?_⟩
            · repeat (with_reducible refine KeepsOthers.trans ?_ (KeepsOthers.setCell _ _ _))
              exact KeepsOthers.of_exts hE5
            · repeat (with_reducible refine Below.setCell ?_ (by dsimp only; omega) _)
              exact HBX5.out
            · simp only [heap_set_get]
              repeat (rw [if_neg (by omega)])
              exact hE5.below.block _ hlt9
            · repeat (with_reducible refine Below.setCell ?_ (by dsimp only; omega) _)
              exact HBV5.out
            · simp only [heap_set_get]
              repeat (rw [if_neg (by omega)])
              exact B6.out
            · have n1 : ¬ V.heap.size + 1 = pp := by omega
              have n2 : ¬ V.heap.size + 1 = V.heap.size + 1 + 1 := by omega
              simp only [heap_set_get, if_neg n1, if_neg n2, if_true, B7.out, Option.map_some, Obj.upd, hsn]
              simp <;> omega
            · have n1 : ¬ V.heap.size + 1 + 1 = pp := by omega
              have n2 : ¬ V.heap.size + 1 + 1 = V.heap.size + 1 := by omega
              simp only [heap_set_get, if_neg n1, if_neg n2, if_true, B8.out, Option.map_some, Obj.upd, hso]
              rfl
            · simp only [World.size_setCell]; omega
          · gi_wp2
            refine ⟨KeepsOthers.from ?_ _, ⟨?_, fun hlt9 => ?_⟩, ?_, ?_, ?_, ?_, ?_⟩
            · repeat (with_reducible refine KeepsOthers.trans ?_ (KeepsOthers.setCell _ _ _))
              exact KeepsOthers.of_exts hE5
            · repeat (with_reducible refine Below.setCell ?_ (by dsimp only; omega) _)
              exact HBX5.out
            · simp only [heap_set_get]
              repeat (rw [if_neg (by omega)])
              exact hE5.below.block _ hlt9
            · repeat (with_reducible refine Below.setCell ?_ (by dsimp only; omega) _)
              exact HBV5.out
            · simp only [heap_set_get]
              repeat (rw [if_neg (by omega)])
              exact B6.out
            · have n1 : ¬ V.heap.size + 1 = pp := by omega
              have n2 : ¬ V.heap.size + 1 = V.heap.size + 1 + 1 := by omega
              simp only [heap_set_get, if_neg n1, if_neg n2, if_true, B7.out, Option.map_some, Obj.upd, hsn]
              simp <;> omega
            · have n1 : ¬ V.heap.size + 1 + 1 = pp := by omega
              have n2 : ¬ V.heap.size + 1 + 1 = V.heap.size + 1 := by omega
              simp only [heap_set_get, if_neg n1, if_neg n2, if_true, B8.out, Option.map_some, Obj.upd, hso]
              rfl
            · simp only [World.size_setCell]; omega
          · gi_wp2
            refine ⟨KeepsOthers.from ?_ _, ⟨?_, fun hlt9 => ?_⟩, ?_, ?_, ?_, ?_, ?_⟩
            · repeat (with_reducible refine KeepsOthers.trans ?_ (KeepsOthers.setCell _ _ _))
              exact KeepsOthers.of_exts hE5
            · repeat (with_reducible refine Below.setCell ?_ (by dsimp only; omega) _)
              exact HBX5.out
            · simp only [heap_set_get]
              repeat (rw [if_neg (by omega)])
              exact hE5.below.block _ hlt9
            · repeat (with_reducible refine Below.setCell ?_ (by dsimp only; omega) _)
              exact HBV5.out
            · simp only [heap_set_get]
              repeat (rw [if_neg (by omega)])
              exact B6.out
            · have n1 : ¬ V.heap.size + 1 = pp := by omega
              have n2 : ¬ V.heap.size + 1 = V.heap.size + 1 + 1 := by omega
              simp only [heap_set_get, if_neg n1, if_neg n2, if_true, B7.out, Option.map_some, Obj.upd, hsn]
              simp <;> omega
            · have n1 : ¬ V.heap.size + 1 + 1 = pp := by omega
              have n2 : ¬ V.heap.size + 1 + 1 = V.heap.size + 1 := by omega
              simp only [heap_set_get, if_neg n1, if_neg n2, if_true, B8.out, Option.map_some, Obj.upd, hso]
              rfl
            · simp only [World.size_setCell]; omega
          · gi_wp2
            refine ⟨KeepsOthers.from ?_ _, ⟨?_, fun hlt9 => ?_⟩, ?_, ?_, ?_, ?_, ?_⟩
            · repeat (with_reducible refine KeepsOthers.trans ?_ (KeepsOthers.setCell _ _ _))
              exact KeepsOthers.of_exts hE5
            · repeat (with_reducible refine Below.setCell ?_ (by dsimp only; omega) _)
              exact HBX5.out
            · simp only [heap_set_get]
              repeat (rw [if_neg (by omega)])
              exact hE5.below.block _ hlt9
            · repeat (with_reducible refine Below.setCell ?_ (by dsimp only; omega) _)
              exact HBV5.out
            · simp only [heap_set_get]
              repeat (rw [if_neg (by omega)])
              exact B6.out
            · have n1 : ¬ V.heap.size + 1 = pp := by omega
              have n2 : ¬ V.heap.size + 1 = V.heap.size + 1 + 1 := by omega
              simp only [heap_set_get, if_neg n1, if_neg n2, if_true, B7.out, Option.map_some, Obj.upd, hsn]
              simp <;> omega
            · have n1 : ¬ V.heap.size + 1 + 1 = pp := by omega
              have n2 : ¬ V.heap.size + 1 + 1 = V.heap.size + 1 := by omega
              simp only [heap_set_get, if_neg n1, if_neg n2, if_true, B8.out, Option.map_some, Obj.upd, hso]
              rfl
            · simp only [World.size_setCell]; omega
        · rcases Int.lt_or_le (ql * s.step) ro.lo with m1 | m1 <;> rcases Int.lt_or_le ro.hi (qh * s.step) with m2 | m2
          · gi_wp2
            refine ⟨KeepsOthers.from ?_ _, ⟨?_, fun hlt9 => ?_⟩, ?_, ?_, ?_, ?_, ?_⟩
            · repeat (with_reducible refine KeepsOthers.trans ?_ (KeepsOthers.setCell _ _ _))
              exact KeepsOthers.of_exts hE5
            · repeat (with_reducible refine Below.setCell ?_ (by dsimp only; omega) _)
              exact HBX5.out
            · simp only [heap_set_get]
              repeat (rw [if_neg (by omega)])
              exact hE5.below.block _ hlt9
            · repeat (with_reducible refine Below.setCell ?_ (by dsimp only; omega) _)
              exact HBV5.out
            · simp only [heap_set_get]
              repeat (rw [if_neg (by omega)])
              exact B6.out
            · have n1 : ¬ V.heap.size + 1 = pp := by omega
              have n2 : ¬ V.heap.size + 1 = V.heap.size + 1 + 1 := by omega
              simp only [heap_set_get, if_neg n1, if_neg n2, if_true, B7.out, Option.map_some, Obj.upd, hsn]
              simp <;> omega
            · have n1 : ¬ V.heap.size + 1 + 1 = pp := by omega
              have n2 : ¬ V.heap.size + 1 + 1 = V.heap.size + 1 := by omega
              simp only [heap_set_get, if_neg n1, if_neg n2, if_true, B8.out, Option.map_some, Obj.upd, hso]
              rfl
            · simp only [World.size_setCell]; omega
          · gi_wp2
            refine ⟨KeepsOthers.from ?_ _, ⟨?_, fun hlt9 => ?_⟩, ?_, ?_, ?_, ?_, ?_⟩
            · repeat (with_reducible refine KeepsOthers.trans ?_ (KeepsOthers.setCell _ _ _))
              exact KeepsOthers.of_exts hE5
            · repeat (with_reducible refine Below.setCell ?_ (by dsimp only; omega) _)
              exact HBX5.out
            · simp only [heap_set_get]
              repeat (rw [if_neg (by omega)])
              exact hE5.below.block _ hlt9
            · repeat (with_reducible refine Below.setCell ?_ (by dsimp only; omega) _)
              exact HBV5.out
            · simp only [heap_set_get]
              repeat (rw [if_neg (by omega)])
              exact B6.out
            · have n1 : ¬ V.heap.size + 1 = pp := by omega
              have n2 : ¬ V.heap.size + 1 = V.heap.size + 1 + 1 := by omega
              simp only [heap_set_get, if_neg n1, if_neg n2, if_true, B7.out, Option.map_some, Obj.upd, hsn]
              simp <;> omega
            · have n1 : ¬ V.heap.size + 1 + 1 = pp := by omega
              have n2 : ¬ V.heap.size + 1 + 1 = V.heap.size + 1 := by omega
              simp only [heap_set_get, if_neg n1, if_neg n2, if_true, B8.out, Option.map_some, Obj.upd, hso]
              rfl
            · simp only [World.size_setCell]; omega
          · gi_wp2
            refine ⟨KeepsOthers.from ?_ _, ⟨?_, fun hlt9 => ?_⟩, ?_, ?_, ?_, ?_, ?_⟩
            · repeat (with_reducible refine KeepsOthers.trans ?_ (KeepsOthers.setCell _ _ _))
              exact KeepsOthers.of_exts hE5
            · repeat (with_reducible refine Below.setCell ?_ (by dsimp only; omega) _)
              exact HBX5.out
            · simp only [heap_set_get]
              repeat (rw [if_neg (by omega)])
              exact hE5.below.block _ hlt9
            · repeat (with_reducible refine Below.setCell ?_ (by dsimp only; omega) _)
              exact HBV5.out
            · simp only [heap_set_get]
              repeat (rw [if_neg (by omega)])
              exact B6.out
            · have n1 : ¬ V.heap.size + 1 = pp := by omega
              have n2 : ¬ V.heap.size + 1 = V.heap.size + 1 + 1 := by omega
              simp only [heap_set_get, if_neg n1, if_neg n2, if_true, B7.out, Option.map_some, Obj.upd, hsn]
              simp <;> omega
            · have n1 : ¬ V.heap.size + 1 + 1 = pp := by omega
              have n2 : ¬ V.heap.size + 1 + 1 = V.heap.size + 1 := by omega
              simp only [heap_set_get, if_neg n1, if_neg n2, if_true, B8.out, Option.map_some, Obj.upd, hso]
              rfl
            · simp only [World.size_setCell]; omega
          · gi_wp2
            refine ⟨KeepsOthers.from ?_ _, ⟨?_, fun hlt9 => ?_⟩, ?_, ?_, ?_, ?_, ?_⟩
            · repeat (with_reducible refine KeepsOthers.trans ?_ (KeepsOthers.setCell _ _ _))
              exact KeepsOthers.of_exts hE5
            · repeat (with_reducible refine Below.setCell ?_ (by dsimp only; omega) _)
              exact HBX5.out
            · simp only [heap_set_get]
              repeat (rw [if_neg (by omega)])
              exact hE5.below.block _ hlt9
            · repeat (with_reducible refine Below.setCell ?_ (by dsimp only; omega) _)
              exact HBV5.out
            · simp only [heap_set_get]
              repeat (rw [if_neg (by omega)])
              exact B6.out
            · have n1 : ¬ V.heap.size + 1 = pp := by omega
              have n2 : ¬ V.heap.size + 1 = V.heap.size + 1 + 1 := by omega
              simp only [heap_set_get, if_neg n1, if_neg n2, if_true, B7.out, Option.map_some, Obj.upd, hsn]
              simp <;> omega
            · have n1 : ¬ V.heap.size + 1 + 1 = pp := by omega
              have n2 : ¬ V.heap.size + 1 + 1 = V.heap.size + 1 := by omega
              simp only [heap_set_get, if_neg n1, if_neg n2, if_true, B8.out, Option.map_some, Obj.upd, hso]
              rfl
            · simp only [World.size_setCell]; omega
  case done =>
    rintro D ys W hD hS ⟨hB, h6, h7, h8, hsz⟩ hK
    have hS2 : tvals ys = tunes s := hS
    obtain ⟨XW, rfl⟩ : ∃ X : Ext V, W = V.ext X := ⟨⟨W, hB⟩, rfl⟩
    have d60 := cells_block (cs := [.int .i64 0, .int .i64 0]) h6 0 _ rfl
    have d61 := cells_block (cs := [.int .i64 0, .int .i64 0]) h6 1 _ rfl
    have d70 := cells_block (cs := [.int .i64 (readsOf s.step weight (tvals ys)).lo, .int .i64 (readsOf s.step weight (tvals ys)).hi]) h7 0 _ rfl
    have d71 := cells_block (cs := [.int .i64 (readsOf s.step weight (tvals ys)).lo, .int .i64 (readsOf s.step weight (tvals ys)).hi]) h7 1 _ rfl
    have d80 := cells_block (cs := [.bool (someT ys)]) h8 0 _ rfl
    haveI := Lays.of_cell k40
    haveI := Lays.of_cell d60
    haveI := Lays.of_cell d70
    haveI := Lays.of_cell d80
    have hin : inb 0 1000000 weight = true := by have h := HW.out; simpa [inAll] using h
    rw [hS2] at d70 d71
    cases hsm : someT ys
    · have hnil := someT_false hsm
      rw [hS2] at hnil
      rw [hsm] at d80
      have hfin : reads s weight = (⟨0, 0⟩, 6) := by unfold reads; rw [HOK.out, hin, hnil]; rfl
      have HFIN := Lib.hid hfin
      clear hfin
      gi_wp2
      have hKD := ((KeepsOthers.setCell (World.ext _ XW) ⟨w.heap.size + 1 + 1, 0, none⟩ (.int .i64 0)).trans (KeepsOthers.setCell _ ⟨w.heap.size + 1 + 1, 1, none⟩ (.int .i64 0))).same D _ hK rfl
      refine ⟨by simp, .inl ⟨_, _, rfl, run_takeDeferred hKD, ?_⟩⟩
      have e0 : (((World.ext _ XW).setCell ⟨w.heap.size + 1 + 1, 0, none⟩ (.int .i64 0)).setCell ⟨w.heap.size + 1 + 1, 1, none⟩ (.int .i64 0)).cell? ⟨w.heap.size + 1 + 1, 0, none⟩ = some (.int .i64 0) := by simp [go_sem, k40]
      have e1 : (((World.ext _ XW).setCell ⟨w.heap.size + 1 + 1, 0, none⟩ (.int .i64 0)).setCell ⟨w.heap.size + 1 + 1, 1, none⟩ (.int .i64 0)).cell? ⟨w.heap.size + 1 + 1, 1, none⟩ = some (.int .i64 0) := by simp [go_sem, k41]
      have e2 := cell_kept e0 (grownBy_putObj' _ D (.deferred none)) (fun r e => by cases e; exact ⟨_, hKD, rfl⟩)
      have e3 := cell_kept e1 (grownBy_putObj' _ D (.deferred none)) (fun r e => by cases e; exact ⟨_, hKD, rfl⟩)
      have hE9 : w.Exts (((World.ext _ XW).setCell ⟨w.heap.size + 1 + 1, 0, none⟩ (.int .i64 0)).setCell ⟨w.heap.size + 1 + 1, 1, none⟩ (.int .i64 0)) := World.Exts.setCell (World.Exts.setCell (hEV.trans ⟨XW, rfl⟩) (by dsimp only; omega) _) (by dsimp only; omega) _
      have hsV := hEV.size
      have hDw : w.heap.size ≤ D := by simp at hD; omega
      refine ⟨.tuple #[.agg #[.int .i64 0, .int .i64 0], .int .i64 6], ?_, by rw [HFIN.out], .of (hE9.below.trans (belowK_b (w := w) (Nat.le_refl _) _ D _ _ hDw hKD rfl rfl))⟩
      simp [results, Tryd.results7, go_sem, e2, e3]
    · have hne := someT_true hsm
      rw [hS2] at hne
      rw [hsm] at d80
      have hfin : reads s weight = (readsOf s.step weight (tunes s), 0) := by unfold reads; rw [HOK.out, hin, if_pos rfl, if_pos rfl, if_neg hne]
      have HFIN := Lib.hid hfin
      clear hfin
      gi_wp2
      have hKD := ((KeepsOthers.setCell (World.ext _ XW) ⟨w.heap.size + 1 + 1, 0, none⟩ (.int .i64 (readsOf s.step weight (tunes s)).lo)).trans (KeepsOthers.setCell _ ⟨w.heap.size + 1 + 1, 1, none⟩ (.int .i64 (readsOf s.step weight (tunes s)).hi))).same D _ hK rfl
      refine ⟨by simp, .inl ⟨_, _, rfl, run_takeDeferred hKD, ?_⟩⟩
      have e0 : (((World.ext _ XW).setCell ⟨w.heap.size + 1 + 1, 0, none⟩ (.int .i64 (readsOf s.step weight (tunes s)).lo)).setCell ⟨w.heap.size + 1 + 1, 1, none⟩ (.int .i64 (readsOf s.step weight (tunes s)).hi)).cell? ⟨w.heap.size + 1 + 1, 0, none⟩ = some (.int .i64 (readsOf s.step weight (tunes s)).lo) := by simp [go_sem, k40]
      have e1 : (((World.ext _ XW).setCell ⟨w.heap.size + 1 + 1, 0, none⟩ (.int .i64 (readsOf s.step weight (tunes s)).lo)).setCell ⟨w.heap.size + 1 + 1, 1, none⟩ (.int .i64 (readsOf s.step weight (tunes s)).hi)).cell? ⟨w.heap.size + 1 + 1, 1, none⟩ = some (.int .i64 (readsOf s.step weight (tunes s)).hi) := by simp [go_sem, k41]
      have e2 := cell_kept e0 (grownBy_putObj' _ D (.deferred none)) (fun r e => by cases e; exact ⟨_, hKD, rfl⟩)
      have e3 := cell_kept e1 (grownBy_putObj' _ D (.deferred none)) (fun r e => by cases e; exact ⟨_, hKD, rfl⟩)
      have hE9 : w.Exts (((World.ext _ XW).setCell ⟨w.heap.size + 1 + 1, 0, none⟩ (.int .i64 (readsOf s.step weight (tunes s)).lo)).setCell ⟨w.heap.size + 1 + 1, 1, none⟩ (.int .i64 (readsOf s.step weight (tunes s)).hi)) := World.Exts.setCell (World.Exts.setCell (hEV.trans ⟨XW, rfl⟩) (by dsimp only; omega) _) (by dsimp only; omega) _
      have hsV := hEV.size
      have hDw : w.heap.size ≤ D := by simp at hD; omega
      refine ⟨.tuple #[.agg #[.int .i64 (readsOf s.step weight (tunes s)).lo, .int .i64 (readsOf s.step weight (tunes s)).hi], .int .i64 0], ?_, by rw [HFIN.out], .of (hE9.below.trans (belowK_b (w := w) (Nat.le_refl _) _ D _ _ hDw hKD rfl rfl))⟩
      simp [results, Tryd.results7, go_sem, e2, e3]
  case stop =>
    rintro D c pre W _ _ h _
    exact h.elim

set_option maxHeartbeats 1000000 in
theorem scale_Reads_any (s : Scale) (tv : Value) (weight : Int) (w : World) (hrow : IsRow (fun t : Kr.Trial => [.int .i64 t.weight, .int .i64 t.shown]) 2 w tv s.trials) :
    Calls Tryd.prog 7 #[.agg #[.int .i64 s.id, .int .i64 s.step, .int .i64 s.gain.lo, .int .i64 s.gain.hi, .int .i64 s.off.lo, .int .i64 s.off.hi, tv], .int .i64 weight] w fun e w' => e = .returned (.tuple #[.agg #[.int .i64 (reads s weight).1.lo, .int .i64 (reads s weight).1.hi], .int .i64 (reads s weight).2]) ∧ w.Exts w' := by
  cases hr : right s
  · obtain ⟨p, cap, rfl⟩ := hrow.len
    have HR := Lib.hid hrow
    clear hrow
    have hfin : reads s weight = (⟨0, 0⟩, 40) := by unfold reads; rw [hr]; rfl
    rw [hfin]
    have HOK := Lib.hid hr
    clear hr
    clear hfin
    go_enter Tryd.func7, Tryd.ntmps7
    go_wp2_with (go_at_call 25; refine (scale_right_any s _ _ (HR.out.mono exq)).mono ?_; rintro e w' ⟨rfl, X2, rfl⟩; rw [HOK.out])
    refine bodyPost_ret (v := .tuple #[.agg #[.int .i64 0, .int .i64 0], .int .i64 40]) (by simp [results, Tryd.results7, go_sem]) rfl ?_
    exact ⟨rfl, exq⟩
  cases hw : inAll 0 1000000 [weight]
  · obtain ⟨p, cap, rfl⟩ := hrow.len
    have HR := Lib.hid hrow
    clear hrow
    have hin : inb 0 1000000 weight = false := by simpa [inAll] using hw
    have hfin : reads s weight = (⟨0, 0⟩, 2) := by unfold reads; rw [hr, hin]; rfl
    rw [hfin]
    have HOK := Lib.hid hr
    clear hr
    have HW := Lib.hid hw
    clear hw
    clear hfin hin
    go_enter Tryd.func7, Tryd.ntmps7
    go_wp2_with (first
      | (go_at_call 25; refine (scale_right_any s _ _ (HR.out.mono exq)).mono ?_; rintro e w' ⟨rfl, X2, rfl⟩; rw [HOK.out])
      | (go_at_call 26; refine (scale_in_any _ _ _ [weight] _ (row_int1 _ _ _ (by simp))).mono ?_; rintro e w' ⟨rfl, X3, rfl⟩; rw [HW.out]))
    refine bodyPost_ret (v := .tuple #[.agg #[.int .i64 0, .int .i64 0], .int .i64 2]) (by simp [results, Tryd.results7, go_sem]) rfl ?_
    exact ⟨rfl, exq⟩
  exact callsIn_wide.1 (scale_Reads_in s tv weight w hrow hr hw)
end Go.Proofs.YtfjkiemjmnnbkaaDoor
