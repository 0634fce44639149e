/-
  Several texts in one: see the heads of its parts.
-/
import Derived.Test.YtfjkiemjmnnbkaaDoorAm
import Derived.Test.YtfjkiemjmnnbkaaDoorExB
import Derived.Test.YtfjkiemjmnnbkaaDoorInv

/-
  What lies in memory behind ScaleExamples: the examples' pieces, blocks beside each other that are written to.
-/
namespace Go.Proofs.YtfjkiemjmnnbkaaDoor
open Go.RowKit Kr
set_option linter.unusedSimpArgs false

/-- A block: its place, type and cells. -/
structure Bx where
  p : Nat
  t : TypeId
  cs : List Value
abbrev Bx.at (b : Bx) (W : World) : Prop := LaysAs W b.p (.cells b.cs.toArray b.t (0, 0))
/-- Blocks beside each other, in a world that extends A. -/
structure BxAt (A W : World) (bx : List Bx) : Prop where
  ext : A.Exts W
  bo : ∀ b ∈ bx, b.at W ∧ A.heap.size ≤ b.p
  bd : bx.Pairwise fun a b => a.p ≠ b.p
section
variable {A W W' : World} {bx : List Bx}
theorem BxAt.nil (A : World) : BxAt A A [] := ⟨World.Exts.refl A, (fun b hb => by cases hb), List.Pairwise.nil⟩
theorem BxAt.exts (h : BxAt A W bx) (hE : W.Exts W') : BxAt A W' bx := ⟨h.ext.trans hE, fun b hb => ⟨(h.bo b hb).1.exts hE, (h.bo b hb).2⟩, h.bd⟩
/-- Blocks that lie in a world behind this one. -/
theorem BxAt.more (h : BxAt A W bx) (hE : W.Exts W') {ys : List Bx} (hy : ∀ b ∈ ys, b.at W' ∧ W.heap.size ≤ b.p) (hd : ys.Pairwise fun a b => a.p ≠ b.p) : BxAt A W' (bx ++ ys) := by
  refine ⟨h.ext.trans hE, fun b hb => ?_, List.pairwise_append.2 ⟨h.bd, hd, fun a ha b hb => ?_⟩⟩
  · rcases List.mem_append.1 hb with h1 | h1
    · exact ⟨(h.bo b h1).1.exts hE, (h.bo b h1).2⟩
    · exact ⟨(hy b h1).1, Nat.le_trans h.ext.size (hy b h1).2⟩
  · have h1 := (h.bo a ha).1.lt
    have h2 := (hy b hb).2
    omega
theorem BxAt.new (h : BxAt A W bx) (cs : List Value) (t : TypeId) : BxAt A (W.alloc (.cells cs.toArray t)) (bx ++ [⟨W.heap.size, t, cs⟩]) :=
  h.more ((World.Exts.refl W).alloc _) (fun b hb => by rw [List.mem_singleton.1 hb]; exact ⟨laysAs_size W _ rfl, Nat.le_refl _⟩) (List.pairwise_singleton _ _)
theorem BxAt.box (h : BxAt A W bx) (j : Nat) {b : Bx} (hb : bx[j]? = some b) : b.at W := (h.bo b (List.mem_of_getElem? hb)).1
theorem BxAt.store (h : BxAt A W bx) (j i : Nat) {b : Bx} (hb : bx[j]? = some b) (u : Value) : BxAt A (W.setCell ⟨b.p, i, none⟩ u) (bx.set j { b with cs := b.cs.set i u }) := by
  have h0 := h.bo b (List.mem_of_getElem? hb)
  have hj := lt_of_some hb
  refine ⟨World.Exts.setCell h.ext h0.2 _, fun c hc => ?_, ?_⟩
  · obtain ⟨m, hm, rfl⟩ := List.mem_iff_getElem.1 hc
    rw [List.length_set] at hm
    by_cases hmj : j = m
    · subst hmj
      rw [List.getElem_set_self]
      exact ⟨LaysAs.set h0.1 u, h0.2⟩
    · rw [List.getElem_set_ne hmj]
      have h1 := h.bo bx[m] (List.getElem_mem hm)
      refine ⟨laysAs_other h1.1 (fun e => ?_) u, h1.2⟩
      have hbj : bx[j] = b := by rw [List.getElem?_eq_getElem hj] at hb; exact Option.some.inj hb
      have hp := List.pairwise_iff_getElem.1 h.bd
      rcases Nat.lt_or_ge m j with c | c
      · have := hp m j hm hj c; rw [hbj] at this; exact this e
      · have := hp j m hj hm (by omega); rw [hbj] at this; exact this e.symm
  · rw [List.pairwise_iff_getElem]
    intro x y hx hy hxy
    rw [List.length_set] at hx hy
    have hp := List.pairwise_iff_getElem.1 h.bd x y hx hy hxy
    have hbj : bx[j] = b := by rw [List.getElem?_eq_getElem hj] at hb; exact Option.some.inj hb
    have e : ∀ k (hk : k < bx.length) (hk2 : k < (bx.set j { b with cs := b.cs.set i u }).length), (bx.set j { b with cs := b.cs.set i u })[k].p = bx[k].p := fun k hk hk2 => by
      by_cases hjk : j = k
      · subst hjk; rw [List.getElem_set_self, hbj]
      · rw [List.getElem_set_ne hjk]
    rw [e x hx, e y hy]
    exact hp
theorem BxAt.appended {v v' : Value} {base : Nat} (h : BxAt A W bx) (happ : AppendedW W W' v v' base) (hA : A.heap.size ≤ base) (hne : ∀ b ∈ bx, v.ownBlock ≠ some b.p) : BxAt A W' bx :=
  ⟨happ.exts A h.ext hA, fun b hb => ⟨((h.bo b hb).1.appended happ (hne b hb)).1, (h.bo b hb).2⟩, h.bd⟩
end
theorem blk_of {w : World} {b : Nat} {cs : List Value} {t : TypeId} (h : LaysAs w b (.cells cs.toArray t (0, 0))) : BlkAt w b cs := by
  refine ⟨fun q u hq => LaysAs.cell h q u hq, fun q _ => ?_⟩
  unfold LaysAs at h
  simp [World.frozen?, h]
theorem lays_free {w : World} {b i : Nat} {cs : List Value} {t : TypeId} (h : LaysAs w b (.cells cs.toArray t (0, 0))) : w.frozen? ⟨b, i, none⟩ = false := by
  unfold LaysAs at h
  simp [World.frozen?, h]

/-- The cells of the examples' bay, gear. -/
def bayCs (st : Int) (tv : Value) : List Value := [.int .i64 3, .int .i64 st, .int .i64 (-10), .int .i64 10, .int .i64 (-20), .int .i64 20, tv, .int .i64 5, .int .i64 100, .int .i64 (-1), .int .i64 1, .int .i64 0, .int .i64 0, .slice none 0 0]
def loadCs (n : Int) : List Value := [.int .i64 3, .int .i64 n, .int .i64 5, .int .i64 210000]
def gearCs (l r s : Nat) : List Value := [.slice (some ⟨l, 0, none⟩) 2 2, .int .i64 2000, .int .i64 50, .int .i64 2, .slice (some ⟨r, 0, none⟩) 2 2, .slice (some ⟨s, 0, none⟩) 2 2, .int .i64 5, .bool true]
theorem bay_of {W : World} {b : Nat} {st : Int} {tv : Value} {trs : List Kr.Trial} (h : LaysAs W b (.cells (bayCs st tv).toArray 34 (0, 0))) (ht : IsRow (fun t : Kr.Trial => [.int .i64 t.weight, .int .i64 t.shown]) 2 W tv trs) :
    BayIs W (.slice (some ⟨b, 0, none⟩) 2 2) [⟨3, st, ⟨-10, 10⟩, ⟨-20, 20⟩, trs⟩, ⟨5, 100, ⟨-1, 1⟩, ⟨0, 0⟩, []⟩] := by
  have h1 : BlkAt W b (([((⟨3, st, ⟨-10, 10⟩, ⟨-20, 20⟩, trs⟩ : Kr.Scale), tv), (⟨5, 100, ⟨-1, 1⟩, ⟨0, 0⟩, []⟩, .slice none 0 0)] : List (Kr.Scale × Value)).flatMap fun x => [.int .i64 x.1.id, .int .i64 x.1.step, .int .i64 x.1.gain.lo, .int .i64 x.1.gain.hi, .int .i64 x.1.off.lo, .int .i64 x.1.off.hi, x.2]) := blk_of h
  refine ⟨[((⟨3, st, ⟨-10, 10⟩, ⟨-20, 20⟩, trs⟩ : Kr.Scale), tv), (⟨5, 100, ⟨-1, 1⟩, ⟨0, 0⟩, []⟩, .slice none 0 0)], ⟨IsRow.of_blk (k := 7) (fun _ => rfl) h1 ⟨h.lt⟩ (by simp), fun x hx => ?_⟩, rfl⟩
  rcases List.mem_cons.1 hx with rfl | hx
  · exact ht
  · rw [List.mem_singleton.1 hx]
    exact IsRow.nil _
theorem ints_of {W : World} {b : Nat} {x y : Int} (h : LaysAs W b (.cells [.int .i64 x, .int .i64 y].toArray 3 (0, 0))) : IsRow (fun x : Int => [.int .i64 x]) 1 W (.slice (some ⟨b, 0, none⟩) 2 2) [x, y] := by
  have h1 : BlkAt W b (([x, y] : List Int).flatMap fun x => [.int .i64 x]) := blk_of h
  exact IsRow.of_blk (k := 1) (fun _ => rfl) h1 ⟨h.lt⟩ (by simp)
theorem trial_of {W : World} {b : Nat} {x y : Int} (h : LaysAs W b (.cells [.int .i64 x, .int .i64 y].toArray 48 (0, 0))) : IsRow (fun t : Kr.Trial => [.int .i64 t.weight, .int .i64 t.shown]) 2 W (.slice (some ⟨b, 0, none⟩) 1 1) [⟨x, y⟩] := by
  have h1 : BlkAt W b (([⟨x, y⟩] : List Kr.Trial).flatMap fun t => [.int .i64 t.weight, .int .i64 t.shown]) := blk_of h
  exact IsRow.of_blk (k := 2) (fun _ => rfl) h1 ⟨h.lt⟩ (by simp)
theorem gear_of {W : World} {l r s : Nat} {n a b : Int} (h1 : LaysAs W l (.cells (loadCs n).toArray 46 (0, 0))) (h2 : LaysAs W r (.cells [.int .i64 85, .int .i64 88].toArray 3 (0, 0))) (h3 : LaysAs W s (.cells [.int .i64 a, .int .i64 b].toArray 3 (0, 0))) :
    GearAt W (⟨[⟨3, n⟩, ⟨5, 210000⟩], 2000, 50, 2, [85, 88], [a, b], 5, true⟩, .slice (some ⟨l, 0, none⟩) 2 2, .slice (some ⟨r, 0, none⟩) 2 2, .slice (some ⟨s, 0, none⟩) 2 2) := by
  have h4 : BlkAt W l (([⟨3, n⟩, ⟨5, 210000⟩] : List Kr.Load).flatMap fun t => [.int .i64 t.scale, .int .i64 t.shown]) := blk_of h1
  refine ⟨IsRow.of_blk (k := 2) (fun _ => rfl) h4 ⟨h1.lt⟩ (by simp), ints_of h2, ints_of h3, by simp, fun x hx => ?_⟩
  rcases List.mem_cons.1 hx with rfl | hx
  · exact (by decide : (Lit.int .i64 3).wf = true)
  · rw [List.mem_singleton.1 hx]
    exact (by decide : (Lit.int .i64 5).wf = true)

set_option maxHeartbeats 1000000 in
/-- The examples' gear, and where it lies. -/
theorem l04_gear_own (w : World) : Calls Tryd.prog 10 #[] w fun e w' => ∃ l, e = .returned (.agg (gearCs l (l + 1) (l + 1 + 1)).toArray) ∧ (LaysAs w' l (.cells (loadCs 95000).toArray 46 (0, 0)) ∧ LaysAs w' (l + 1) (.cells [.int .i64 85, .int .i64 88].toArray 3 (0, 0)) ∧ LaysAs w' (l + 1 + 1) (.cells [.int .i64 410, .int .i64 414].toArray 3 (0, 0))) ∧ w.heap.size ≤ l ∧ w.Exts w' := by
  go_enter Tryd.func10, Tryd.ntmps10
  go_wp2_with fail
  refine bodyPost_ret (v := .agg #[.slice (some ⟨w.heap.size + 1, 0, none⟩) 2 2, .int .i64 2000, .int .i64 50, .int .i64 2, .slice (some ⟨w.heap.size + 1 + 1, 0, none⟩) 2 2, .slice (some ⟨w.heap.size + 1 + 1 + 1, 0, none⟩) 2 2, .int .i64 5, .bool true]) (by simp [results, Tryd.results10, go_sem]) rfl ?_
  have h1 : LaysAs (World.alloc (World.alloc w (.cells #[.slice (some ⟨w.heap.size + 1, 0, none⟩) 2 2, .int .i64 2000, .int .i64 50, .int .i64 2, .slice (some ⟨w.heap.size + 1 + 1, 0, none⟩) 2 2, .slice (some ⟨w.heap.size + 1 + 1 + 1, 0, none⟩) 2 2, .int .i64 5, .bool true] 43)) (.cells #[.int .i64 3, .int .i64 95000, .int .i64 5, .int .i64 210000] 46)) (w.heap.size + 1) (.cells #[.int .i64 3, .int .i64 95000, .int .i64 5, .int .i64 210000] 46) := laysAs_size _ _ (by simp)
  have h2 : LaysAs (World.alloc (World.alloc (World.alloc w (.cells #[.slice (some ⟨w.heap.size + 1, 0, none⟩) 2 2, .int .i64 2000, .int .i64 50, .int .i64 2, .slice (some ⟨w.heap.size + 1 + 1, 0, none⟩) 2 2, .slice (some ⟨w.heap.size + 1 + 1 + 1, 0, none⟩) 2 2, .int .i64 5, .bool true] 43)) (.cells #[.int .i64 3, .int .i64 95000, .int .i64 5, .int .i64 210000] 46)) (.cells #[.int .i64 85, .int .i64 88] 3)) (w.heap.size + 1 + 1) (.cells #[.int .i64 85, .int .i64 88] 3) := laysAs_size _ _ (by simp)
  have h3 : LaysAs (World.alloc (World.alloc (World.alloc (World.alloc w (.cells #[.slice (some ⟨w.heap.size + 1, 0, none⟩) 2 2, .int .i64 2000, .int .i64 50, .int .i64 2, .slice (some ⟨w.heap.size + 1 + 1, 0, none⟩) 2 2, .slice (some ⟨w.heap.size + 1 + 1 + 1, 0, none⟩) 2 2, .int .i64 5, .bool true] 43)) (.cells #[.int .i64 3, .int .i64 95000, .int .i64 5, .int .i64 210000] 46)) (.cells #[.int .i64 85, .int .i64 88] 3)) (.cells #[.int .i64 410, .int .i64 414] 3)) (w.heap.size + 1 + 1 + 1) (.cells #[.int .i64 410, .int .i64 414] 3) := laysAs_size _ _ (by simp)
  refine ⟨w.heap.size + 1, rfl, ⟨h1.exts exq, h2.exts exq, h3⟩, by omega, exq⟩

set_option maxHeartbeats 1000000 in
/-- The examples' bay, and where it lies. -/
theorem l04_bay_own (w : World) : Calls Tryd.prog 8 #[] w fun e w' => ∃ t b, e = .returned (.agg #[.slice (some ⟨b, 0, none⟩) 2 2]) ∧ (LaysAs w' t (.cells [.int .i64 100000, .int .i64 100000].toArray 48 (0, 0)) ∧ LaysAs w' b (.cells (bayCs 10 (.slice (some ⟨t, 0, none⟩) 1 1)).toArray 34 (0, 0))) ∧ (w.heap.size ≤ t ∧ t < b) ∧ w.Exts w' := by
  go_enter Tryd.func8, Tryd.ntmps8
  go_wp2_with (go_at_call 9; refine (l04_span_any _ _ _).mono ?_; rintro e w' ⟨rfl, X, rfl⟩)
  rename_i X1 X2
  refine bodyPost_ret (v := .agg #[.slice (some ⟨(((((w.alloc (.cells #[.slice none 0 0] 37)).ext X1).ext X2).alloc (.cells #[.int .i64 100000, .int .i64 100000] 48)).ext X).heap.size, 0, none⟩) 2 2]) (by simp [results, Tryd.results8, go_sem]) rfl ?_
  have h1 : LaysAs (World.alloc (World.ext (World.ext (World.alloc w (.cells #[.slice none 0 0] 37)) X1) X2) (.cells #[.int .i64 100000, .int .i64 100000] 48)) (World.ext (World.ext (World.alloc w (.cells #[.slice none 0 0] 37)) X1) X2).heap.size (.cells #[.int .i64 100000, .int .i64 100000] 48) := laysAs_size _ _ rfl
  have h2 : LaysAs (World.alloc (World.ext (World.alloc (World.ext (World.ext (World.alloc w (.cells #[.slice none 0 0] 37)) X1) X2) (.cells #[.int .i64 100000, .int .i64 100000] 48)) X) (.cells #[.int .i64 3, .int .i64 10, .int .i64 (-10), .int .i64 10, .int .i64 (-20), .int .i64 20, .slice (some ⟨(((w.alloc (.cells #[.slice none 0 0] 37)).ext X1).ext X2).heap.size, 0, none⟩) 1 1, .int .i64 5, .int .i64 100, .int .i64 (-1), .int .i64 1, .int .i64 0, .int .i64 0, .slice none 0 0] 34)) (((((w.alloc (.cells #[.slice none 0 0] 37)).ext X1).ext X2).alloc (.cells #[.int .i64 100000, .int .i64 100000] 48)).ext X).heap.size (.cells #[.int .i64 3, .int .i64 10, .int .i64 (-10), .int .i64 10, .int .i64 (-20), .int .i64 20, .slice (some ⟨(((w.alloc (.cells #[.slice none 0 0] 37)).ext X1).ext X2).heap.size, 0, none⟩) 1 1, .int .i64 5, .int .i64 100, .int .i64 (-1), .int .i64 1, .int .i64 0, .int .i64 0, .slice none 0 0] 34) := laysAs_size _ _ rfl
  have h3 := h1.exts (w' := World.alloc (World.ext (World.alloc (World.ext (World.ext (World.alloc w (.cells #[.slice none 0 0] 37)) X1) X2) (.cells #[.int .i64 100000, .int .i64 100000] 48)) X) (.cells #[.int .i64 3, .int .i64 10, .int .i64 (-10), .int .i64 10, .int .i64 (-20), .int .i64 20, .slice (some ⟨(((w.alloc (.cells #[.slice none 0 0] 37)).ext X1).ext X2).heap.size, 0, none⟩) 1 1, .int .i64 5, .int .i64 100, .int .i64 (-1), .int .i64 1, .int .i64 0, .int .i64 0, .slice none 0 0] 34)) exq
  have z1 := World.size_ext_le (w.alloc (.cells #[.slice none 0 0] 37)) X1
  have z2 := World.size_ext_le ((w.alloc (.cells #[.slice none 0 0] 37)).ext X1) X2
  have z3 := World.size_ext_le ((((w.alloc (.cells #[.slice none 0 0] 37)).ext X1).ext X2).alloc (.cells #[.int .i64 100000, .int .i64 100000] 48)) X
  simp only [World.size_alloc] at z1 z2 z3
  exact ⟨_, _, rfl, ⟨laysAs_other h3 (by dsimp only; omega) _, laysAs_other h2 (by dsimp only; omega) _⟩, ⟨by omega, by omega⟩, exq⟩
end Go.Proofs.YtfjkiemjmnnbkaaDoor

/-
  What the drawn regions of ScaleExamples leave.
-/
namespace Go.Proofs.YtfjkiemjmnnbkaaDoor
open Go.RowKit Kr
set_option linter.unusedSimpArgs false

/-- A bay, gear, a norm, an answer of two or three parts with its error, the error. -/
def ExPh (kb kg kn kt k3 ke : Nat) (er : Int) (c : Nat) (v : Value) (W : World) : Prop :=
  (c = kb → ∃ v', v = .agg #[v'] ∧ BayIs W v' exBay) ∧ (c = kg → ∃ l r s, v = .agg #[l, .int .i64 exGear.added, .int .i64 exGear.base, .int .i64 exGear.jitter, r, s, .int .i64 exGear.spread, .bool exGear.stamp] ∧ GearAt W (exGear, l, r, s)) ∧ (c = kn → v = .agg #[.int .i64 (exNorm 310000 40).total.lo, .int .i64 (exNorm 310000 40).total.hi, .int .i64 (exNorm 310000 40).added, .int .i64 (exNorm 310000 40).warm, .int .i64 (exNorm 310000 40).hard.lo, .int .i64 (exNorm 310000 40).hard.hi, .bool (exNorm 310000 40).stamp]) ∧
  ((c = kt ∨ c = kt + 1) → ∃ u, v = .tuple #[u, .int .i64 er]) ∧ ((c = k3 ∨ c = k3 + 1) → ∃ u p, v = .tuple #[u, p, .int .i64 er]) ∧ (c = ke → v = .int .i64 er)
theorem ExPh.mono {kb kg kn kt k3 ke : Nat} {er : Int} {c : Nat} {v : Value} {W W' : World} (h : ExPh kb kg kn kt k3 ke er c v W) (hE : W.Exts W') : ExPh kb kg kn kt k3 ke er c v W' := by
  obtain ⟨h1, h2, h3⟩ := h
  exact ⟨fun e => by obtain ⟨v', k1, k2⟩ := h1 e; exact ⟨v', k1, k2.mono hE⟩, fun e => by obtain ⟨l, r, s, k1, k2⟩ := h2 e; exact ⟨l, r, s, k1, k2.mono hE⟩, h3⟩
theorem ExPh.bay {kb kg kn kt k3 ke : Nat} {er : Int} {v v' : Value} {W : World} (hd : kb ≠ kg ∧ kb ≠ kn ∧ kb ≠ kt ∧ kb ≠ kt + 1 ∧ kb ≠ k3 ∧ kb ≠ k3 + 1 ∧ kb ≠ ke) (hv : v = .agg #[v']) (hb : BayIs W v' exBay) : ExPh kb kg kn kt k3 ke er kb v W :=
  ⟨fun _ => ⟨v', hv, hb⟩, fun e => absurd e hd.1, fun e => absurd e hd.2.1, fun e => by omega, fun e => by omega, fun e => by omega⟩
theorem ExPh.gear {kb kg kn kt k3 ke : Nat} {er : Int} {v l r s : Value} {W : World} (hd : kg ≠ kb ∧ kg ≠ kn ∧ kg ≠ kt ∧ kg ≠ kt + 1 ∧ kg ≠ k3 ∧ kg ≠ k3 + 1 ∧ kg ≠ ke) (hv : v = .agg #[l, .int .i64 exGear.added, .int .i64 exGear.base, .int .i64 exGear.jitter, r, s, .int .i64 exGear.spread, .bool exGear.stamp]) (hb : GearAt W (exGear, l, r, s)) : ExPh kb kg kn kt k3 ke er kg v W :=
  ⟨fun e => absurd e hd.1, fun _ => ⟨l, r, s, hv, hb⟩, fun e => absurd e hd.2.1, fun e => by omega, fun e => by omega, fun e => by omega⟩
theorem ExPh.norm {kb kg kn kt k3 ke : Nat} {er : Int} {v : Value} {W : World} (hd : kn ≠ kb ∧ kn ≠ kg ∧ kn ≠ kt ∧ kn ≠ kt + 1 ∧ kn ≠ k3 ∧ kn ≠ k3 + 1 ∧ kn ≠ ke) (hv : v = .agg #[.int .i64 (exNorm 310000 40).total.lo, .int .i64 (exNorm 310000 40).total.hi, .int .i64 (exNorm 310000 40).added, .int .i64 (exNorm 310000 40).warm, .int .i64 (exNorm 310000 40).hard.lo, .int .i64 (exNorm 310000 40).hard.hi, .bool (exNorm 310000 40).stamp]) : ExPh kb kg kn kt k3 ke er kn v W :=
  ⟨fun e => absurd e hd.1, fun e => absurd e hd.2.1, fun _ => hv, fun e => by omega, fun e => by omega, fun e => by omega⟩
theorem ExPh.two {kb kg kn kt k3 ke c : Nat} {er : Int} {v u : Value} {W : World} (_hc : c = kt ∨ c = kt + 1) (hd : c ≠ kb ∧ c ≠ kg ∧ c ≠ kn ∧ c ≠ k3 ∧ c ≠ k3 + 1 ∧ c ≠ ke) (hv : v = .tuple #[u, .int .i64 er]) : ExPh kb kg kn kt k3 ke er c v W :=
  ⟨fun e => absurd e hd.1, fun e => absurd e hd.2.1, fun e => absurd e hd.2.2.1, fun _ => ⟨u, hv⟩, fun e => by omega, fun e => by omega⟩
theorem ExPh.three {kb kg kn kt k3 ke c : Nat} {er : Int} {v u p : Value} {W : World} (_hc : c = k3 ∨ c = k3 + 1) (hd : c ≠ kb ∧ c ≠ kg ∧ c ≠ kn ∧ c ≠ kt ∧ c ≠ kt + 1 ∧ c ≠ ke) (hv : v = .tuple #[u, p, .int .i64 er]) : ExPh kb kg kn kt k3 ke er c v W :=
  ⟨fun e => absurd e hd.1, fun e => absurd e hd.2.1, fun e => absurd e hd.2.2.1, fun e => by omega, fun _ => ⟨u, p, hv⟩, fun e => by omega⟩
theorem ExPh.err {kb kg kn kt k3 ke : Nat} {er : Int} {v : Value} {W : World} (hd : ke ≠ kb ∧ ke ≠ kg ∧ ke ≠ kn ∧ ke ≠ kt ∧ ke ≠ kt + 1 ∧ ke ≠ k3 ∧ ke ≠ k3 + 1) (hv : v = .int .i64 er) : ExPh kb kg kn kt k3 ke er ke v W :=
  ⟨fun e => absurd e hd.1, fun e => absurd e hd.2.1, fun e => absurd e hd.2.2.1, fun e => by omega, fun e => by omega, fun _ => hv⟩
theorem ExPh.any {kb kg kn kt k3 ke c : Nat} {er : Int} {v : Value} {W : World} (hd : c ≠ kb ∧ c ≠ kg ∧ c ≠ kn ∧ c ≠ kt ∧ c ≠ kt + 1 ∧ c ≠ k3 ∧ c ≠ k3 + 1 ∧ c ≠ ke) : ExPh kb kg kn kt k3 ke er c v W :=
  ⟨fun e => absurd e hd.1, fun e => absurd e hd.2.1, fun e => absurd e hd.2.2.1, fun e => by omega, fun e => by omega, fun e => by omega⟩

theorem set_true (l : Array Bool) (i : Nat) : (l.setIfInBounds i true).getD i true = true := by
  rw [Array.getD_eq_getD_getElem?, Array.getElem?_setIfInBounds]
  simp
  split <;> rfl
theorem own_of {W : World} {b : Nat} {x y : Int} (h : LaysAs W b (.cells [.int .i64 x, .int .i64 y].toArray 48 (0, 0))) : W.ownsRow b 48 2 (.slice (some ⟨b, 0, none⟩) 1 1) 1 [.int .i64 x, .int .i64 y] :=
  ⟨rfl, .inr ⟨b, 1, [.int .i64 x, .int .i64 y].toArray, rfl, Nat.le_refl _, (by unfold LaysAs at h; exact h), Nat.le_refl _, (by unfold maxLen; omega), rfl, rfl⟩⟩
theorem trials_of {W : World} {b : Nat} {v : Value} {x y x' y' : Int} (h : W.ownsRow b 48 2 v 2 [.int .i64 x, .int .i64 y, .int .i64 x', .int .i64 y']) : IsRow (fun t : Kr.Trial => [.int .i64 t.weight, .int .i64 t.shown]) 2 W v [⟨x, y⟩, ⟨x', y'⟩] := IsRow.of_owns (ys := [(⟨x, y⟩ : Kr.Trial), ⟨x', y'⟩]) h (fun _ _ => rfl)
theorem givesX {o : Oper} {ρ : Operand → Value} {W : World} {R : Value → World → Prop} {x : Operand} {a b : Int} (ho : o.op = .buildSlice 32 1 #[(0, x)]) (hx : ρ x = .agg #[.int .i64 a, .int .i64 b]) (h : R (.slice (some ⟨W.heap.size, 0, none⟩) 1 1) (W.alloc (.cells #[.int .i64 a, .int .i64 b] 48))) : o.givesI Tryd.prog ρ W R := by
  refine .inl (.inr ⟨_, _, ?_, h⟩)
  unfold execOp
  simp only [ho, List.map_toArray, List.map_cons, List.map_nil, hx]
  kernel_rfl
/-- While a trial is appended, in a region that draws its order. -/
def ExI (A : World) (bx : List Bx) (t4 : Nat) (listed : Array Bool) (W : World) : Prop := BxAt A W bx ∧ (listed.getD 9 true = false → W.ownsRow t4 48 2 (.slice (some ⟨t4, 0, none⟩) 1 1) 1 [.int .i64 100000, .int .i64 100000])
def ExF (bx : List Bx) (t4 : Nat) (c : Nat) (v : Value) (W : World) : Prop :=
  (c = 8 → ∃ nb, v = .slice (some ⟨nb, 0, none⟩) 1 1 ∧ LaysAs W nb (.cells [.int .i64 100000, .int .i64 100100].toArray 48 (0, 0)) ∧ nb ≠ t4) ∧
  (c = 9 → W.ownsRow t4 48 2 v 2 [.int .i64 100000, .int .i64 100000, .int .i64 100000, .int .i64 100100] ∧ ∀ b ∈ bx, v.ownBlock ≠ some b.p)
theorem ExF.exts {bx : List Bx} {t4 c : Nat} {v : Value} {W W' : World} (h : ExF bx t4 c v W) (hE : W.Exts W') : ExF bx t4 c v W' :=
  ⟨fun e => by obtain ⟨nb, h1, h2, h3⟩ := h.1 e; exact ⟨nb, h1, h2.exts hE, h3⟩, fun e => ⟨ownsRow_exts (h.2 e).1 hE, (h.2 e).2⟩⟩
theorem ExI.same {A : World} {bx : List Bx} {t4 i : Nat} {listed : Array Bool} {W : World} (h : ExI A bx t4 listed W) (hi : 9 ≠ i) : ExI A bx t4 (listed.setIfInBounds i true) W := ⟨h.1, fun e => h.2 (by rw [listed_set hi] at e; exact e)⟩
theorem ExI.exts {A : World} {bx : List Bx} {t4 : Nat} {listed : Array Bool} {W W' : World} (h : ExI A bx t4 listed W) (hE : W.Exts W') : ExI A bx t4 listed W' := ⟨h.1.exts hE, fun e => ownsRow_exts (h.2 e) hE⟩
theorem ExI.lit {A : World} {bx : List Bx} {t4 : Nat} {listed : Array Bool} {W : World} (h : ExI A bx t4 listed W) (ht : t4 < W.heap.size) :
    ExI A bx t4 (listed.setIfInBounds 8 true) (W.alloc (.cells #[.int .i64 100000, .int .i64 100100] 48)) ∧ ExF bx t4 8 (.slice (some ⟨W.heap.size, 0, none⟩) 1 1) (W.alloc (.cells #[.int .i64 100000, .int .i64 100100] 48)) :=
  ⟨(h.same (by decide)).exts ((World.Exts.refl W).alloc _), (fun _ => ⟨_, rfl, laysAs_size W _ rfl, by omega⟩), (fun e => by cases e)⟩
theorem ExI.app {A : World} {bx : List Bx} {t4 : Nat} {listed : Array Bool} {W w' : World} {v' : Value} (h : ExI A bx t4 listed W) (hA : A.heap.size ≤ t4) (hne : ∀ b ∈ bx, b.p ≠ t4) (hun : listed.getD 9 true = false) {ν : Nat → Value}
    (hown : w'.ownsRow t4 48 2 v' 2 [.int .i64 100000, .int .i64 100000, .int .i64 100000, .int .i64 100100]) (happ : AppendedW W w' (.slice (some ⟨t4, 0, none⟩) 1 1) v' t4) :
    ExI A bx t4 (listed.setIfInBounds 9 true) w' ∧ ExF bx t4 9 v' w' ∧ ∀ c', listed.getD c' true = true → ExF bx t4 c' (ν c') W → ExF bx t4 c' (ν c') w' := by
  have hnb : ∀ b ∈ bx, (Value.slice (some ⟨t4, 0, none⟩) 1 1).ownBlock ≠ some b.p := fun b hb e => hne b hb (Option.some.inj e).symm
  refine ⟨⟨h.1.appended happ hA hnb, fun e => ?_⟩, ⟨(fun e => by cases e), fun _ => ⟨hown, fun b hb => happ.beside b.p (h.1.bo b hb).1.lt (hnb b hb)⟩⟩, fun c' hl hf => ⟨fun e => ?_, fun e => ?_⟩⟩
  · rw [set_true] at e; cases e
  · obtain ⟨nb, h1, h2, h3⟩ := hf.1 e
    exact ⟨nb, h1, (h2.appended happ (fun e => h3 (Option.some.inj e).symm)).1, h3⟩
  · subst e
    rw [hun] at hl
    cases hl
end Go.Proofs.YtfjkiemjmnnbkaaDoor
