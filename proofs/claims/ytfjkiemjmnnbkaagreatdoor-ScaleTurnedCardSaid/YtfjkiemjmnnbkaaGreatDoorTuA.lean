/-
  How a twin bay and a twin gear lie in memory while they are written: what each write leaves.
-/
import Derived.Test.YtfjkiemjmnnbkaaGreatDoorTm
import Derived.Test.YtfjkiemjmnnbkaaGreatDoorPut
import Derived.Test.YtfjkiemjmnnbkaaGreatDoorTj
import Derived.Test.YtfjkiemjmnnbkaaGreatDoorJb
import Derived.Test.YtfjkiemjmnnbkaaGreatDoorSortB
namespace Go.Proofs.YtfjkiemjmnnbkaaGreatDoor
open Go.RowKit Kr
set_option linter.unusedSimpArgs false

def loadEnc (t : Kr.Load) : List Value := [.int .i64 t.scale, .int .i64 t.shown]
def intEnc (x : Int) : List Value := [.int .i64 x]
theorem ownsRow_type {W : World} {b e sz n g i : Nat} {t : TypeId} {v u : Value} {xs : List Value} {cs : Array Value} {fr : Nat × Nat} (h : W.ownsRow b e sz v n xs) (hg : W.heap[g]? = some (.cells cs t fr)) (hne : e ≠ t) : (W.setCell ⟨g, i, none⟩ u).ownsRow b e sz v n xs :=
  h.kept (grown_set W g i u) (.inr ((RowT.of_owns h).off hg hne))
theorem ownsRow_apart {W : World} {b e sz n g i : Nat} {v u : Value} {xs : List Value} (h : W.ownsRow b e sz v n xs) (hne : v.ownBlock ≠ some g) : (W.setCell ⟨g, i, none⟩ u).ownsRow b e sz v n xs :=
  h.kept (grown_set W g i u) (.inr hne)
theorem row_type {α : Type} {enc : α → List Value} {k g i : Nat} {t e : TypeId} {W : World} {v u : Value} {xs : List α} {cs : Array Value} {fr : Nat × Nat} (h : IsRow enc k W v xs) (hT : RowT e W v) (hg : W.heap[g]? = some (.cells cs t fr)) (hne : e ≠ t) : IsRow enc k (W.setCell ⟨g, i, none⟩ u) v xs :=
  (RowOff.set (G := [g]) (a := ⟨g, i, none⟩) ⟨h, .inr fun g' hg' => by rw [List.mem_singleton.1 hg']; exact hT.off hg hne⟩ (by simp) u).row
theorem lays_type {W : World} {p g i : Nat} {t e : TypeId} {u : Value} {ds cs : Array Value} {f fr : Nat × Nat} (h : LaysAs W p (.cells ds e f)) (hg : W.heap[g]? = some (.cells cs t fr)) (hne : e ≠ t) : LaysAs (W.setCell ⟨g, i, none⟩ u) p (.cells ds e f) :=
  (World.heap_set_other W _ u (fun e' => by
    dsimp only at e'
    subst e'
    unfold LaysAs at h
    rw [h] at hg
    simp at hg
    exact hne hg.2.1)).trans h

theorem lays_ne {W : World} {p g : Nat} {t e : TypeId} {ds cs : Array Value} {f fr : Nat × Nat} (h : LaysAs W p (.cells ds e f)) (hg : W.heap[g]? = some (.cells cs t fr)) (hne : e ≠ t) : g ≠ p := fun e' => by
  subst e'
  unfold LaysAs at h
  rw [h] at hg
  simp at hg
  exact hne hg.2.1

theorem lays_of_owns {W : World} {b e sz n g cg : Nat} {xs : List Value} (h : W.ownsRow b e sz (.slice (some ⟨g, 0, none⟩) n cg) n xs) : ∃ cs fr, W.heap[g]? = some (.cells cs e fr) := RowT.of_owns h g rfl

/-- A: the world ahead of the twins; p4, p5: the twins' boxes. -/
structure TuAt (A W : World) (c4 c5 : List Value) (b1 b2 b3 p4 p5 : Nat) (vS l r s : Value) (L : List (Kr.Scale × Value)) (ld : List Kr.Load) (rn st : List Int) : Prop where
  ext : A.Exts W
  o4 : LaysAs W p4 (.cells c4.toArray 24 (0, 0))
  o5 : LaysAs W p5 (.cells c5.toArray 50 (0, 0))
  n4 : A.heap.size ≤ p4
  n5 : A.heap.size ≤ p5
  len : ∃ q c, vS = .slice q L.length c
  e0 : L = [] → ∃ q c, vS = .slice q 0 c ∧ c ≤ 9223372036854775807
  sc : L = [] ∨ ∃ g cg, vS = .slice (some ⟨g, 0, none⟩) L.length cg ∧ A.heap.size ≤ g ∧ (L.length ≤ cg ∧ cg ≤ 9223372036854775807) ∧ BlkAt W g (L.flatMap scaleEnc) ∧ ∃ cs fr, W.heap[g]? = some (.cells cs 59 fr)
  tr : ∀ x ∈ L, IsRow (fun t : Kr.Trial => [.int .i64 t.weight, .int .i64 t.shown]) 2 W x.2 x.1.trials ∧ RowT 95 W x.2
  ol : W.ownsRow b1 63 2 l ld.length (ld.flatMap loadEnc)
  oR : W.ownsRow b2 3 1 r rn.length (rn.flatMap intEnc)
  os : W.ownsRow b3 3 1 s st.length (st.flatMap intEnc)
  nb : A.heap.size ≤ b1 ∧ b1 ≤ b2 ∧ b2 ≤ b3
  sl : ∀ k, l.ownBlock = some k → k < b2
  sr : ∀ k, r.ownBlock = some k → k < b3

section
variable {A W : World} {c4 c5 : List Value} {b1 b2 b3 p4 p5 : Nat} {vS l r s : Value} {L : List (Kr.Scale × Value)} {ld : List Kr.Load} {rn st : List Int}
theorem TuAt.exts {W' : World} (h : TuAt A W c4 c5 b1 b2 b3 p4 p5 vS l r s L ld rn st) (hE : W.Exts W') : TuAt A W' c4 c5 b1 b2 b3 p4 p5 vS l r s L ld rn st :=
  ⟨h.ext.trans hE, h.o4.exts hE, h.o5.exts hE, h.n4, h.n5, h.len, h.e0, h.sc.imp id (fun ⟨g, cg, h1, h2, h3, h4, cs, fr, h5⟩ => ⟨g, cg, h1, h2, h3, h4.exts hE, cs, fr, (hE.below.block g (Array.getElem?_eq_some_iff.1 h5).1).trans h5⟩), fun x hx => ⟨(h.tr x hx).1.mono hE, (h.tr x hx).2.exts hE⟩, ownsRow_exts h.ol hE, ownsRow_exts h.oR hE, ownsRow_exts h.os hE, h.nb, h.sl, h.sr⟩
/-- One scale's Id is written. -/
theorem TuAt.putS {g cg n k : Nat} {x : Kr.Scale × Value} {m : Int} (h : TuAt A W c4 c5 b1 b2 b3 p4 p5 (.slice (some ⟨g, 0, none⟩) n cg) l r s L ld rn st) (hx : L[k]? = some x) :
    TuAt A (W.setCell ⟨g, k * 7, none⟩ (.int .i64 m)) c4 c5 b1 b2 b3 p4 p5 (.slice (some ⟨g, 0, none⟩) n cg) l r s (L.set k ({ x.1 with id := m }, x.2)) ld rn st := by
  have hne : L ≠ [] := fun e => by rw [e] at hx; simp at hx
  obtain ⟨g', cg', hv, hA, hc, hb, cs, fr, hT⟩ := h.sc.resolve_left hne
  simp only [Value.slice.injEq, Option.some.injEq, Addr.mk.injEq, and_true] at hv
  obtain ⟨rfl, rfl, rfl⟩ := hv
  have hTy : RowT 59 W (.slice (some ⟨g, 0, none⟩) L.length cg) := fun b hb => by simp [Value.ownBlock] at hb; subst hb; exact ⟨cs, fr, hT⟩
  have hT2 := hTy.set ⟨g, k * 7, none⟩ (.int .i64 m) g rfl
  have hput := BlkAt.put (K := 7) (j := 0) (fun _ => rfl) hb hx (by omega) (show scaleEnc ({ x.1 with id := m }, x.2) = (scaleEnc x).set 0 (.int .i64 m) from rfl)
  refine ⟨World.Exts.setCell h.ext hA _, lays_type h.o4 hT (by decide), lays_type h.o5 hT (by decide), h.n4, h.n5, ⟨_, _, by rw [List.length_set]⟩, fun e => absurd e (by simpa using hne), .inr ⟨g, cg, by rw [List.length_set], hA, by rw [List.length_set]; exact hc, hput, hT2⟩, fun y hy => ?_, ownsRow_type h.ol hT (by decide), ownsRow_type h.oR hT (by decide), ownsRow_type h.os hT (by decide), h.nb, h.sl, h.sr⟩
  rcases List.mem_or_eq_of_mem_set hy with h1 | rfl
  · exact ⟨row_type (h.tr y h1).1 (h.tr y h1).2 hT (by decide), (h.tr y h1).2.set _ _⟩
  · have h1 := h.tr x (List.mem_of_getElem? hx)
    exact ⟨row_type h1.1 h1.2 hT (by decide), h1.2.set _ _⟩
/-- One cell of a load is written. -/
theorem TuAt.putL {g cg n k j : Nat} {x y : Kr.Load} {u : Value} (h : TuAt A W c4 c5 b1 b2 b3 p4 p5 vS (.slice (some ⟨g, 0, none⟩) n cg) r s L ld rn st) (hn : n = ld.length) (hx : ld[k]? = some x) (hj : j < 2) (hy : loadEnc y = (loadEnc x).set j u) :
    TuAt A (W.setCell ⟨g, k * 2 + j, none⟩ u) c4 c5 b1 b2 b3 p4 p5 vS (.slice (some ⟨g, 0, none⟩) n cg) r s L (ld.set k y) rn st := by
  subst hn
  obtain ⟨cs, fr, hT⟩ := lays_of_owns h.ol
  have hgA := (h.ol.lt g rfl).1
  have hb := h.nb
  have hst := (h.ol.stored (k * 2 + j) u).1
  rw [← flat_set (K := 2) (fun _ => rfl) hx hj hy] at hst
  have hlt := h.sl g rfl
  refine ⟨World.Exts.setCell h.ext (by dsimp only; omega) _, lays_type h.o4 hT (by decide), lays_type h.o5 hT (by decide), h.n4, h.n5, h.len, h.e0, h.sc.imp id (fun ⟨g', cg', h1, h2, h3, h4, cs', fr', h5⟩ => ?_), fun y hy => ⟨row_type (h.tr y hy).1 (h.tr y hy).2 hT (by decide), (h.tr y hy).2.set _ _⟩, by rw [List.length_set]; exact hst, ownsRow_apart h.oR (fun e => by have := (h.oR.lt g e).1; omega), ownsRow_apart h.os (fun e => by have := (h.os.lt g e).1; omega), h.nb, h.sl, h.sr⟩
  have hne : g ≠ g' := fun e => by subst e; rw [h5] at hT; simp at hT
  exact ⟨g', cg', h1, h2, h3, h4.set_other hne _, cs', fr', (World.heap_set_other W _ _ (Ne.symm hne)).trans h5⟩
/-- One runner is written. -/
theorem TuAt.putR {g cg n k : Nat} {x y : Int} (h : TuAt A W c4 c5 b1 b2 b3 p4 p5 vS l (.slice (some ⟨g, 0, none⟩) n cg) s L ld rn st) (hn : n = rn.length) (hx : rn[k]? = some x) :
    TuAt A (W.setCell ⟨g, k, none⟩ (.int .i64 y)) c4 c5 b1 b2 b3 p4 p5 vS l (.slice (some ⟨g, 0, none⟩) n cg) s L ld (rn.set k y) st := by
  subst hn
  obtain ⟨cs, fr, hT⟩ := lays_of_owns h.oR
  have hgA := (h.oR.lt g rfl).1
  have hb := h.nb
  have hst := (h.oR.stored k (.int .i64 y)).1
  rw [show k = k * 1 + 0 by omega, ← flat_set (K := 1) (j := 0) (y := y) (fun _ => rfl) hx (by omega) rfl, show k * 1 + 0 = k by omega] at hst
  have hlt := h.sr g rfl
  refine ⟨World.Exts.setCell h.ext (by dsimp only; omega) _, lays_type h.o4 hT (by decide), lays_type h.o5 hT (by decide), h.n4, h.n5, h.len, h.e0, h.sc.imp id (fun ⟨g', cg', h1, h2, h3, h4, cs', fr', h5⟩ => ?_), fun y hy => ⟨row_type (h.tr y hy).1 (h.tr y hy).2 hT (by decide), (h.tr y hy).2.set _ _⟩, ownsRow_apart h.ol (fun e => by have := h.sl g e; omega), by rw [List.length_set]; exact hst, ownsRow_apart h.os (fun e => by have := (h.os.lt g e).1; omega), h.nb, h.sl, h.sr⟩
  have hne : g ≠ g' := fun e => by subst e; rw [h5] at hT; simp at hT
  exact ⟨g', cg', h1, h2, h3, h4.set_other hne _, cs', fr', (World.heap_set_other W _ _ (Ne.symm hne)).trans h5⟩
/-- One stroke is written. -/
theorem TuAt.putK {g cg n k : Nat} {x y : Int} (h : TuAt A W c4 c5 b1 b2 b3 p4 p5 vS l r (.slice (some ⟨g, 0, none⟩) n cg) L ld rn st) (hn : n = st.length) (hx : st[k]? = some x) :
    TuAt A (W.setCell ⟨g, k, none⟩ (.int .i64 y)) c4 c5 b1 b2 b3 p4 p5 vS l r (.slice (some ⟨g, 0, none⟩) n cg) L ld rn (st.set k y) := by
  subst hn
  obtain ⟨cs, fr, hT⟩ := lays_of_owns h.os
  have hgA := (h.os.lt g rfl).1
  have hb := h.nb
  have hst := (h.os.stored k (.int .i64 y)).1
  rw [show k = k * 1 + 0 by omega, ← flat_set (K := 1) (j := 0) (y := y) (fun _ => rfl) hx (by omega) rfl, show k * 1 + 0 = k by omega] at hst
  refine ⟨World.Exts.setCell h.ext (by dsimp only; omega) _, lays_type h.o4 hT (by decide), lays_type h.o5 hT (by decide), h.n4, h.n5, h.len, h.e0, h.sc.imp id (fun ⟨g', cg', h1, h2, h3, h4, cs', fr', h5⟩ => ?_), fun y hy => ⟨row_type (h.tr y hy).1 (h.tr y hy).2 hT (by decide), (h.tr y hy).2.set _ _⟩, ownsRow_apart h.ol (fun e => by have := h.sl g e; omega), ownsRow_apart h.oR (fun e => by have := h.sr g e; omega), by rw [List.length_set]; exact hst, h.nb, h.sl, h.sr⟩
  have hne : g ≠ g' := fun e => by subst e; rw [h5] at hT; simp at hT
  exact ⟨g', cg', h1, h2, h3, h4.set_other hne _, cs', fr', (World.heap_set_other W _ _ (Ne.symm hne)).trans h5⟩
theorem TuAt.bay (h : TuAt A W c4 c5 b1 b2 b3 p4 p5 vS l r s L ld rn st) : BayAt W vS L := by
  by_cases hV : L = []
  · obtain ⟨q, c, rfl, hc⟩ := h.e0 hV
    subst hV
    exact ⟨⟨q, 0, 0, c, rfl, ⟨Nat.zero_le _, hc⟩, fun h0 => absurd h0 (Nat.lt_irrefl 0), fun i x hx => by simp at hx⟩, fun x hx => by simp at hx⟩
  · obtain ⟨g, cg, rfl, h2, h3, h4, cs, fr, h5⟩ := h.sc.resolve_left hV
    exact ⟨IsRow.of_blk (fun _ => rfl) h4 ⟨(Array.getElem?_eq_some_iff.1 h5).1⟩ h3, fun x hx => (h.tr x hx).1⟩
theorem TuAt.gear (h : TuAt A W c4 c5 b1 b2 b3 p4 p5 vS l r s L ld rn st) : IsRow (fun t : Kr.Load => [.int .i64 t.scale, .int .i64 t.shown]) 2 W l ld ∧ IsRow (fun x : Int => [.int .i64 x]) 1 W r rn ∧ IsRow (fun x : Int => [.int .i64 x]) 1 W s st :=
  ⟨IsRow.of_owns h.ol (fun _ _ => rfl), IsRow.of_owns h.oR (fun _ _ => rfl), IsRow.of_owns h.os (fun _ _ => rfl)⟩
/-- A cell of a twin's box is written. -/
theorem TuAt.put4 (h : TuAt A W c4 c5 b1 b2 b3 p4 p5 vS l r s L ld rn st) (i : Nat) (u : Value) : TuAt A (W.setCell ⟨p4, i, none⟩ u) (c4.set i u) c5 b1 b2 b3 p4 p5 vS l r s L ld rn st := by
  have hT : W.heap[p4]? = _ := h.o4
  refine ⟨World.Exts.setCell h.ext h.n4 _, LaysAs.set h.o4 _, lays_type h.o5 hT (by decide), h.n4, h.n5, h.len, h.e0, h.sc.imp id (fun ⟨g', cg', h1, h2, h3, h4, cs', fr', h5⟩ => ?_), fun y hy => ⟨row_type (h.tr y hy).1 (h.tr y hy).2 hT (by decide), (h.tr y hy).2.set _ _⟩, ownsRow_type h.ol hT (by decide), ownsRow_type h.oR hT (by decide), ownsRow_type h.os hT (by decide), h.nb, h.sl, h.sr⟩
  have hne : p4 ≠ g' := fun e => by subst e; rw [h5] at hT; simp at hT
  exact ⟨g', cg', h1, h2, h3, h4.set_other hne _, cs', fr', (World.heap_set_other W _ _ (Ne.symm hne)).trans h5⟩
theorem TuAt.put5 (h : TuAt A W c4 c5 b1 b2 b3 p4 p5 vS l r s L ld rn st) (i : Nat) (u : Value) : TuAt A (W.setCell ⟨p5, i, none⟩ u) c4 (c5.set i u) b1 b2 b3 p4 p5 vS l r s L ld rn st := by
  have hT : W.heap[p5]? = _ := h.o5
  refine ⟨World.Exts.setCell h.ext h.n5 _, lays_type h.o4 hT (by decide), LaysAs.set h.o5 _, h.n4, h.n5, h.len, h.e0, h.sc.imp id (fun ⟨g', cg', h1, h2, h3, h4, cs', fr', h5⟩ => ?_), fun y hy => ⟨row_type (h.tr y hy).1 (h.tr y hy).2 hT (by decide), (h.tr y hy).2.set _ _⟩, ownsRow_type h.ol hT (by decide), ownsRow_type h.oR hT (by decide), ownsRow_type h.os hT (by decide), h.nb, h.sl, h.sr⟩
  have hne : p5 ≠ g' := fun e => by subst e; rw [h5] at hT; simp at hT
  exact ⟨g', cg', h1, h2, h3, h4.set_other hne _, cs', fr', (World.heap_set_other W _ _ (Ne.symm hne)).trans h5⟩
end

/-- A twin bay in new memory, later on. -/
def NewBay (b : Nat) (W : World) (v : Value) (ts : List (Kr.Scale × Value)) : Prop :=
  ts = [] ∨ ∃ g cg, v = .slice (some ⟨g, 0, none⟩) ts.length cg ∧ b ≤ g ∧ (ts.length ≤ cg ∧ cg ≤ 9223372036854775807) ∧ BlkAt W g (ts.flatMap scaleEnc) ∧ ∀ x ∈ ts, RowOff (fun t : Kr.Trial => [.int .i64 t.weight, .int .i64 t.shown]) 2 W [g] x.2 x.1.trials
theorem NewBay.mono {b : Nat} {W W' : World} {v : Value} {ts : List (Kr.Scale × Value)} (h : NewBay b W v ts) (hE : W.Exts W') : NewBay b W' v ts :=
  h.imp id fun ⟨g, cg, h1, h2, h3, h4, h5⟩ => ⟨g, cg, h1, h2, h3, h4.exts hE, fun x hx => (h5 x hx).exts hE⟩
theorem NewBay.of {w W : World} {b : Nat} {v : Value} {ts : List (Kr.Scale × Value)} (h : BayNew w W v ts) (hb : b ≤ w.heap.size) : NewBay b W v ts :=
  h.imp id fun ⟨g, cg, h1, h2, h3, h4, h5, _⟩ => ⟨g, cg, h1, Nat.le_trans hb h2, h3, h4, h5⟩
/-- A twin gear in new memory, later on. -/
def NewGear (b : Nat) (W : World) (g : Gear) (l r s : Value) : Prop :=
  ∃ b1 b2 b3, b ≤ b1 ∧ b1 ≤ b2 ∧ b2 ≤ b3 ∧ W.ownsRow b1 63 2 l g.loads.length (g.loads.flatMap loadEnc) ∧ W.ownsRow b2 3 1 r g.runners.length (g.runners.flatMap intEnc) ∧ W.ownsRow b3 3 1 s g.strokes.length (g.strokes.flatMap intEnc) ∧ (∀ k, l.ownBlock = some k → k < b2) ∧ ∀ k, r.ownBlock = some k → k < b3
theorem NewGear.mono {b : Nat} {W W' : World} {g : Gear} {l r s : Value} (h : NewGear b W g l r s) (hE : W.Exts W') : NewGear b W' g l r s := by
  obtain ⟨b1, b2, b3, h1, h2, h3, h4, h5, h6, h7⟩ := h
  exact ⟨b1, b2, b3, h1, h2, h3, ownsRow_exts h4 hE, ownsRow_exts h5 hE, ownsRow_exts h6 hE, h7⟩
theorem NewGear.of {w W : World} {b : Nat} {g : Gear} {l r s : Value} (h : GearOwn w W g l r s) (hb : b ≤ w.heap.size) : NewGear b W g l r s := by
  obtain ⟨b1, b2, b3, h1, h2, h3, h4⟩ := h
  exact ⟨b1, b2, b3, Nat.le_trans hb h1, h2, h3, h4⟩
theorem TuAt.start {A W : World} {c4 c5 : List Value} {p4 p5 : Nat} {vS l r s : Value} {L : List (Kr.Scale × Value)} {g : Gear} (hE : A.Exts W) (h4 : LaysAs W p4 (.cells c4.toArray 24 (0, 0))) (h5 : LaysAs W p5 (.cells c5.toArray 50 (0, 0))) (n4 : A.heap.size ≤ p4) (n5 : A.heap.size ≤ p5)
    (hb : BayAt W vS L) (hT : ∀ x ∈ L, RowT 95 W x.2) (hS : OffT 59 0 W vS L) (hN : NewBay A.heap.size W vS L) (hG : NewGear A.heap.size W g l r s) : ∃ b1 b2 b3, TuAt A W c4 c5 b1 b2 b3 p4 p5 vS l r s L g.loads g.runners g.strokes := by
  obtain ⟨b1, b2, b3, k1, k2, k3, k4, k5, k6, k7, k8⟩ := hG
  have hsc : L = [] ∨ ∃ g cg, vS = .slice (some ⟨g, 0, none⟩) L.length cg ∧ A.heap.size ≤ g ∧ (L.length ≤ cg ∧ cg ≤ 9223372036854775807) ∧ BlkAt W g (L.flatMap scaleEnc) ∧ ∃ cs fr, W.heap[g]? = some (.cells cs 59 fr) := by
    by_cases hL : L = []
    · exact .inl hL
    · obtain ⟨g', cg', h1, h2, h3, h4, _⟩ := hN.resolve_left hL
      refine .inr ⟨g', cg', h1, h2, h3, h4, ?_⟩
      rcases hS.resolve_left hL with h | h
      · have := h g' (by rw [h1]; rfl); omega
      · exact h g' (by rw [h1]; rfl)
  refine ⟨b1, b2, b3, hE, h4, h5, n4, n5, ?_, fun e => ?_, hsc, fun x hx => ⟨hb.tr x hx, hT x hx⟩, k4, k5, k6, ⟨k1, k2, k3⟩, k7, k8⟩
  · obtain ⟨q, c, e⟩ := hb.row.len; exact ⟨q, c, e⟩
  · obtain ⟨q, b, o, c, h1, h2, -⟩ := hb.row.ex
    exact ⟨q, c, by rw [h1, e]; rfl, h2.2⟩
end Go.Proofs.YtfjkiemjmnnbkaaGreatDoor
