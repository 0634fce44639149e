/-
  Several texts in one: see the heads of its parts.
-/
import Derived.Test.YtfjkiemjmnnbkaaGreatDoorTm
import Derived.Test.YtfjkiemjmnnbkaaGreatDoorTj
import Derived.Test.YtfjkiemjmnnbkaaGreatDoorJb
import Derived.Test.YtfjkiemjmnnbkaaGreatDoorSortB
import Derived.Test.YtfjkiemjmnnbkaaGreatDoorHp
import Derived.Test.YtfjkiemjmnnbkaaGreatDoorWd
import Derived.Test.YtfjkiemjmnnbkaaGreatDoorTsA

/-
  Own rows whose elements are written anew, one cell at a time; lists of which a part is new. Plain laws.
-/
namespace Go
open Go.RowKit

theorem BlkAt.set_any {w : World} {g : Nat} {xs : List Value} (h : BlkAt w g xs) {a : Addr} (ha : xs = [] ∨ a.block ≠ g) (u : Value) : BlkAt (w.setCell a u) g xs := by
  rcases ha with rfl | ha
  · exact ⟨fun q v hq => by simp at hq, fun q hq => by simp at hq⟩
  · exact h.set_other ha u
/-- One cell of an element is written anew. -/
theorem flat_set {α : Type} {enc : α → List Value} {K : Nat} (hk : ∀ y, (enc y).length = K) {l : List α} {i j : Nat} {x y : α} {u : Value} (hx : l[i]? = some x) (hj : j < K) (hy : enc y = (enc x).set j u) : (l.set i y).flatMap enc = (l.flatMap enc).set (i * K + j) u := by
  obtain ⟨hi, hxx⟩ := List.getElem?_eq_some_iff.1 hx
  have hl : l = l.take i ++ (x :: l.drop (i + 1)) := by rw [← hxx, ← List.drop_eq_getElem_cons hi, List.take_append_drop]
  have hA : ((l.take i).flatMap enc).length = i * K := by rw [flat_len _ (fun y _ => hk y), List.length_take, Nat.min_eq_left (by omega)]
  have hflat : l.flatMap enc = (l.take i).flatMap enc ++ (enc x ++ (l.drop (i + 1)).flatMap enc) := by
    conv => lhs; rw [hl]
    rw [List.flatMap_append, List.flatMap_cons]
  rw [List.set_eq_take_append_cons_drop, if_pos hi, List.flatMap_append, List.flatMap_cons, hy, hflat, set_tail hA, List.set_append_left _ _ (by rw [hk]; exact hj)]
theorem BlkAt.put {α : Type} {enc : α → List Value} {K : Nat} (hk : ∀ y, (enc y).length = K) {w : World} {g : Nat} {l : List α} (h : BlkAt w g (l.flatMap enc)) {i j : Nat} {x y : α} {u : Value} (hx : l[i]? = some x) (hj : j < K) (hy : enc y = (enc x).set j u) :
    BlkAt (w.setCell ⟨g, i * K + j, none⟩ u) g ((l.set i y).flatMap enc) := by
  rw [flat_set hk hx hj hy]
  have hi := (List.getElem?_eq_some_iff.1 hx).1
  have hfl := flat_len l (fun y _ => hk y)
  refine h.set ?_ u
  rw [hfl]
  calc i * K + j < i * K + K := by omega
    _ = (i + 1) * K := by rw [Nat.succ_mul]
    _ ≤ l.length * K := Nat.mul_le_mul_right _ hi

/-- A list whose first elements are those of another one. -/
def mixL {α : Type} (T O : List α) (k : Nat) : List α := T.take k ++ O.drop k
theorem mixL_zero {α : Type} (T O : List α) : mixL T O 0 = O := by simp [mixL]
theorem mixL_all {α : Type} {T O : List α} (h : T.length = O.length) : mixL T O O.length = T := by unfold mixL; rw [List.drop_length, List.append_nil, ← h, List.take_length]
theorem mixL_len {α : Type} {T O : List α} (h : T.length = O.length) {k : Nat} (hk : k ≤ O.length) : (mixL T O k).length = O.length := by unfold mixL; simp; omega
theorem mixL_at {α : Type} {T O : List α} (h : T.length = O.length) {k : Nat} (hk : k ≤ O.length) : (mixL T O k)[k]? = O[k]? := by
  unfold mixL
  rw [List.getElem?_append_right (by simp; omega), List.getElem?_drop]
  simp
  congr 1
  omega
theorem mixL_set {α : Type} {T O : List α} (h : T.length = O.length) {k : Nat} {y : α} (hy : T[k]? = some y) : (mixL T O k).set k y = mixL T O (k + 1) := by
  obtain ⟨hk, rfl⟩ := List.getElem?_eq_some_iff.1 hy
  refine List.ext_getElem? fun i => ?_
  unfold mixL
  rw [List.getElem?_set]
  have e1 : (List.take k T ++ List.drop k O).length = O.length := by simp; omega
  have e2 : (T.take k).length = k := by simp; omega
  have e3 : (T.take (k + 1)).length = k + 1 := by simp; omega
  by_cases hik : k = i
  · subst hik
    rw [if_pos rfl, if_pos (by omega), List.getElem?_append_left (by omega), List.getElem?_take_of_lt (by omega), List.getElem?_eq_getElem hk]
  · rw [if_neg hik]
    rcases Nat.lt_or_ge i k with h1 | h1
    · rw [List.getElem?_append_left (by omega), List.getElem?_append_left (by omega), List.getElem?_take_of_lt h1, List.getElem?_take_of_lt (by omega)]
    · rw [List.getElem?_append_right (by omega), List.getElem?_append_right (by omega), List.getElem?_drop, List.getElem?_drop, e2, e3]
      congr 1
      omega
end Go

/-
  How a twin bay and a twin gear lie in memory while they are written: what each write leaves.
-/
namespace Go.Proofs.YtfjkiemjmnnbkaaGreatDoor
open Go.RowKit Kr
set_option linter.unusedSimpArgs false

def loadEnc (t : Kr.Load) : List Value := [.int .i64 t.scale, .int .i64 t.shown]
def intEnc (x : Int) : List Value := [.int .i64 x]
theorem ownsRow_type {W : World} {b e sz n g i : Nat} {t : TypeId} {v u : Value} {xs : List Value} {cs : Array Value} {fr : Nat × Nat} (h : W.ownsRow b e sz v n xs) (hg : W.heap[g]? = some (.cells cs t fr)) (hne : e ≠ t) : (W.setCell ⟨g, i, none⟩ u).ownsRow b e sz v n xs :=
  h.kept (grown_set W g i u) (.inr ((RowT.of_owns h).off hg hne))
theorem ownsRow_apart {W : World} {b e sz n g i : Nat} {v u : Value} {xs : List Value} (h : W.ownsRow b e sz v n xs) (hne : v.ownBlock ≠ some g) : (W.setCell ⟨g, i, none⟩ u).ownsRow b e sz v n xs :=
  h.kept (grown_set W g i u) (.inr hne)
theorem row_type {α : Type} {enc : α → List Value} {k g i : Nat} {t e : TypeId} {W : World} {v u : Value} {xs : List α} {cs : Array Value} {fr : Nat × Nat} (h : IsRow enc k W v xs) (hT : RowT e W v) (hg : W.heap[g]? = some (.cells cs t fr)) (hne : e ≠ t) : IsRow enc k (W.setCell ⟨g, i, none⟩ u) v xs :=
  (RowOff.set (G := [g]) (a := ⟨g, i, none⟩) ⟨h, .inr fun g' hg' => by rw [List.mem_singleton.1 hg']; exact hT.off hg hne⟩ (by simp) u).row
theorem lays_type {W : World} {p g i : Nat} {t e : TypeId} {u : Value} {ds cs : Array Value} {f fr : Nat × Nat} (h : LaysAs W p (.cells ds e f)) (hg : W.heap[g]? = some (.cells cs t fr)) (hne : e ≠ t) : LaysAs (W.setCell ⟨g, i, none⟩ u) p (.cells ds e f) :=
  (World.heap_set_other W _ u (fun e' => by
    dsimp only at e'
    subst e'
    unfold LaysAs at h
    rw [h] at hg
    simp at hg
    exact hne hg.2.1)).trans h

theorem lays_ne {W : World} {p g : Nat} {t e : TypeId} {ds cs : Array Value} {f fr : Nat × Nat} (h : LaysAs W p (.cells ds e f)) (hg : W.heap[g]? = some (.cells cs t fr)) (hne : e ≠ t) : g ≠ p := fun e' => by
  subst e'
  unfold LaysAs at h
  rw [h] at hg
  simp at hg
  exact hne hg.2.1

theorem lays_of_owns {W : World} {b e sz n g cg : Nat} {xs : List Value} (h : W.ownsRow b e sz (.slice (some ⟨g, 0, none⟩) n cg) n xs) : ∃ cs fr, W.heap[g]? = some (.cells cs e fr) := RowT.of_owns h g rfl

/-- A: the world ahead of the twins; p4, p5: the twins' boxes. -/
structure TuAt (A W : World) (c4 c5 : List Value) (b1 b2 b3 p4 p5 : Nat) (vS l r s : Value) (L : List (Kr.Scale × Value)) (ld : List Kr.Load) (rn st : List Int) : Prop where
  ext : A.Exts W
  o4 : LaysAs W p4 (.cells c4.toArray 24 (0, 0))
  o5 : LaysAs W p5 (.cells c5.toArray 50 (0, 0))
  n4 : A.heap.size ≤ p4
  n5 : A.heap.size ≤ p5
  len : ∃ q c, vS = .slice q L.length c
  e0 : L = [] → ∃ q c, vS = .slice q 0 c ∧ c ≤ 9223372036854775807
  sc : L = [] ∨ ∃ g cg, vS = .slice (some ⟨g, 0, none⟩) L.length cg ∧ A.heap.size ≤ g ∧ (L.length ≤ cg ∧ cg ≤ 9223372036854775807) ∧ BlkAt W g (L.flatMap scaleEnc) ∧ ∃ cs fr, W.heap[g]? = some (.cells cs 59 fr)
  tr : ∀ x ∈ L, IsRow (fun t : Kr.Trial => [.int .i64 t.weight, .int .i64 t.shown]) 2 W x.2 x.1.trials ∧ RowT 95 W x.2
  ol : W.ownsRow b1 63 2 l ld.length (ld.flatMap loadEnc)
  oR : W.ownsRow b2 3 1 r rn.length (rn.flatMap intEnc)
  os : W.ownsRow b3 3 1 s st.length (st.flatMap intEnc)
  nb : A.heap.size ≤ b1 ∧ b1 ≤ b2 ∧ b2 ≤ b3
  sl : ∀ k, l.ownBlock = some k → k < b2
  sr : ∀ k, r.ownBlock = some k → k < b3

section
variable {A W : World} {c4 c5 : List Value} {b1 b2 b3 p4 p5 : Nat} {vS l r s : Value} {L : List (Kr.Scale × Value)} {ld : List Kr.Load} {rn st : List Int}
theorem TuAt.exts {W' : World} (h : TuAt A W c4 c5 b1 b2 b3 p4 p5 vS l r s L ld rn st) (hE : W.Exts W') : TuAt A W' c4 c5 b1 b2 b3 p4 p5 vS l r s L ld rn st :=
  ⟨h.ext.trans hE, h.o4.exts hE, h.o5.exts hE, h.n4, h.n5, h.len, h.e0, h.sc.imp id (fun ⟨g, cg, h1, h2, h3, h4, cs, fr, h5⟩ => ⟨g, cg, h1, h2, h3, h4.exts hE, cs, fr, (hE.below.block g (Array.getElem?_eq_some_iff.1 h5).1).trans h5⟩), fun x hx => ⟨(h.tr x hx).1.mono hE, (h.tr x hx).2.exts hE⟩, ownsRow_exts h.ol hE, ownsRow_exts h.oR hE, ownsRow_exts h.os hE, h.nb, h.sl, h.sr⟩
/-- One scale's Id is written. -/
theorem TuAt.putS {g cg n k : Nat} {x : Kr.Scale × Value} {m : Int} (h : TuAt A W c4 c5 b1 b2 b3 p4 p5 (.slice (some ⟨g, 0, none⟩) n cg) l r s L ld rn st) (hx : L[k]? = some x) :
    TuAt A (W.setCell ⟨g, k * 7, none⟩ (.int .i64 m)) c4 c5 b1 b2 b3 p4 p5 (.slice (some ⟨g, 0, none⟩) n cg) l r s (L.set k ({ x.1 with id := m }, x.2)) ld rn st := by
  have hne : L ≠ [] := fun e => by rw [e] at hx; simp at hx
  obtain ⟨g', cg', hv, hA, hc, hb, cs, fr, hT⟩ := h.sc.resolve_left hne
  simp only [Value.slice.injEq, Option.some.injEq, Addr.mk.injEq, and_true] at hv
  obtain ⟨rfl, rfl, rfl⟩ := hv
  have hTy : RowT 59 W (.slice (some ⟨g, 0, none⟩) L.length cg) := fun b hb => by simp [Value.ownBlock] at hb; subst hb; exact ⟨cs, fr, hT⟩
  have hT2 := hTy.set ⟨g, k * 7, none⟩ (.int .i64 m) g rfl
  have hput := BlkAt.put (K := 7) (j := 0) (fun _ => rfl) hb hx (by omega) (show scaleEnc ({ x.1 with id := m }, x.2) = (scaleEnc x).set 0 (.int .i64 m) from rfl)
  refine ⟨World.Exts.setCell h.ext hA _, lays_type h.o4 hT (by decide), lays_type h.o5 hT (by decide), h.n4, h.n5, ⟨_, _, by rw [List.length_set]⟩, fun e => absurd e (by simpa using hne), .inr ⟨g, cg, by rw [List.length_set], hA, by rw [List.length_set]; exact hc, hput, hT2⟩, fun y hy => ?_, ownsRow_type h.ol hT (by decide), ownsRow_type h.oR hT (by decide), ownsRow_type h.os hT (by decide), h.nb, h.sl, h.sr⟩
  rcases List.mem_or_eq_of_mem_set hy with h1 | rfl
  · exact ⟨row_type (h.tr y h1).1 (h.tr y h1).2 hT (by decide), (h.tr y h1).2.set _ _⟩
  · have h1 := h.tr x (List.mem_of_getElem? hx)
    exact ⟨row_type h1.1 h1.2 hT (by decide), h1.2.set _ _⟩
/-- One cell of a load is written. -/
theorem TuAt.putL {g cg n k j : Nat} {x y : Kr.Load} {u : Value} (h : TuAt A W c4 c5 b1 b2 b3 p4 p5 vS (.slice (some ⟨g, 0, none⟩) n cg) r s L ld rn st) (hn : n = ld.length) (hx : ld[k]? = some x) (hj : j < 2) (hy : loadEnc y = (loadEnc x).set j u) :
    TuAt A (W.setCell ⟨g, k * 2 + j, none⟩ u) c4 c5 b1 b2 b3 p4 p5 vS (.slice (some ⟨g, 0, none⟩) n cg) r s L (ld.set k y) rn st := by
  subst hn
  obtain ⟨cs, fr, hT⟩ := lays_of_owns h.ol
  have hgA := (h.ol.lt g rfl).1
  have hb := h.nb
  have hst := (h.ol.stored (k * 2 + j) u).1
  rw [← flat_set (K := 2) (fun _ => rfl) hx hj hy] at hst
  have hlt := h.sl g rfl
  refine ⟨World.Exts.setCell h.ext (by dsimp only; omega) _, lays_type h.o4 hT (by decide), lays_type h.o5 hT (by decide), h.n4, h.n5, h.len, h.e0, h.sc.imp id (fun ⟨g', cg', h1, h2, h3, h4, cs', fr', h5⟩ => ?_), fun y hy => ⟨row_type (h.tr y hy).1 (h.tr y hy).2 hT (by decide), (h.tr y hy).2.set _ _⟩, by rw [List.length_set]; exact hst, ownsRow_apart h.oR (fun e => by have := (h.oR.lt g e).1; omega), ownsRow_apart h.os (fun e => by have := (h.os.lt g e).1; omega), h.nb, h.sl, h.sr⟩
  have hne : g ≠ g' := fun e => by subst e; rw [h5] at hT; simp at hT
  exact ⟨g', cg', h1, h2, h3, h4.set_other hne _, cs', fr', (World.heap_set_other W _ _ (Ne.symm hne)).trans h5⟩
/-- One runner is written. -/
theorem TuAt.putR {g cg n k : Nat} {x y : Int} (h : TuAt A W c4 c5 b1 b2 b3 p4 p5 vS l (.slice (some ⟨g, 0, none⟩) n cg) s L ld rn st) (hn : n = rn.length) (hx : rn[k]? = some x) :
    TuAt A (W.setCell ⟨g, k, none⟩ (.int .i64 y)) c4 c5 b1 b2 b3 p4 p5 vS l (.slice (some ⟨g, 0, none⟩) n cg) s L ld (rn.set k y) st := by
  subst hn
  obtain ⟨cs, fr, hT⟩ := lays_of_owns h.oR
  have hgA := (h.oR.lt g rfl).1
  have hb := h.nb
  have hst := (h.oR.stored k (.int .i64 y)).1
  rw [show k = k * 1 + 0 by omega, ← flat_set (K := 1) (j := 0) (y := y) (fun _ => rfl) hx (by omega) rfl, show k * 1 + 0 = k by omega] at hst
  have hlt := h.sr g rfl
  refine ⟨World.Exts.setCell h.ext (by dsimp only; omega) _, lays_type h.o4 hT (by decide), lays_type h.o5 hT (by decide), h.n4, h.n5, h.len, h.e0, h.sc.imp id (fun ⟨g', cg', h1, h2, h3, h4, cs', fr', h5⟩ => ?_), fun y hy => ⟨row_type (h.tr y hy).1 (h.tr y hy).2 hT (by decide), (h.tr y hy).2.set _ _⟩, ownsRow_apart h.ol (fun e => by have := h.sl g e; omega), by rw [List.length_set]; exact hst, ownsRow_apart h.os (fun e => by have := (h.os.lt g e).1; omega), h.nb, h.sl, h.sr⟩
  have hne : g ≠ g' := fun e => by subst e; rw [h5] at hT; simp at hT
  exact ⟨g', cg', h1, h2, h3, h4.set_other hne _, cs', fr', (World.heap_set_other W _ _ (Ne.symm hne)).trans h5⟩
/-- One stroke is written. -/
theorem TuAt.putK {g cg n k : Nat} {x y : Int} (h : TuAt A W c4 c5 b1 b2 b3 p4 p5 vS l r (.slice (some ⟨g, 0, none⟩) n cg) L ld rn st) (hn : n = st.length) (hx : st[k]? = some x) :
    TuAt A (W.setCell ⟨g, k, none⟩ (.int .i64 y)) c4 c5 b1 b2 b3 p4 p5 vS l r (.slice (some ⟨g, 0, none⟩) n cg) L ld rn (st.set k y) := by
  subst hn
  obtain ⟨cs, fr, hT⟩ := lays_of_owns h.os
  have hgA := (h.os.lt g rfl).1
  have hb := h.nb
  have hst := (h.os.stored k (.int .i64 y)).1
  rw [show k = k * 1 + 0 by omega, ← flat_set (K := 1) (j := 0) (y := y) (fun _ => rfl) hx (by omega) rfl, show k * 1 + 0 = k by omega] at hst
  refine ⟨World.Exts.setCell h.ext (by dsimp only; omega) _, lays_type h.o4 hT (by decide), lays_type h.o5 hT (by decide), h.n4, h.n5, h.len, h.e0, h.sc.imp id (fun ⟨g', cg', h1, h2, h3, h4, cs', fr', h5⟩ => ?_), fun y hy => ⟨row_type (h.tr y hy).1 (h.tr y hy).2 hT (by decide), (h.tr y hy).2.set _ _⟩, ownsRow_apart h.ol (fun e => by have := h.sl g e; omega), ownsRow_apart h.oR (fun e => by have := h.sr g e; omega), by rw [List.length_set]; exact hst, h.nb, h.sl, h.sr⟩
  have hne : g ≠ g' := fun e => by subst e; rw [h5] at hT; simp at hT
  exact ⟨g', cg', h1, h2, h3, h4.set_other hne _, cs', fr', (World.heap_set_other W _ _ (Ne.symm hne)).trans h5⟩
theorem TuAt.bay (h : TuAt A W c4 c5 b1 b2 b3 p4 p5 vS l r s L ld rn st) : BayAt W vS L := by
  by_cases hV : L = []
  · obtain ⟨q, c, rfl, hc⟩ := h.e0 hV
    subst hV
    exact ⟨⟨q, 0, 0, c, rfl, ⟨Nat.zero_le _, hc⟩, fun h0 => absurd h0 (Nat.lt_irrefl 0), fun i x hx => by simp at hx⟩, fun x hx => by simp at hx⟩
  · obtain ⟨g, cg, rfl, h2, h3, h4, cs, fr, h5⟩ := h.sc.resolve_left hV
    exact ⟨IsRow.of_blk (fun _ => rfl) h4 ⟨(Array.getElem?_eq_some_iff.1 h5).1⟩ h3, fun x hx => (h.tr x hx).1⟩
theorem TuAt.gear (h : TuAt A W c4 c5 b1 b2 b3 p4 p5 vS l r s L ld rn st) : IsRow (fun t : Kr.Load => [.int .i64 t.scale, .int .i64 t.shown]) 2 W l ld ∧ IsRow (fun x : Int => [.int .i64 x]) 1 W r rn ∧ IsRow (fun x : Int => [.int .i64 x]) 1 W s st :=
  ⟨IsRow.of_owns h.ol (fun _ _ => rfl), IsRow.of_owns h.oR (fun _ _ => rfl), IsRow.of_owns h.os (fun _ _ => rfl)⟩
/-- A cell of a twin's box is written. -/
theorem TuAt.put4 (h : TuAt A W c4 c5 b1 b2 b3 p4 p5 vS l r s L ld rn st) (i : Nat) (u : Value) : TuAt A (W.setCell ⟨p4, i, none⟩ u) (c4.set i u) c5 b1 b2 b3 p4 p5 vS l r s L ld rn st := by
  have hT : W.heap[p4]? = _ := h.o4
  refine ⟨World.Exts.setCell h.ext h.n4 _, LaysAs.set h.o4 _, lays_type h.o5 hT (by decide), h.n4, h.n5, h.len, h.e0, h.sc.imp id (fun ⟨g', cg', h1, h2, h3, h4, cs', fr', h5⟩ => ?_), fun y hy => ⟨row_type (h.tr y hy).1 (h.tr y hy).2 hT (by decide), (h.tr y hy).2.set _ _⟩, ownsRow_type h.ol hT (by decide), ownsRow_type h.oR hT (by decide), ownsRow_type h.os hT (by decide), h.nb, h.sl, h.sr⟩
  have hne : p4 ≠ g' := fun e => by subst e; rw [h5] at hT; simp at hT
  exact ⟨g', cg', h1, h2, h3, h4.set_other hne _, cs', fr', (World.heap_set_other W _ _ (Ne.symm hne)).trans h5⟩
theorem TuAt.put5 (h : TuAt A W c4 c5 b1 b2 b3 p4 p5 vS l r s L ld rn st) (i : Nat) (u : Value) : TuAt A (W.setCell ⟨p5, i, none⟩ u) c4 (c5.set i u) b1 b2 b3 p4 p5 vS l r s L ld rn st := by
  have hT : W.heap[p5]? = _ := h.o5
  refine ⟨World.Exts.setCell h.ext h.n5 _, lays_type h.o4 hT (by decide), LaysAs.set h.o5 _, h.n4, h.n5, h.len, h.e0, h.sc.imp id (fun ⟨g', cg', h1, h2, h3, h4, cs', fr', h5⟩ => ?_), fun y hy => ⟨row_type (h.tr y hy).1 (h.tr y hy).2 hT (by decide), (h.tr y hy).2.set _ _⟩, ownsRow_type h.ol hT (by decide), ownsRow_type h.oR hT (by decide), ownsRow_type h.os hT (by decide), h.nb, h.sl, h.sr⟩
  have hne : p5 ≠ g' := fun e => by subst e; rw [h5] at hT; simp at hT
  exact ⟨g', cg', h1, h2, h3, h4.set_other hne _, cs', fr', (World.heap_set_other W _ _ (Ne.symm hne)).trans h5⟩
end

/-- A twin bay in new memory, later on. -/
def NewBay (b : Nat) (W : World) (v : Value) (ts : List (Kr.Scale × Value)) : Prop :=
  ts = [] ∨ ∃ g cg, v = .slice (some ⟨g, 0, none⟩) ts.length cg ∧ b ≤ g ∧ (ts.length ≤ cg ∧ cg ≤ 9223372036854775807) ∧ BlkAt W g (ts.flatMap scaleEnc) ∧ ∀ x ∈ ts, RowOff (fun t : Kr.Trial => [.int .i64 t.weight, .int .i64 t.shown]) 2 W [g] x.2 x.1.trials
theorem NewBay.mono {b : Nat} {W W' : World} {v : Value} {ts : List (Kr.Scale × Value)} (h : NewBay b W v ts) (hE : W.Exts W') : NewBay b W' v ts :=
  h.imp id fun ⟨g, cg, h1, h2, h3, h4, h5⟩ => ⟨g, cg, h1, h2, h3, h4.exts hE, fun x hx => (h5 x hx).exts hE⟩
theorem NewBay.of {w W : World} {b : Nat} {v : Value} {ts : List (Kr.Scale × Value)} (h : BayNew w W v ts) (hb : b ≤ w.heap.size) : NewBay b W v ts :=
  h.imp id fun ⟨g, cg, h1, h2, h3, h4, h5, _⟩ => ⟨g, cg, h1, Nat.le_trans hb h2, h3, h4, h5⟩
/-- A twin gear in new memory, later on. -/
def NewGear (b : Nat) (W : World) (g : Gear) (l r s : Value) : Prop :=
  ∃ b1 b2 b3, b ≤ b1 ∧ b1 ≤ b2 ∧ b2 ≤ b3 ∧ W.ownsRow b1 63 2 l g.loads.length (g.loads.flatMap loadEnc) ∧ W.ownsRow b2 3 1 r g.runners.length (g.runners.flatMap intEnc) ∧ W.ownsRow b3 3 1 s g.strokes.length (g.strokes.flatMap intEnc) ∧ (∀ k, l.ownBlock = some k → k < b2) ∧ ∀ k, r.ownBlock = some k → k < b3
theorem NewGear.mono {b : Nat} {W W' : World} {g : Gear} {l r s : Value} (h : NewGear b W g l r s) (hE : W.Exts W') : NewGear b W' g l r s := by
  obtain ⟨b1, b2, b3, h1, h2, h3, h4, h5, h6, h7⟩ := h
  exact ⟨b1, b2, b3, h1, h2, h3, ownsRow_exts h4 hE, ownsRow_exts h5 hE, ownsRow_exts h6 hE, h7⟩
theorem NewGear.of {w W : World} {b : Nat} {g : Gear} {l r s : Value} (h : GearOwn w W g l r s) (hb : b ≤ w.heap.size) : NewGear b W g l r s := by
  obtain ⟨b1, b2, b3, h1, h2, h3, h4⟩ := h
  exact ⟨b1, b2, b3, Nat.le_trans hb h1, h2, h3, h4⟩
theorem TuAt.start {A W : World} {c4 c5 : List Value} {p4 p5 : Nat} {vS l r s : Value} {L : List (Kr.Scale × Value)} {g : Gear} (hE : A.Exts W) (h4 : LaysAs W p4 (.cells c4.toArray 24 (0, 0))) (h5 : LaysAs W p5 (.cells c5.toArray 50 (0, 0))) (n4 : A.heap.size ≤ p4) (n5 : A.heap.size ≤ p5)
    (hb : BayAt W vS L) (hT : ∀ x ∈ L, RowT 95 W x.2) (hS : OffT 59 0 W vS L) (hN : NewBay A.heap.size W vS L) (hG : NewGear A.heap.size W g l r s) : ∃ b1 b2 b3, TuAt A W c4 c5 b1 b2 b3 p4 p5 vS l r s L g.loads g.runners g.strokes := by
  obtain ⟨b1, b2, b3, k1, k2, k3, k4, k5, k6, k7, k8⟩ := hG
  have hsc : L = [] ∨ ∃ g cg, vS = .slice (some ⟨g, 0, none⟩) L.length cg ∧ A.heap.size ≤ g ∧ (L.length ≤ cg ∧ cg ≤ 9223372036854775807) ∧ BlkAt W g (L.flatMap scaleEnc) ∧ ∃ cs fr, W.heap[g]? = some (.cells cs 59 fr) := by
    by_cases hL : L = []
    · exact .inl hL
    · obtain ⟨g', cg', h1, h2, h3, h4, _⟩ := hN.resolve_left hL
      refine .inr ⟨g', cg', h1, h2, h3, h4, ?_⟩
      rcases hS.resolve_left hL with h | h
      · have := h g' (by rw [h1]; rfl); omega
      · exact h g' (by rw [h1]; rfl)
  refine ⟨b1, b2, b3, hE, h4, h5, n4, n5, ?_, fun e => ?_, hsc, fun x hx => ⟨hb.tr x hx, hT x hx⟩, k4, k5, k6, ⟨k1, k2, k3⟩, k7, k8⟩
  · obtain ⟨q, c, e⟩ := hb.row.len; exact ⟨q, c, e⟩
  · obtain ⟨q, b, o, c, h1, h2, -⟩ := hb.row.ex
    exact ⟨q, c, by rw [h1, e]; rfl, h2.2⟩
end Go.Proofs.YtfjkiemjmnnbkaaGreatDoor

/-
  Walk of 'drawn' of the outright laws of layer 4: a twin bay whose scales showed the weights of their trials with truths by choices.
-/
namespace Go.Proofs.YtfjkiemjmnnbkaaGreatDoor
open Go.RowKit Kr
set_option linter.unusedSimpArgs false

/-- A truth of scale i by choices. -/
def drawnT (by_ : List Int) (i : Nat) (s : Kr.Scale) : Int × Int := (s.gain.lo + chooseL by_ (2 * i) % (s.gain.hi - s.gain.lo + 1), s.off.lo + chooseL by_ (2 * i + 1) % (s.off.hi - s.off.lo + 1))
def drawnD (by_ : List Int) (b : List Kr.Scale) : Drawn := b.mapIdx fun i s => (s, drawnT by_ i s)
theorem drawnD_fst (by_ : List Int) (b : List Kr.Scale) : (drawnD by_ b).map Prod.fst = b := by
  refine List.ext_getElem? fun i => ?_
  unfold drawnD
  rw [List.getElem?_map, List.getElem?_mapIdx]
  cases b[i]? <;> rfl
theorem drawnD_len (by_ : List Int) (b : List Kr.Scale) : (drawnD by_ b).length = b.length := by unfold drawnD; simp
theorem drawnD_get {by_ : List Int} {b : List Kr.Scale} {i : Nat} {s : Kr.Scale} (h : b[i]? = some s) : (drawnD by_ b)[i]? = some (s, drawnT by_ i s) := by unfold drawnD; rw [List.getElem?_mapIdx, h]; rfl
theorem drawnT_ok {by_ : List Int} {i : Nat} {s : Kr.Scale} (h : right s = true) : TuneOk s (drawnT by_ i s) := by
  obtain ⟨-, -, h1, h2, -⟩ := right_bounds h
  have e1 := Int.emod_nonneg (chooseL by_ (2 * i)) (show s.gain.hi - s.gain.lo + 1 ≠ 0 by omega)
  have e2 := Int.emod_lt_of_pos (chooseL by_ (2 * i)) (show 0 < s.gain.hi - s.gain.lo + 1 by omega)
  have e3 := Int.emod_nonneg (chooseL by_ (2 * i + 1)) (show s.off.hi - s.off.lo + 1 ≠ 0 by omega)
  have e4 := Int.emod_lt_of_pos (chooseL by_ (2 * i + 1)) (show 0 < s.off.hi - s.off.lo + 1 by omega)
  unfold TuneOk drawnT
  dsimp only
  omega
theorem drawnD_ok {by_ : List Int} {b : List Kr.Scale} (h : ∀ s ∈ b, right s = true) : ∀ x ∈ drawnD by_ b, TuneOk x.1 x.2 := by
  intro x hx
  obtain ⟨i, hi⟩ := List.mem_iff_getElem?.1 hx
  unfold drawnD at hi
  rw [List.getElem?_mapIdx] at hi
  cases hb : b[i]? with
  | none => rw [hb] at hi; cases hi
  | some s => rw [hb] at hi; cases hi; exact drawnT_ok (h s (List.mem_of_getElem? hb))
def pairEnc (t : Int × Int) : List Value := [.int .i64 t.1, .int .i64 t.2]
/-- Scales with other trials, in the same slices. -/
def drX (t : Int × Int) (x : Kr.Scale × Value) : Kr.Scale × Value := (drawS t x.1, x.2)
def drL (by_ : List Int) (L : List (Kr.Scale × Value)) : List (Kr.Scale × Value) := L.mapIdx fun i x => drX (drawnT by_ i x.1) x
theorem drL_len (by_ : List Int) (L : List (Kr.Scale × Value)) : (drL by_ L).length = L.length := by unfold drL; simp
theorem drL_get {by_ : List Int} {L : List (Kr.Scale × Value)} {i : Nat} {x : Kr.Scale × Value} (h : L[i]? = some x) : (drL by_ L)[i]? = some (drX (drawnT by_ i x.1) x) := by unfold drL; rw [List.getElem?_mapIdx, h]; rfl
theorem drL_fst (by_ : List Int) (L : List (Kr.Scale × Value)) : (drL by_ L).map Prod.fst = drawB (drawnD by_ (L.map Prod.fst)) := by
  refine List.ext_getElem? fun i => ?_
  unfold drL drawB drawnD
  rw [List.getElem?_map, List.getElem?_mapIdx, List.getElem?_map, List.getElem?_mapIdx, List.getElem?_map]
  cases L[i]? <;> rfl

theorem right_trial {s : Kr.Scale} {t : Kr.Trial} (h : right s = true) (ht : t ∈ s.trials) : 0 ≤ t.weight ∧ t.weight ≤ 1000000 := by
  unfold right at h
  simp only [Bool.and_eq_true, List.all_eq_true] at h
  have := h.2 t ht
  simp [trialOk, inb] at this
  exact this.1
theorem set_same {α : Type} {l : List α} {k : Nat} {x : α} (h : l[k]? = some x) : l.set k x = l := by
  obtain ⟨hk, rfl⟩ := List.getElem?_eq_some_iff.1 h
  exact List.set_getElem_self hk
/-- The walk's memory: Lc: the scales with their trials as they read now; T: the truths so far. -/
structure DrAt (w W : World) (B g p2 p4 : Nat) (vS v6 : Value) (Lc : List (Kr.Scale × Value)) (T : List (Int × Int)) : Prop where
  ext : w.Exts W
  o2 : LaysAs W p2 (.cells [vS].toArray 24 (0, 0))
  o4 : LaysAs W p4 (.cells [.slice none 0 0].toArray 24 (0, 0))
  bk : BlkAt W g (Lc.flatMap scaleEnc)
  ty : ∃ cs fr, W.heap[g]? = some (.cells cs 59 fr)
  tr : ∃ bs : Nat → Nat, (∀ i, i < Lc.length → bs i ≤ bs (i + 1)) ∧ g < bs 0 ∧ bs Lc.length ≤ B ∧ ∀ (i : Nat) (x : Kr.Scale × Value), Lc[i]? = some x → W.ownsRow (bs i) 95 2 x.2 x.1.trials.length (x.1.trials.flatMap trialEnc) ∧ ∀ b, x.2.ownBlock = some b → b < bs (i + 1)
  tu : W.ownsRow B 61 2 v6 T.length (T.flatMap pairEnc)
  wg : w.heap.size ≤ g
  w4 : w.heap.size ≤ p4
  bw : B ≤ W.heap.size
section
variable {w W : World} {B g p2 p4 : Nat} {vS v6 : Value} {Lc : List (Kr.Scale × Value)} {T : List (Int × Int)}
theorem DrAt.exts {W' : World} (h : DrAt w W B g p2 p4 vS v6 Lc T) (hE : W.Exts W') : DrAt w W' B g p2 p4 vS v6 Lc T := by
  obtain ⟨cs, fr, h5⟩ := h.ty
  obtain ⟨bs, k1, k2, k3, k4⟩ := h.tr
  exact ⟨h.ext.trans hE, h.o2.exts hE, h.o4.exts hE, h.bk.exts hE, ⟨cs, fr, (hE.below.block g (Array.getElem?_eq_some_iff.1 h5).1).trans h5⟩, ⟨bs, k1, k2, k3, fun i x hx => ⟨ownsRow_exts (k4 i x hx).1 hE, (k4 i x hx).2⟩⟩, ownsRow_exts h.tu hE, h.wg, h.w4, Nat.le_trans h.bw hE.size⟩
theorem chain_le2 {bs : Nat → Nat} : ∀ {n i j : Nat}, (∀ i, i < n → bs i ≤ bs (i + 1)) → i ≤ j → j ≤ n → bs i ≤ bs j
  | _, i, 0, _, hij, _ => by obtain rfl : i = 0 := by omega
                             exact Nat.le_refl _
  | n, i, j + 1, h, hij, hj => by
    rcases Nat.lt_or_ge i (j + 1) with h1 | h1
    · exact Nat.le_trans (chain_le2 h (by omega) (by omega)) (h j (by omega))
    · obtain rfl : i = j + 1 := by omega
      exact Nat.le_refl _
/-- One trial of a scale is written. -/
theorem DrAt.put {k j gt n cg : Nat} {s : Kr.Scale} {t : Kr.Trial} {m : Int} (h : DrAt w W B g p2 p4 vS v6 Lc T) (hx : Lc[k]? = some (s, .slice (some ⟨gt, 0, none⟩) n cg)) (hn : n = s.trials.length) (ht : s.trials[j]? = some t) :
    DrAt w (W.setCell ⟨gt, j * 2 + 1, none⟩ (.int .i64 m)) B g p2 p4 vS v6 (Lc.set k ({ s with trials := s.trials.set j ⟨t.weight, m⟩ }, .slice (some ⟨gt, 0, none⟩) n cg)) T := by
  subst hn
  obtain ⟨bs, k1, k2, k3, k4⟩ := h.tr
  obtain ⟨o1, o2⟩ := k4 k _ hx
  dsimp only at o1 o2
  have hk := lt_of_some hx
  obtain ⟨cs, fr, hT⟩ := lays_of_owns o1
  have hst := (o1.stored (j * 2 + 1) (.int .i64 m)).1
  rw [← flat_set (K := 2) (y := ⟨t.weight, m⟩) (fun _ => rfl) ht (by omega) rfl] at hst
  have hlo := (o1.lt gt rfl).1
  have hhi := o2 gt rfl
  have hb0 := chain_le2 k1 (Nat.zero_le k) (by omega)
  have hbn := chain_le2 k1 (show k + 1 ≤ Lc.length by omega) (Nat.le_refl _)
  have hne : gt ≠ g := by omega
  have hwg := h.wg
  obtain ⟨cs5, fr5, h5⟩ := h.ty
  refine ⟨World.Exts.setCell h.ext (by dsimp only; omega) _, lays_type h.o2 hT (by decide), lays_type h.o4 hT (by decide), ?_, ⟨cs5, fr5, (World.heap_set_other W _ _ (Ne.symm hne)).trans h5⟩, ⟨bs, by simpa using k1, k2, by simpa using k3, fun i x hi => ?_⟩, ownsRow_apart h.tu (fun e => by have := (h.tu.lt gt e).1; omega), h.wg, h.w4, by simpa using h.bw⟩
  · have e : (Lc.set k (({ s with trials := s.trials.set j ⟨t.weight, m⟩ } : Kr.Scale), Value.slice (some ⟨gt, 0, none⟩) s.trials.length cg)).flatMap scaleEnc = Lc.flatMap scaleEnc := by
      rw [List.flatMap_def, List.flatMap_def]; exact congrArg List.flatten (map_set_same (f := scaleEnc) hx rfl)
    rw [e]
    exact h.bk.set_other hne _
  · by_cases hik : k = i
    · subst hik
      rw [List.getElem?_set_self hk] at hi
      cases hi
      refine ⟨?_, o2⟩
      dsimp only
      rw [List.length_set]
      exact hst
    · rw [List.getElem?_set_ne hik] at hi
      obtain ⟨q1, q2⟩ := k4 i x hi
      refine ⟨ownsRow_apart q1 (fun e => ?_), q2⟩
      have a1 := (q1.lt gt e).1
      have a2 := q2 gt e
      have hil := lt_of_some hi
      rcases Nat.lt_or_ge i k with c | c
      · have := chain_le2 k1 (show i + 1 ≤ k by omega) (by omega); omega
      · have := chain_le2 k1 (show k + 1 ≤ i by omega) (by omega); omega
/-- A truth is appended. -/
theorem DrAt.push {w' : World} {v' : Value} {t : Int × Int} (h : DrAt w W B g p2 p4 vS v6 Lc T) (hB : w.heap.size ≤ B) (hown : w'.ownsRow B 61 2 v' (T.length + 1) (T.flatMap pairEnc ++ [.int .i64 t.1, .int .i64 t.2])) (happ : AppendedW W w' v6 v' B) : DrAt w w' B g p2 p4 vS v' Lc (T ++ [t]) := by
  obtain ⟨cs, fr, h5⟩ := h.ty
  obtain ⟨bs, k1, k2, k3, k4⟩ := h.tr
  have hE : w.Exts w' := happ.exts w h.ext hB
  have hb0 := chain_le2 k1 (Nat.zero_le Lc.length) (Nat.le_refl _)
  have hgb : ∀ b < B, b < W.heap.size → w'.heap[b]? = W.heap[b]? := fun b hb hl => happ.block b hl (fun e => owns_off h.tu hb e.symm)
  have hg : W.grownBy w' v6.ownBlock := ⟨hE.below.os.trans h.ext.below.os.symm, hE.below.tape.trans h.ext.below.tape.symm, hE.below.output.trans h.ext.below.output.symm, happ.size, fun k hk hne => happ.block k hk hne⟩
  have hT6 := RowT.of_owns h.tu
  refine ⟨hE, (h.o2.appended happ (hT6.off h.o2 (by decide))).1, (h.o4.appended happ (hT6.off h.o4 (by decide))).1, ⟨fun q u hq => ?_, fun q hq => ?_⟩, ⟨cs, fr, (hgb g (by omega) (Array.getElem?_eq_some_iff.1 h5).1).trans h5⟩, ⟨bs, k1, k2, k3, fun i x hx => ⟨(k4 i x hx).1.kept hg ?_, (k4 i x hx).2⟩⟩, by rw [List.length_append, List.flatMap_append]; simpa [pairEnc] using hown, h.wg, h.w4, Nat.le_trans h.bw happ.size⟩
  · rw [World.cell?_of_block (a := ⟨g, q, none⟩) (hgb g (by omega) (Array.getElem?_eq_some_iff.1 h5).1)]; exact h.bk.cell q u hq
  · rw [World.frozen?_of_block (a := ⟨g, q, none⟩) (hgb g (by omega) (Array.getElem?_eq_some_iff.1 h5).1)]; exact h.bk.free q hq
  · cases hb : x.2.ownBlock with
    | none => exact .inl rfl
    | some b =>
      have a2 := (k4 i x hx).2 b hb
      have a3 := chain_le2 k1 (show i + 1 ≤ Lc.length from lt_of_some hx) (Nat.le_refl _)
      exact .inr fun e => owns_off h.tu (show b < B by omega) e.symm
/-- What is left at the end. -/
theorem DrAt.fin {n cg : Nat} (h : DrAt w W B g p2 p4 (.slice (some ⟨g, 0, none⟩) n cg) v6 Lc T) (hn : n = Lc.length) (hc : n ≤ cg ∧ cg ≤ 9223372036854775807) (i : Nat) (u : Value) :
    BayAt (W.setCell ⟨p4, i, none⟩ u) (.slice (some ⟨g, 0, none⟩) n cg) Lc ∧ IsRow pairEnc 2 (W.setCell ⟨p4, i, none⟩ u) v6 T ∧ w.Exts (W.setCell ⟨p4, i, none⟩ u) ∧ (∀ x ∈ Lc, RowT 95 (W.setCell ⟨p4, i, none⟩ u) x.2) ∧ RowT 59 (W.setCell ⟨p4, i, none⟩ u) (.slice (some ⟨g, 0, none⟩) n cg) ∧ RowT 61 (W.setCell ⟨p4, i, none⟩ u) v6 := by
  subst hn
  have hT : W.heap[p4]? = _ := h.o4
  obtain ⟨cs, fr, h5⟩ := h.ty
  obtain ⟨bs, k1, k2, k3, k4⟩ := h.tr
  have hne : p4 ≠ g := fun e => by subst e; rw [h5] at hT; simp at hT
  have hrow : ∀ x ∈ Lc, IsRow (fun t : Kr.Trial => [.int .i64 t.weight, .int .i64 t.shown]) 2 (W.setCell ⟨p4, i, none⟩ u) x.2 x.1.trials ∧ RowT 95 (W.setCell ⟨p4, i, none⟩ u) x.2 := fun x hx => by
    obtain ⟨m, hm⟩ := List.mem_iff_getElem?.1 hx
    have h1 := ownsRow_type (i := i) (u := u) (k4 m x hm).1 hT (by decide)
    exact ⟨IsRow.of_owns h1 (fun _ _ => rfl), RowT.of_owns h1⟩
  have h6 := ownsRow_type (i := i) (u := u) h.tu hT (by decide)
  refine ⟨⟨IsRow.of_blk (fun _ => rfl) (h.bk.set_other hne u) ⟨by simpa using (Array.getElem?_eq_some_iff.1 h5).1⟩ hc, fun x hx => (hrow x hx).1⟩, IsRow.of_owns h6 (fun _ _ => rfl), World.Exts.setCell h.ext h.w4 _, fun x hx => (hrow x hx).2, ?_, RowT.of_owns h6⟩
  exact RowT.set (fun b hb => by simp [Value.ownBlock] at hb; subst hb; exact ⟨cs, fr, h5⟩) _ _
end
theorem l04_choose_at (l : List Int) (v : Value) (i : Nat) (j : Int) (w : World) (hrow : IsRow (fun x : Int => [.int .u32 x]) 1 w v l) (hb : ∀ x ∈ l, 0 ≤ x ∧ x ≤ 4294967295) (hi : i ≤ 1000000) (hj : j = (i : Int)) :
    Calls Tryz.prog 25 #[v, .int .i64 j] w fun e w' => e = .returned (.int .i64 (chooseL l i)) ∧ w.Exts w' := by
  subst hj; exact l04_choose_any l v i w hrow hb hi

end Go.Proofs.YtfjkiemjmnnbkaaGreatDoor
