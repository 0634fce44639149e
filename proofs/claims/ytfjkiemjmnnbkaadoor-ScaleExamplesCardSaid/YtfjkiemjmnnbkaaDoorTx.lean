/-
  Several texts in one: see the heads of its parts.
-/
import Derived.Test.YtfjkiemjmnnbkaaDoorTv
import Derived.Test.YtfjkiemjmnnbkaaDoorPl

/-
  What is kept in the walk of scale.Truth: the greedy choice under way, the map of tunes.
-/
namespace Go.Proofs.YtfjkiemjmnnbkaaDoor
open Go.RowKit Go.Maps Kr
set_option linter.unusedSimpArgs false

def tuneVal (q : Part) : Value := .agg #[.int .i64 q.gain, .int .i64 q.off]
def tunedP (Z : List (Kr.Scale × Part)) : List (Int × Value) := Z.map fun x => (x.1.id, tuneVal x.2)
theorem tunedP_find {Z : List (Kr.Scale × Part)} (hu : Z.Pairwise fun a b => a.1.id < b.1.id) {x : Kr.Scale × Part} (hx : x ∈ Z) : (tunedP Z).find? (fun p => p.1 == x.1.id) = some (x.1.id, tuneVal x.2) := by
  unfold tunedP
  rw [List.find?_map]
  have h := find_uniq hu hx
  have e : ((fun p : Int × Value => p.1 == x.1.id) ∘ fun x : Kr.Scale × Part => (x.1.id, tuneVal x.2)) = fun y : Kr.Scale × Part => y.1.id == x.1.id := rfl
  rw [e, h]; rfl
/-- The greedy choice under way, in scale's order of blocks: the answer's box, what is left, the map of tunes; then the tunes' row. -/
structure GsAt (B : Nat) (V W : World) (Z : List (Kr.Scale × Part)) (ch : List Part) (left : Span) (vt : Value) : Prop where
  ext : V.Exts W
  o : LaysAs W B (.cells [vt, .slice none 0 0].toArray 64 (0, 0))
  l : LaysAs W (B + 1) (.cells [.int .i64 left.lo, .int .i64 left.hi].toArray 25 (0, 0))
  map : ∃ D, W.ownsMap Tryd.prog 3 readSelf (B + 1 + 1) ch.length D ∧ HoldsPairs D (tunedP Z)
  row : W.ownsRow (B + 1 + 1 + 1) 74 2 vt ch.length (pairCs ch)
theorem GsAt.exts {B : Nat} {V W W' : World} {Z : List (Kr.Scale × Part)} {ch : List Part} {left : Span} {vt : Value} (h : GsAt B V W Z ch left vt) (hE : W.Exts W') : GsAt B V W' Z ch left vt := by
  obtain ⟨D, h1, h2⟩ := h.map
  exact ⟨h.ext.trans hE, h.o.exts hE, h.l.exts hE, ⟨D, ownsMap_exts h1 hE, h2⟩, ownsRow_exts h.row hE⟩
theorem GsAt.cells {B : Nat} {V W : World} {Z : List (Kr.Scale × Part)} {ch : List Part} {left : Span} {vt : Value} (h : GsAt B V W Z ch left vt) : W.cell? ⟨B + 1, 0, none⟩ = some (.int .i64 left.lo) ∧ W.cell? ⟨B + 1, 1, none⟩ = some (.int .i64 left.hi) ∧ W.cell? ⟨B, 0, none⟩ = some vt ∧ W.cell? ⟨B, 1, none⟩ = some (.slice none 0 0) ∧
    W.frozen? ⟨B + 1, 0, none⟩ = false ∧ W.frozen? ⟨B + 1, 1, none⟩ = false ∧ W.frozen? ⟨B, 0, none⟩ = false ∧ W.frozen? ⟨B, 1, none⟩ = false := by
  have hl := h.l
  have ho := h.o
  unfold LaysAs at hl ho
  exact ⟨LaysAs.cell h.l 0 _ rfl, LaysAs.cell h.l 1 _ rfl, LaysAs.cell h.o 0 _ rfl, LaysAs.cell h.o 1 _ rfl, by simp [World.frozen?, hl], by simp [World.frozen?, hl], by simp [World.frozen?, ho], by simp [World.frozen?, ho]⟩
theorem GsAt.big {B : Nat} {V W : World} {Z : List (Kr.Scale × Part)} {ch : List Part} {left : Span} {vt : Value} (h : GsAt B V W Z ch left vt) : B + 1 + 1 + 1 ≤ W.heap.size := by
  obtain ⟨D, h1, _⟩ := h.map; exact h1.lt
theorem ownsMap_set {W : World} {b n : Nat} {D : DataW Value} (h : W.ownsMap Tryd.prog 3 readSelf b n D) {a : Addr} (ha : a.block ≠ b) (u : Value) : (W.setCell a u).ownsMap Tryd.prog 3 readSelf b n D := by
  obtain ⟨blk, off, al⟩ := a
  refine h.kept (row := some blk) ⟨rfl, rfl, rfl, by simp, fun k hk hne => World.heap_set_other W _ u (fun e => hne (by rw [e]))⟩ (fun e => ?_)
  cases e; exact ha rfl
theorem GsAt.left {B : Nat} {V W : World} {Z : List (Kr.Scale × Part)} {ch : List Part} {left left' : Span} {vt : Value} (hB : V.heap.size ≤ B) (h : GsAt B V W Z ch left vt) : GsAt B V ((W.setCell ⟨B + 1, 0, none⟩ (.int .i64 left'.lo)).setCell ⟨B + 1, 1, none⟩ (.int .i64 left'.hi)) Z ch left' vt := by
  obtain ⟨D, h1, h2⟩ := h.map
  exact ⟨World.Exts.setCell (World.Exts.setCell h.ext (by dsimp only; omega) _) (by dsimp only; omega) _, laysAs_other (laysAs_other h.o (by dsimp only; omega) _) (by dsimp only; omega) _, LaysAs.set (LaysAs.set h.l _) _,
    ⟨D, ownsMap_set (ownsMap_set h1 (by dsimp only; omega) _) (by dsimp only; omega) _, h2⟩, (h.row.set (by dsimp only; omega) _).set (by dsimp only; omega) _⟩
/-- A tune is appended. -/
theorem GsAt.push {B : Nat} {V W w' : World} {Z : List (Kr.Scale × Part)} {ch : List Part} {left : Span} {vt v' : Value} {q : Part} (hB : V.heap.size ≤ B) (h : GsAt B V W Z ch left vt) (hown : w'.ownsRow (B + 1 + 1 + 1) 74 2 v' (ch.length + 1) (pairCs ch ++ [.int .i64 q.gain, .int .i64 q.off]))
    (happ : AppendedW W w' vt v' (B + 1 + 1 + 1)) : V.Exts (w'.setCell ⟨B, 0, none⟩ v') ∧ LaysAs (w'.setCell ⟨B, 0, none⟩ v') B (.cells [v', .slice none 0 0].toArray 64 (0, 0)) ∧ LaysAs (w'.setCell ⟨B, 0, none⟩ v') (B + 1) (.cells [.int .i64 left.lo, .int .i64 left.hi].toArray 25 (0, 0)) ∧
      (∃ D, (w'.setCell ⟨B, 0, none⟩ v').ownsMap Tryd.prog 3 readSelf (B + 1 + 1) ch.length D ∧ HoldsPairs D (tunedP Z)) ∧ (w'.setCell ⟨B, 0, none⟩ v').ownsRow (B + 1 + 1 + 1) 74 2 v' (ch ++ [q]).length (pairCs (ch ++ [q])) := by
  have h1 := (h.l.appended happ (owns_off h.row (by omega))).1
  have h2 := (h.o.appended happ (owns_off h.row (by omega))).1
  obtain ⟨D, h3, h4⟩ := h.map
  have hVw := happ.exts V h.ext (by omega)
  have hg : W.grownBy w' vt.ownBlock := ⟨hVw.below.os.trans h.ext.below.os.symm, hVw.below.tape.trans h.ext.below.tape.symm, hVw.below.output.trans h.ext.below.output.symm, happ.size, fun k hk hne => happ.block k hk hne⟩
  refine ⟨World.Exts.setCell hVw (by dsimp only; omega) _, LaysAs.set h2 _, laysAs_other h1 (by dsimp only; omega) _, ⟨D, ownsMap_set (h3.kept hg (fun e => owns_off h.row (b := B + 1 + 1) (by omega) e.symm)) (by dsimp only; omega) _, h4⟩, ?_⟩
  rw [pairCs_snoc, List.length_append]
  exact hown.set (by dsimp only; omega) _
theorem GsAt.after {B : Nat} {V W w' : World} {Z : List (Kr.Scale × Part)} {ch : List Part} {left : Span} {vt v' : Value} (h : GsAt B V W Z ch left vt) (happ : AppendedW W w' vt v' (B + 1 + 1 + 1)) : w'.cell? ⟨B, 0, none⟩ = some vt ∧ w'.frozen? ⟨B, 0, none⟩ = false := by
  have h2 := (h.o.appended happ (owns_off h.row (by omega))).1
  have h3 := h2
  unfold LaysAs at h3
  exact ⟨LaysAs.cell h2 0 _ rfl, by simp [World.frozen?, h3]⟩
/-- The map is written. -/
theorem GsAt.tune {B : Nat} {V W w1 : World} {Z : List (Kr.Scale × Part)} {ch : List Part} {left : Span} {vt : Value} {s : Kr.Scale} {q : Part} {D : DataW Value} (hB : V.heap.size ≤ B) (hE : V.Exts W) (ho : LaysAs W B (.cells [vt, .slice none 0 0].toArray 64 (0, 0)))
    (hl : LaysAs W (B + 1) (.cells [.int .i64 left.lo, .int .i64 left.hi].toArray 25 (0, 0))) (hD : HoldsPairs D (tunedP Z)) (hrow : W.ownsRow (B + 1 + 1 + 1) 74 2 vt (ch ++ [q]).length (pairCs (ch ++ [q])))
    (hfr : ∀ x ∈ Z, x.1.id ≠ s.id) (hown : w1.ownsMap Tryd.prog 3 readSelf (B + 1 + 1) (ch.length + 1) (D.put (.int .i64 s.id) (.held (tuneVal q)))) (hg : W.grownBy w1 (some (B + 1 + 1))) : GsAt B V w1 (Z ++ [(s, q)]) (ch ++ [q]) left vt := by
  refine ⟨exts_turned hE (by omega) hg, ho.grown hg (by omega), hl.grown hg (by omega), ⟨_, by rw [List.length_append]; exact hown, ?_⟩, hrow.kept hg (.inr (fun e => owns_off hrow (b := B + 1 + 1) (by omega) e))⟩
  have := hD.put s.id (tuneVal q) (fun p hp => by obtain ⟨x, hx, rfl⟩ := List.mem_map.1 hp; exact hfr x hx)
  unfold tunedP
  rw [List.map_append]
  exact this
/-- The spans of all loads and the least weights under way: the answer's box, what lacks, the spans' box; two rows apart from each other; all else lies as it lay in V3. -/
structure SpAt (B B3 : Nat) (V V3 W : World) (vt vw vs : Value) (lacks : Int) (l : List Kr.Span) (ws : List Int) : Prop where
  ext : V.Exts W
  o : LaysAs W B (.cells [vt, vw].toArray 64 (0, 0))
  lk : LaysAs W B3 (.cells [.int .i64 lacks].toArray 3 (0, 0))
  sp : LaysAs W (B3 + 1) (.cells [vs].toArray 49 (0, 0))
  rs : W.ownsRow (B3 + 1 + 1) 25 2 vs l.length (spanCs l)
  rw : W.ownsRow (B3 + 1 + 1) 3 1 vw ws.length (intCs ws)
  ne : ∀ b, vs.ownBlock = some b → vw.ownBlock ≠ some b
  grow : V3.grownBy W (some B)
section
variable {B B3 : Nat} {V V3 W W' w' : World} {vt vw vs v' : Value} {lacks : Int} {l : List Kr.Span} {ws : List Int}
theorem SpAt.exts (h : SpAt B B3 V V3 W vt vw vs lacks l ws) (hE : W.Exts W') : SpAt B B3 V V3 W' vt vw vs lacks l ws :=
  ⟨h.ext.trans hE, h.o.exts hE, h.lk.exts hE, h.sp.exts hE, ownsRow_exts h.rs hE, ownsRow_exts h.rw hE, h.ne, h.grow.andThen (grown_exts (b := some B) hE) (fun _ hj => .inr hj)⟩
theorem SpAt.cells (h : SpAt B B3 V V3 W vt vw vs lacks l ws) : W.cell? ⟨B, 0, none⟩ = some vt ∧ W.cell? ⟨B, 1, none⟩ = some vw ∧ W.cell? ⟨B3, 0, none⟩ = some (.int .i64 lacks) ∧ W.cell? ⟨B3 + 1, 0, none⟩ = some vs ∧
    W.frozen? ⟨B, 1, none⟩ = false ∧ W.frozen? ⟨B3, 0, none⟩ = false ∧ W.frozen? ⟨B3 + 1, 0, none⟩ = false := by
  have h1 := h.o
  have h2 := h.lk
  have h3 := h.sp
  unfold LaysAs at h1 h2 h3
  exact ⟨LaysAs.cell h.o 0 _ rfl, LaysAs.cell h.o 1 _ rfl, LaysAs.cell h.lk 0 _ rfl, LaysAs.cell h.sp 0 _ rfl, by simp [World.frozen?, h1], by simp [World.frozen?, h2], by simp [World.frozen?, h3]⟩
theorem SpAt.big (h : SpAt B B3 V V3 W vt vw vs lacks l ws) : B3 + 1 + 1 ≤ W.heap.size := h.sp.lt
theorem grown_app {base : Nat} {v : Value} {e size n : Nat} {xs : List Value} (hE : V.Exts W) (hV : V.heap.size ≤ base) (_hr : W.ownsRow base e size v n xs) (happ : AppendedW W w' v v' base) : W.grownBy w' v.ownBlock := by
  have hVw := happ.exts V hE hV
  exact ⟨hVw.below.os.trans hE.below.os.symm, hVw.below.tape.trans hE.below.tape.symm, hVw.below.output.trans hE.below.output.symm, happ.size, fun k hk hne => happ.block k hk hne⟩
/-- A span is appended. -/
theorem SpAt.span {t : Kr.Span} (hB : V.heap.size ≤ B) (hB3 : B < B3) (hV3 : V3.heap.size ≤ B3) (h : SpAt B B3 V V3 W vt vw vs lacks l ws) (hown : w'.ownsRow (B3 + 1 + 1) 25 2 v' (l.length + 1) (spanCs l ++ [.int .i64 t.lo, .int .i64 t.hi])) (happ : AppendedW W w' vs v' (B3 + 1 + 1)) :
    SpAt B B3 V V3 (w'.setCell ⟨B3 + 1, 0, none⟩ v') vt vw v' lacks (l ++ [t]) ws := by
  have h1 := (h.o.appended happ (owns_off h.rs (by omega))).1
  have h2 := (h.lk.appended happ (owns_off h.rs (by omega))).1
  have h3 := (h.sp.appended happ (owns_off h.rs (by omega))).1
  have h4 := ownsRow_beside h.rw (fun b hb e => h.ne b e hb) happ
  have hg := grown_app h.ext (by omega) h.rs happ
  refine ⟨World.Exts.setCell (happ.exts V h.ext (by omega)) (by dsimp only; omega) _, laysAs_other h1 (by dsimp only; omega) _, laysAs_other h2 (by dsimp only; omega) _, LaysAs.set h3 _, ?_, h4.1.set (by dsimp only; omega) _, fun b hb e => h4.2 b e hb, ?_⟩
  · rw [spanCs_snoc, List.length_append]; exact hown.set (by dsimp only; omega) _
  · refine (h.grow.andThen hg (fun j hj => .inl ?_)).andThen (grown_set _ _ _ _) (fun j hj => .inl ?_)
    · have := (h.rs.lt j hj).1; omega
    · cases hj; omega
/-- A weight is appended. -/
theorem SpAt.weight {x : Int} (hB : V.heap.size ≤ B) (hB3 : B < B3) (hV3 : V3.heap.size ≤ B3) (h : SpAt B B3 V V3 W vt vw vs lacks l ws) (hown : w'.ownsRow (B3 + 1 + 1) 3 1 v' (ws.length + 1) (intCs ws ++ [.int .i64 x])) (happ : AppendedW W w' vw v' (B3 + 1 + 1)) :
    SpAt B B3 V V3 (w'.setCell ⟨B, 1, none⟩ v') vt v' vs lacks l (ws ++ [x]) := by
  have h1 := (h.o.appended happ (owns_off h.rw (by omega))).1
  have h2 := (h.lk.appended happ (owns_off h.rw (by omega))).1
  have h3 := (h.sp.appended happ (owns_off h.rw (by omega))).1
  have h4 := ownsRow_beside h.rs (fun b hb => h.ne b hb) happ
  have hg := grown_app h.ext (by omega) h.rw happ
  refine ⟨World.Exts.setCell (happ.exts V h.ext (by omega)) (by dsimp only; omega) _, LaysAs.set h1 _, laysAs_other h2 (by dsimp only; omega) _, laysAs_other h3 (by dsimp only; omega) _, h4.1.set (by dsimp only; omega) _, ?_, h4.2, ?_⟩
  · rw [intCs_snoc, List.length_append]; exact hown.set (by dsimp only; omega) _
  · refine (h.grow.andThen hg (fun j hj => .inl ?_)).andThen (grown_set _ _ _ _) (fun j hj => .inr ?_)
    · have := (h.rw.lt j hj).1; omega
    · cases hj; rfl
/-- What lacks is written. -/
theorem SpAt.lack {lacks' : Int} (hB : V.heap.size ≤ B) (hB3 : B < B3) (hV3 : V3.heap.size ≤ B3) (h : SpAt B B3 V V3 W vt vw vs lacks l ws) : SpAt B B3 V V3 (W.setCell ⟨B3, 0, none⟩ (.int .i64 lacks')) vt vw vs lacks' l ws := by
  refine ⟨World.Exts.setCell h.ext (by dsimp only; omega) _, laysAs_other h.o (by dsimp only; omega) _, LaysAs.set h.lk _, laysAs_other h.sp (by dsimp only; omega) _, h.rs.set (by dsimp only; omega) _, h.rw.set (by dsimp only; omega) _, h.ne, h.grow.andThen (grown_set _ _ _ _) (fun j hj => .inl ?_)⟩
  cases hj; exact hV3
theorem SpAt.afterS (h : SpAt B B3 V V3 W vt vw vs lacks l ws) (hB3 : B < B3) (happ : AppendedW W w' vs v' (B3 + 1 + 1)) : w'.cell? ⟨B, 1, none⟩ = some vw ∧ w'.frozen? ⟨B, 1, none⟩ = false ∧ w'.cell? ⟨B3, 0, none⟩ = some (.int .i64 lacks) ∧ w'.frozen? ⟨B3, 0, none⟩ = false ∧ w'.cell? ⟨B3 + 1, 0, none⟩ = some vs ∧ w'.frozen? ⟨B3 + 1, 0, none⟩ = false := by
  have h1 := (h.o.appended happ (owns_off h.rs (by omega))).1
  have h2 := (h.lk.appended happ (owns_off h.rs (by omega))).1
  have h3 := (h.sp.appended happ (owns_off h.rs (by omega))).1
  have g1 := h1
  have g2 := h2
  have g3 := h3
  unfold LaysAs at g1 g2 g3
  exact ⟨LaysAs.cell h1 1 _ rfl, by simp [World.frozen?, g1], LaysAs.cell h2 0 _ rfl, by simp [World.frozen?, g2], LaysAs.cell h3 0 _ rfl, by simp [World.frozen?, g3]⟩
theorem SpAt.afterW (h : SpAt B B3 V V3 W vt vw vs lacks l ws) (hB3 : B < B3) (happ : AppendedW W w' vw v' (B3 + 1 + 1)) : w'.cell? ⟨B, 1, none⟩ = some vw ∧ w'.frozen? ⟨B, 1, none⟩ = false ∧ w'.cell? ⟨B3, 0, none⟩ = some (.int .i64 lacks) ∧ w'.frozen? ⟨B3, 0, none⟩ = false ∧ w'.cell? ⟨B3 + 1, 0, none⟩ = some vs ∧ w'.frozen? ⟨B3 + 1, 0, none⟩ = false := by
  have h1 := (h.o.appended happ (owns_off h.rw (by omega))).1
  have h2 := (h.lk.appended happ (owns_off h.rw (by omega))).1
  have h3 := (h.sp.appended happ (owns_off h.rw (by omega))).1
  have g1 := h1
  have g2 := h2
  have g3 := h3
  unfold LaysAs at g1 g2 g3
  exact ⟨LaysAs.cell h1 1 _ rfl, by simp [World.frozen?, g1], LaysAs.cell h2 0 _ rfl, by simp [World.frozen?, g2], LaysAs.cell h3 0 _ rfl, by simp [World.frozen?, g3]⟩
theorem differ_lt {m n : Nat} (h : m < n) : Differ m n := ⟨by omega⟩
theorem differ_gt {m n : Nat} (h : n < m) : Differ m n := ⟨by omega⟩
end
end Go.Proofs.YtfjkiemjmnnbkaaDoor

/-
  slices.Backward at spans once more, where the round may write whatever is neither the row nor the iterator's box.
-/
namespace Go
open Go.RowKit
/-- A row, and a box that holds it. -/
structure RowBox {α : Type} (enc : α → List Value) (k : Nat) (t : TypeId) (Bs : Nat) (v : Value) (xs : List α) (W : World) : Prop where
  row : IsRow enc k W v xs
  box : LaysAs W Bs (.cells [v].toArray t (0, 0))
end Go
namespace Go.Proofs.YtfjkiemjmnnbkaaDoor
open Go.RowKit Go.Shelf Kr
set_option linter.unusedSimpArgs false
attribute [local go_sem] Oper.semAt_some
set_option maxRecDepth 100000 in
set_option maxHeartbeats 2000000 in
theorem Backward_Span_1_stopsK (n : Nat) (xs : List (Kr.Span)) (v : Value) (Bs : Nat) (w : World) (hrb : RowBox (fun t : Kr.Span => [.int .i64 t.lo, .int .i64 t.hi]) 2 49 Bs v xs w) :
    SeqStopsK Fence.wide n Tryd.prog 70 #[.pointer (some ⟨Bs, 0, none⟩)] (encBackward_Span xs) (fun W W' => RowBox (fun t : Kr.Span => [.int .i64 t.lo, .int .i64 t.hi]) 2 49 Bs v xs W → RowBox (fun t : Kr.Span => [.int .i64 t.lo, .int .i64 t.hi]) 2 49 Bs v xs W') (fun l => l = (List.finRange xs.length).reverse) (fun _ => True) xs.length w := by
  intro l J Jx W hW hJ hJx hY hJ0
  have hrW : RowBox (fun t : Kr.Span => [.int .i64 t.lo, .int .i64 t.hi]) 2 49 Bs v xs W := ⟨hrb.row.mono (.of hW), LaysAs.exts hrb.box (.of hW)⟩
  have hlen9 : xs.length ≤ 9223372036854775807 := by obtain ⟨_, _, _, _, _, hm, _⟩ := hrb.row.ex; omega
  obtain ⟨p0, cap0, rfl⟩ := hrb.row.len
  have h2 := LaysAs.cell hrW.box 0 _ rfl
  have hL2 := Lays.of_cell h2
  have HRW := Lib.hid hrW
  clear hrW
  have HY := Lib.hid hY
  clear hY
  have HJ0 := Lib.hid hJ0
  clear hJ0
  clear hrb hJx hJ hW
  show CallsIn Fence.wide n Tryd.prog 70 #[.func (.yield l) #[] #[], .pointer (some ⟨Bs, 0, none⟩)] _ _
  refine callsIn_of_wp Tryd.func70 rfl trivial ?_ rfl
  simp only [Tryd.ntmps70, List.size_toArray, List.length_cons, List.length_nil, Nat.reduceAdd, Nat.reduceSub, Array.replicate_succ, Array.replicate_zero, List.push_toArray, List.append_toArray, List.nil_append, List.cons_append]
  gi_wp2
  gi_loopw [3] (fun i wr => ∃ (j : Nat), j ≤ xs.length ∧ i = .int .i64 ((j : Int) - 1) ∧ Hid (RowBox (fun t : Kr.Span => [.int .i64 t.lo, .int .i64 t.hi]) 2 49 Bs (.slice p0 xs.length cap0) xs wr) ∧ Hid (J (backs xs.length (xs.length - j)) wr)) (fun i _ => (intOf i + 1).toNat)
  case atStart => exact ⟨xs.length, Nat.le_refl _, rfl, Lib.hid HRW.out, Lib.hid (by rw [Nat.sub_self]; exact HJ0.out)⟩
  case round =>
    obtain ⟨j, hj, rfl, HB, HJ⟩ := hrel
    have g1 := LaysAs.cell HB.out.box 0 _ rfl
    have hLg := Lays.of_cell g1
    rcases j with _ | j
    · have e0 : ((0 : Nat) : Int) - 1 = -1 := rfl
      rw [e0]
      clear e0
      have hJ9 := HJ.out
      rw [Nat.sub_zero, backs_all] at hJ9
      have HJ9 := Lib.hid hJ9
      clear hJ9
      gi_wp2
      go_end0
      exact ⟨⟨_, rfl⟩, .inl ⟨_, rfl, HJ9.out⟩⟩
    · obtain ⟨x, hx⟩ := some_of_lt (xs := xs) (k := j) (by omega)
      obtain ⟨p, b, oo, cap, e, hm, hp, hc⟩ := HB.out.row.ex
      simp only [Value.slice.injEq] at e
      obtain ⟨rfl, -, rfl⟩ := e
      obtain ⟨rfl, hlay⟩ := hp (by omega)
      have hcs := hc j x hx
      have c0 := hcs 0 _ rfl
      have c1 := hcs 1 _ rfl
      simp only [Nat.add_zero] at c0 c1
      have hLc := Lays.of_cell c0
      have hget : xs.get ⟨j, by omega⟩ = x := (List.getElem?_eq_some_iff.1 hx).2
      have hbk := backs_snoc (n := xs.length) (j := j) (by omega)
      obtain ⟨fn, tmps, assign, body, hy, hR⟩ := HY.out (backs xs.length (xs.length - (j + 1))) ⟨j, by omega⟩ _ HJ.out (by rw [backs_len]; omega)
      dsimp only [encBackward_Span] at hy
      rw [hget] at hy
      rw [← hbk] at hR
      have HBK := Lib.hid hbk
      clear hbk
      clear hx hcs hget hp hc
      gi_wp2
      refine ⟨fun e => (by cases e), hR.mono ?_⟩
      rintro e W3 (⟨rfl, hJ3, hk3⟩ | ⟨rfl, hJx3⟩)
      · have HB3 := Lib.hid (hk3 HB.out)
        clear hk3
        gi_wp2
        go_roundw
        case rel => exact ⟨j, by omega, by go_num, HB3, Lib.hid hJ3⟩
        case measure => simp [intOf] <;> omega
      · gi_wp2
        refine bodyPost_ret (results_none rfl _ _ _) rfl ?_
        exact ⟨⟨_, rfl⟩, .inr ⟨_, trivial, hJx3⟩⟩
section
variable {B B3 : Nat} {V V3 W W' w' : World} {vt vw vs v' : Value} {lacks : Int} {l : List Kr.Span} {ws : List Int}
theorem SpAt.own (hB : V.heap.size ≤ B) (hB3 : B < B3) (hV3 : V3.heap.size ≤ B3) (h : SpAt B B3 V V3 W vt vw vs lacks l ws) {row : Option Nat} (hg : W.grownBy W' row) (hrow : ∀ r, row = some r → B3 ≤ r ∧ ∃ o : Obj, W.heap[r]? = some o ∧ o.isCells = false) : SpAt B B3 V V3 W' vt vw vs lacks l ws := by
  have hr2 := fun r e => (hrow r e).2
  have hown : ∀ {v : Value} {e : TypeId} {size n : Nat} {xs : List Value}, W.ownsRow (B3 + 1 + 1) e size v n xs → W'.ownsRow (B3 + 1 + 1) e size v n xs := by
    intro v e size n xs hr
    refine hr.kept hg ?_
    rcases hr.2 with ⟨rfl, _⟩ | ⟨g, cap, cur, rfl, _, hgc, _⟩
    · exact .inl rfl
    · refine .inr (fun e2 => ?_)
      obtain ⟨o, ho, hc⟩ := hr2 g e2.symm
      rw [hgc] at ho; cases ho; cases hc
  refine ⟨.of (h.ext.below.grown hg h.ext.below.size (fun k e => by have := (hrow k e).1; omega)), h.o.keep hg hr2, h.lk.keep hg hr2, h.sp.keep hg hr2, hown h.rs, hown h.rw, h.ne, h.grow.andThen hg (fun j hj => .inl (by have := (hrow j hj).1; omega))⟩
theorem intCs_map (l : List Int) : intCs l = l.map (Value.int .i64) := by
  induction l with
  | nil => rfl
  | cons a l ih => simp only [intCs, List.flatMap_cons, List.map_cons] at ih ⊢; rw [ih]; rfl
theorem SpAt.at_ {g c i n : Nat} (h : SpAt B B3 V V3 W vt (.slice (some ⟨g, 0, none⟩) n c) vs lacks l ws) (hn : n = ws.length) (hi : i < ws.length) : W.cell? ⟨g, i, none⟩ = some (.int .i64 (ws.getD i 0)) ∧ W.frozen? ⟨g, i, none⟩ = false := by
  subst hn
  refine ⟨?_, h.rw.frozenAt i⟩
  rw [h.rw.cellAt _ (by omega), intCs_map, List.getElem?_map, List.getD_eq_getElem?_getD, List.getElem?_eq_getElem hi]
  rfl
/-- A weight is written. -/
theorem SpAt.store {g c i n : Nat} {x : Int} (hB : V.heap.size ≤ B) (hB3 : B < B3) (hV3 : V3.heap.size ≤ B3) (h : SpAt B B3 V V3 W vt (.slice (some ⟨g, 0, none⟩) n c) vs lacks l ws) (hn : n = ws.length) : SpAt B B3 V V3 (W.setCell ⟨g, i, none⟩ (.int .i64 x)) vt (.slice (some ⟨g, 0, none⟩) n c) vs lacks l (ws.set i x) := by
  subst hn
  have hg := (h.rw.lt g rfl).1
  have hset : (intCs ws).set i (.int .i64 x) = intCs (ws.set i x) := by
    have e : ∀ l : List Int, intCs l = l.map (Value.int .i64) := fun l => by
      induction l with
      | nil => rfl
      | cons a l ih => simp only [intCs, List.flatMap_cons, List.map_cons] at ih ⊢; rw [ih]; rfl
    rw [e, e, List.map_set]
  refine ⟨World.Exts.setCell h.ext (by dsimp only; omega) _, laysAs_other h.o (by dsimp only; omega) _, laysAs_other h.lk (by dsimp only; omega) _, laysAs_other h.sp (by dsimp only; omega) _, ?_, ?_, h.ne, h.grow.andThen (grown_set _ _ _ _) (fun j hj => .inl ?_)⟩
  · exact h.rs.kept (grown_set W g i (.int .i64 x)) (.inr (fun e => h.ne g e rfl))
  · rw [← hset, List.length_set]
    exact (h.rw.stored _ _).1
  · cases hj; omega
end
end Go.Proofs.YtfjkiemjmnnbkaaDoor
