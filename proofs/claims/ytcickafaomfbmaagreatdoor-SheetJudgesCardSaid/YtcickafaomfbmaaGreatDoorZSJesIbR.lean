/-
  Several texts in one: see the heads of its parts.
-/

import Derived.Test.YtcickafaomfbmaaGreatDoorZSJesBs
import Derived.Test.YtcickafaomfbmaaGreatDoorRows
import Derived.KernelRfl
import Derived.Test.YtcickafaomfbmaaGreatDoorZSJesGaI
import Derived.Test.YtcickafaomfbmaaGreatDoorZSJesSa
/-
  From the form's readings to this work's words: the types of layer 4.
-/
namespace Go.Proofs.YtcickafaomfbmaaGreatDoor
open Go.RowKit Kr

section
variable {H : Type} {enc : TypeId × Value → H} {w : World} {base : Nat} {spare : Nat → Bool} {held : Bool}

theorem cells_int : (Tryz.prog).cellsOf 3 = 1 := by kernel_rfl
theorem cells_bool : (Tryz.prog).cellsOf 4 = 1 := by kernel_rfl
theorem cells_Span : (Tryz.prog).cellsOf 28 = 2 := by kernel_rfl
theorem cells_Trial : (Tryz.prog).cellsOf 237 = 2 := by kernel_rfl
theorem cells_Load : (Tryz.prog).cellsOf 195 = 2 := by kernel_rfl
theorem cells_Scale : (Tryz.prog).cellsOf 110 = 7 := by kernel_rfl
theorem cells_Gear : (Tryz.prog).cellsOf 55 = 8 := by kernel_rfl
theorem cells_Bay : (Tryz.prog).cellsOf 52 = 1 := by kernel_rfl
theorem cells_SlTrial : (Tryz.prog).cellsOf 108 = 1 := by kernel_rfl
theorem cells_SlLoad : (Tryz.prog).cellsOf 53 = 1 := by kernel_rfl
theorem cells_SlInt : (Tryz.prog).cellsOf 45 = 1 := by kernel_rfl
theorem cells_SlScale : (Tryz.prog).cellsOf 50 = 1 := by kernel_rfl

theorem reads_Trial : ReadsAs enc Tryz.prog w base spare held 237 (fun t : Trial => [.int .i64 t.weight, .int .i64 t.shown]) (fun _ => True) := fun fuel cs x h => by
  have hl := struct_len Tryz.underlying237 h cells_Trial
  obtain ⟨a, ea, _⟩ := field_reads Tryz.underlying237 h 0 _ rfl cells_int (readsAs_int Tryz.underlying3)
  obtain ⟨b, eb, _⟩ := field_reads Tryz.underlying237 h 1 _ rfl cells_int (readsAs_int Tryz.underlying3)
  match cs, hl with
  | [c0, c1], _ =>
    simp at ea eb
    subst ea eb
    exact ⟨⟨a, b⟩, rfl, trivial⟩
theorem reads_Load : ReadsAs enc Tryz.prog w base spare held 195 (fun t : Load => [.int .i64 t.scale, .int .i64 t.shown]) (fun l => (Lit.int .i64 l.scale).wf = true) := fun fuel cs x h => by
  have hl := struct_len Tryz.underlying195 h cells_Load
  obtain ⟨a, ea, ha⟩ := field_reads Tryz.underlying195 h 0 _ rfl cells_int (readsAs_int Tryz.underlying3)
  obtain ⟨b, eb, _⟩ := field_reads Tryz.underlying195 h 1 _ rfl cells_int (readsAs_int Tryz.underlying3)
  match cs, hl with
  | [c0, c1], _ =>
    simp at ea eb
    subst ea eb
    exact ⟨⟨a, b⟩, rfl, ha⟩
theorem reads_Span : ReadsAs enc Tryz.prog w base spare held 28 (fun t : Span => [.int .i64 t.lo, .int .i64 t.hi]) (fun _ => True) := fun fuel cs x h => by
  have hl := struct_len Tryz.underlying28 h cells_Span
  obtain ⟨a, ea, _⟩ := field_reads Tryz.underlying28 h 0 _ rfl cells_int (readsAs_int Tryz.underlying3)
  obtain ⟨b, eb, _⟩ := field_reads Tryz.underlying28 h 1 _ rfl cells_int (readsAs_int Tryz.underlying3)
  match cs, hl with
  | [c0, c1], _ =>
    simp at ea eb
    subst ea eb
    exact ⟨⟨a, b⟩, rfl, trivial⟩
theorem reads_Trials : ReadsAs enc Tryz.prog w base spare held 108 (fun p : Value × List Trial => [p.1]) (fun p => IsRow (fun t : Kr.Trial => [.int .i64 t.weight, .int .i64 t.shown]) 2 w p.1 p.2) := fun fuel cs x h => by
  obtain ⟨p, e, hp, _⟩ := readsAs_slice Tryz.underlying108 cells_Trial (by decide) (fun _ => rfl) reads_Trial fuel cs x h
  exact ⟨p, e, hp⟩
theorem reads_Scale : ReadsAs enc Tryz.prog w base spare held 110 (fun x : Scale × Value => [.int .i64 x.1.id, .int .i64 x.1.step, .int .i64 x.1.gain.lo, .int .i64 x.1.gain.hi, .int .i64 x.1.off.lo, .int .i64 x.1.off.hi, x.2]) (fun x => IsRow (fun t : Kr.Trial => [.int .i64 t.weight, .int .i64 t.shown]) 2 w x.2 x.1.trials) := fun fuel cs x h => by
  have hl := struct_len Tryz.underlying110 h cells_Scale
  obtain ⟨a, ea, _⟩ := field_reads Tryz.underlying110 h 0 _ rfl cells_int (readsAs_int Tryz.underlying3)
  obtain ⟨b, eb, _⟩ := field_reads Tryz.underlying110 h 1 _ rfl cells_int (readsAs_int Tryz.underlying3)
  obtain ⟨g, eg, _⟩ := field_reads Tryz.underlying110 h 2 _ rfl cells_Span reads_Span
  obtain ⟨o, eo, _⟩ := field_reads Tryz.underlying110 h 3 _ rfl cells_Span reads_Span
  obtain ⟨p, ep, hp⟩ := field_reads Tryz.underlying110 h 4 _ rfl cells_SlTrial reads_Trials
  match cs, hl with
  | [c0, c1, c2, c3, c4, c5, c6], _ =>
    simp at ea eb eg eo ep
    obtain ⟨eg1, eg2⟩ := eg
    obtain ⟨eo1, eo2⟩ := eo
    subst ea eb eg1 eg2 eo1 eo2 ep
    exact ⟨(⟨a, b, g, o, p.2⟩, p.1), rfl, hp⟩
theorem reads_Bay : ReadsAs enc Tryz.prog w base spare held 52 (fun p : Value × List (Scale × Value) => [p.1]) (fun p => BayAt w p.1 p.2) := fun fuel cs x h => by
  have hl := struct_len Tryz.underlying52 h cells_Bay
  obtain ⟨p, ep, h1, h2⟩ := field_reads Tryz.underlying52 h 0 _ rfl cells_SlScale (readsAs_slice Tryz.underlying50 cells_Scale (by decide) (fun _ => rfl) reads_Scale)
  match cs, hl with
  | [c0], _ =>
    simp at ep
    subst ep
    exact ⟨p, rfl, h1, h2⟩
theorem reads_Ints : ReadsAs enc Tryz.prog w base spare held 45 (fun p : Value × List Int => [p.1]) (fun p => IsRow (fun x : Int => [.int .i64 x]) 1 w p.1 p.2) := fun fuel cs x h => by
  obtain ⟨p, e, hp, _⟩ := readsAs_slice Tryz.underlying45 cells_int (by decide) (fun _ => rfl) (readsAs_int Tryz.underlying3) fuel cs x h
  exact ⟨p, e, hp⟩
theorem reads_Gear : ReadsAs enc Tryz.prog w base spare held 55 (fun x : Gear × Value × Value × Value => [x.2.1, .int .i64 x.1.added, .int .i64 x.1.base, .int .i64 x.1.jitter, x.2.2.1, x.2.2.2, .int .i64 x.1.spread, .bool x.1.stamp])
    (fun x => IsRow (fun t : Kr.Load => [.int .i64 t.scale, .int .i64 t.shown]) 2 w x.2.1 x.1.loads ∧ IsRow (fun x : Int => [.int .i64 x]) 1 w x.2.2.1 x.1.runners ∧ IsRow (fun x : Int => [.int .i64 x]) 1 w x.2.2.2 x.1.strokes ∧ ∀ l ∈ x.1.loads, (Lit.int .i64 l.scale).wf = true) := fun fuel cs x h => by
  have hl := struct_len Tryz.underlying55 h cells_Gear
  obtain ⟨a, ea, ha, hw⟩ := field_reads Tryz.underlying55 h 0 _ rfl cells_SlLoad (readsAs_slice Tryz.underlying53 cells_Load (by decide) (fun _ => rfl) reads_Load)
  obtain ⟨b, eb, _⟩ := field_reads Tryz.underlying55 h 1 _ rfl cells_int (readsAs_int Tryz.underlying3)
  obtain ⟨c, ec, _⟩ := field_reads Tryz.underlying55 h 2 _ rfl cells_int (readsAs_int Tryz.underlying3)
  obtain ⟨d, ed, _⟩ := field_reads Tryz.underlying55 h 3 _ rfl cells_int (readsAs_int Tryz.underlying3)
  obtain ⟨r, er, hr⟩ := field_reads Tryz.underlying55 h 4 _ rfl cells_SlInt reads_Ints
  obtain ⟨s, es, hs⟩ := field_reads Tryz.underlying55 h 5 _ rfl cells_SlInt reads_Ints
  obtain ⟨p, ep, _⟩ := field_reads Tryz.underlying55 h 6 _ rfl cells_int (readsAs_int Tryz.underlying3)
  obtain ⟨q, eq, _⟩ := field_reads Tryz.underlying55 h 7 _ rfl cells_bool (readsAs_bool Tryz.underlying4)
  match cs, hl with
  | [c0, c1, c2, c3, c4, c5, c6, c7], _ =>
    simp at ea eb ec ed er es ep eq
    subst ea eb ec ed er es ep eq
    exact ⟨(⟨a.2, b, c, d, r.2, s.2, p, q⟩, a.1, r.1, s.1), rfl, ha, hr, hs, hw⟩
theorem cells_Norm : (Tryz.prog).cellsOf 57 = 7 := by kernel_rfl
/-- All numbers of a norm are of 64 bits. -/
structure NormWf (n : Norm) : Prop where
  tlo : (Lit.int .i64 n.total.lo).wf = true
  thi : (Lit.int .i64 n.total.hi).wf = true
  added : (Lit.int .i64 n.added).wf = true
  warm : (Lit.int .i64 n.warm).wf = true
  hlo : (Lit.int .i64 n.hard.lo).wf = true
  hhi : (Lit.int .i64 n.hard.hi).wf = true
theorem reads_SpanW : ReadsAs enc Tryz.prog w base spare held 28 (fun t : Span => [.int .i64 t.lo, .int .i64 t.hi]) (fun s => (Lit.int .i64 s.lo).wf = true ∧ (Lit.int .i64 s.hi).wf = true) := fun fuel cs x h => by
  have hl := struct_len Tryz.underlying28 h cells_Span
  obtain ⟨a, ea, ha⟩ := field_reads Tryz.underlying28 h 0 _ rfl cells_int (readsAs_int Tryz.underlying3)
  obtain ⟨b, eb, hb⟩ := field_reads Tryz.underlying28 h 1 _ rfl cells_int (readsAs_int Tryz.underlying3)
  match cs, hl with
  | [c0, c1], _ =>
    simp at ea eb
    subst ea eb
    exact ⟨⟨a, b⟩, rfl, ha, hb⟩
theorem reads_Norm : ReadsAs enc Tryz.prog w base spare held 57 (fun n : Norm => [.int .i64 n.total.lo, .int .i64 n.total.hi, .int .i64 n.added, .int .i64 n.warm, .int .i64 n.hard.lo, .int .i64 n.hard.hi, .bool n.stamp]) NormWf := fun fuel cs x h => by
  have hl := struct_len Tryz.underlying57 h cells_Norm
  obtain ⟨t, et, h1, h2⟩ := field_reads Tryz.underlying57 h 0 _ rfl cells_Span reads_SpanW
  obtain ⟨a, ea, h3⟩ := field_reads Tryz.underlying57 h 1 _ rfl cells_int (readsAs_int Tryz.underlying3)
  obtain ⟨b, eb, h4⟩ := field_reads Tryz.underlying57 h 2 _ rfl cells_int (readsAs_int Tryz.underlying3)
  obtain ⟨u, eu, h5, h6⟩ := field_reads Tryz.underlying57 h 3 _ rfl cells_Span reads_SpanW
  obtain ⟨q, eq, _⟩ := field_reads Tryz.underlying57 h 4 _ rfl cells_bool (readsAs_bool Tryz.underlying4)
  match cs, hl with
  | [c0, c1, c2, c3, c4, c5, c6], _ =>
    simp at et ea eb eu eq
    obtain ⟨et1, et2⟩ := et
    obtain ⟨eu1, eu2⟩ := eu
    subst et1 et2 ea eb eu1 eu2 eq
    exact ⟨⟨t, a, b, u, q⟩, rfl, h1, h2, h3, h4, h5, h6⟩
end
end Go.Proofs.YtcickafaomfbmaaGreatDoor

/-
  Covers as they lie in memory; walks of the small functions of packages ice and track and of their references.
-/
namespace Go.Proofs.YtcickafaomfbmaaGreatDoor
open Go.RowKit Kr
set_option linter.unusedSimpArgs false
set_option linter.unusedVariables false

/-- Lists of numbers lie in memory. -/
structure ListsAt (w : World) (v : Value) (ps : List (List Int × Value)) : Prop where
  row : IsRow (fun x : List Int × Value => [x.2]) 1 w v ps
  mem : ∀ x ∈ ps, IsRow (fun x : Int => [.int .i64 x]) 1 w x.2 x.1
theorem ListsAt.mono {w w' : World} {v : Value} {ps : List (List Int × Value)} (h : ListsAt w v ps) (hE : w.Exts w') : ListsAt w' v ps := ⟨h.row.mono hE, fun x hx => (h.mem x hx).mono hE⟩

end Go.Proofs.YtcickafaomfbmaaGreatDoor

/-
  From the form's readings to this work's words: covers, lists of lists.
-/
namespace Go.Proofs.YtcickafaomfbmaaGreatDoor
open Go.RowKit Kr
set_option linter.unusedVariables false
set_option linter.unusedSimpArgs false

section
variable {H : Type} {enc : TypeId × Value → H} {w : World} {base : Nat} {spare : Nat → Bool} {held : Bool}

end
end Go.Proofs.YtcickafaomfbmaaGreatDoor
