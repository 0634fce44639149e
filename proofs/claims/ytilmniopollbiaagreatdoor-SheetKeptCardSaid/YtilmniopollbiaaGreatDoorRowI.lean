/-
  From the form's readings to this work's words: covers, lists of lists.
-/
import Derived.Test.YtilmniopollbiaaGreatDoorRow
import Derived.Test.YtilmniopollbiaaGreatDoorIb
namespace Go.Proofs.YtilmniopollbiaaGreatDoor
open Go.RowKit Kr
set_option linter.unusedVariables false
set_option linter.unusedSimpArgs false

section
variable {H : Type} {enc : TypeId × Value → H} {w : World} {base : Nat} {spare : Nat → Bool} {held : Bool}

theorem cells_u8i : (Tryz.prog).cellsOf 5 = 1 := by kernel_rfl
theorem cells_Stretch : (Tryz.prog).cellsOf 196 = 9 := by kernel_rfl
theorem cells_Bed : (Tryz.prog).cellsOf 113 = 3 := by kernel_rfl
theorem cells_Hour : (Tryz.prog).cellsOf 115 = 5 := by kernel_rfl
theorem cells_Track : (Tryz.prog).cellsOf 24 = 1 := by kernel_rfl
theorem cells_SlStretch : (Tryz.prog).cellsOf 22 = 1 := by kernel_rfl
theorem cells_SlBed : (Tryz.prog).cellsOf 25 = 1 := by kernel_rfl
theorem cells_SlHour : (Tryz.prog).cellsOf 26 = 1 := by kernel_rfl
theorem readsAs_u8i : ReadsAs enc Tryz.prog w base spare held 5 (fun n : Int => [.int .u8 n]) (fun n => 0 ≤ n ∧ n ≤ 255) := fun _ _ _ h => by
  obtain ⟨n, h1, _, h2⟩ := DataW.trod_int Tryz.underlying5 h
  exact ⟨n, h1, by simp [Lit.wf, IntKind.has] at h2; exact h2⟩
set_option maxHeartbeats 1000000 in
theorem reads_Stretch : ReadsAs enc Tryz.prog w base spare held 196 (fun s : Kr.Stretch => [.int .i64 s.id, .int .i64 s.long.lo, .int .i64 s.long.hi, .int .i64 s.fall.lo, .int .i64 s.fall.hi, .int .i64 s.radius.lo, .int .i64 s.radius.hi, .int .u8 s.side, .int .i64 s.wall]) (fun s => 0 ≤ s.side ∧ s.side ≤ 255) := fun fuel cs x h => by
  have hl := struct_len Tryz.underlying196 h cells_Stretch
  obtain ⟨a, ea, _⟩ := field_reads Tryz.underlying196 h 0 _ rfl cells_int (readsAs_int Tryz.underlying3)
  obtain ⟨b, eb, _⟩ := field_reads Tryz.underlying196 h 1 _ rfl cells_Span reads_Span
  obtain ⟨c, ec, _⟩ := field_reads Tryz.underlying196 h 2 _ rfl cells_Span reads_Span
  obtain ⟨d, ed, _⟩ := field_reads Tryz.underlying196 h 3 _ rfl cells_Span reads_Span
  obtain ⟨s, es, hs⟩ := field_reads Tryz.underlying196 h 4 _ rfl cells_u8i readsAs_u8i
  obtain ⟨f, ef, _⟩ := field_reads Tryz.underlying196 h 5 _ rfl cells_int (readsAs_int Tryz.underlying3)
  match cs, hl with
  | [c0, c1, c2, c3, c4, c5, c6, c7, c8], _ =>
    simp at ea eb ec ed es ef
    obtain ⟨eb1, eb2⟩ := eb
    obtain ⟨ec1, ec2⟩ := ec
    obtain ⟨ed1, ed2⟩ := ed
    subst ea eb1 eb2 ec1 ec2 ed1 ed2 es ef
    exact ⟨⟨a, b, c, d, s, f⟩, rfl, hs⟩
theorem reads_Bed : ReadsAs enc Tryz.prog w base spare held 113 (fun b : Kr.Bed => [.int .i64 b.thick.lo, .int .i64 b.thick.hi, .int .i64 b.sun]) (fun _ => True) := fun fuel cs x h => by
  have hl := struct_len Tryz.underlying113 h cells_Bed
  obtain ⟨b, eb, _⟩ := field_reads Tryz.underlying113 h 0 _ rfl cells_Span reads_Span
  obtain ⟨a, ea, _⟩ := field_reads Tryz.underlying113 h 1 _ rfl cells_int (readsAs_int Tryz.underlying3)
  match cs, hl with
  | [c0, c1, c2], _ =>
    simp at ea eb
    obtain ⟨eb1, eb2⟩ := eb
    subst ea eb1 eb2
    exact ⟨⟨b, a⟩, rfl, trivial⟩
theorem reads_Hour : ReadsAs enc Tryz.prog w base spare held 115 (fun h : Kr.Hour => [.int .i64 h.melt.lo, .int .i64 h.melt.hi, .int .i64 h.runs, .int .i64 h.crew, .bool h.cold]) (fun _ => True) := fun fuel cs x h => by
  have hl := struct_len Tryz.underlying115 h cells_Hour
  obtain ⟨b, eb, _⟩ := field_reads Tryz.underlying115 h 0 _ rfl cells_Span reads_Span
  obtain ⟨a, ea, _⟩ := field_reads Tryz.underlying115 h 1 _ rfl cells_int (readsAs_int Tryz.underlying3)
  obtain ⟨c, ec, _⟩ := field_reads Tryz.underlying115 h 2 _ rfl cells_int (readsAs_int Tryz.underlying3)
  obtain ⟨d, ed, _⟩ := field_reads Tryz.underlying115 h 3 _ rfl cells_bool (readsAs_bool Tryz.underlying4)
  match cs, hl with
  | [c0, c1, c2, c3, c4], _ =>
    simp at ea eb ec ed
    obtain ⟨eb1, eb2⟩ := eb
    subst ea eb1 eb2 ec ed
    exact ⟨⟨b, a, c, d⟩, rfl, trivial⟩
theorem reads_Track : ReadsAs enc Tryz.prog w base spare held 24 (fun p : Value × List Kr.Stretch => [p.1]) (fun p => IsRow (fun s : Kr.Stretch => [.int .i64 s.id, .int .i64 s.long.lo, .int .i64 s.long.hi, .int .i64 s.fall.lo, .int .i64 s.fall.hi, .int .i64 s.radius.lo, .int .i64 s.radius.hi, .int .u8 s.side, .int .i64 s.wall]) 9 w p.1 p.2 ∧ ∀ s ∈ p.2, 0 ≤ s.side ∧ s.side ≤ 255) := fun fuel cs x h => by
  have hl := struct_len Tryz.underlying24 h cells_Track
  obtain ⟨p, ep, h1, h2⟩ := field_reads Tryz.underlying24 h 0 _ rfl cells_SlStretch (readsAs_slice Tryz.underlying22 cells_Stretch (by decide) (fun _ => rfl) reads_Stretch)
  match cs, hl with
  | [c0], _ =>
    simp at ep
    subst ep
    exact ⟨p, rfl, h1, h2⟩
set_option maxHeartbeats 1000000 in
theorem reads_Cover : ReadsAs enc Tryz.prog w base spare held 30 (fun p : Kr.Cover × CoverV => [p.2.t, p.2.b, p.2.h, .int .i64 p.1.wear.lo, .int .i64 p.1.wear.hi, .int .i64 p.1.layer.lo, .int .i64 p.1.layer.hi, .int .i64 p.1.rate, .int .i64 p.1.limit, .int .i64 p.1.base])
    (fun p => CoverAt w p.1 p.2 ∧ ∀ s ∈ p.1.track, 0 ≤ s.side ∧ s.side ≤ 255) := fun fuel cs x h => by
  have hl := struct_len Tryz.underlying30 h (show (Tryz.prog).cellsOf 30 = 10 by kernel_rfl)
  obtain ⟨a, ea, ha, ha2⟩ := field_reads Tryz.underlying30 h 0 _ rfl cells_Track reads_Track
  obtain ⟨b, eb, hb, _⟩ := field_reads Tryz.underlying30 h 1 _ rfl cells_SlBed (readsAs_slice Tryz.underlying25 cells_Bed (by decide) (fun _ => rfl) reads_Bed)
  obtain ⟨c, ec, hc, _⟩ := field_reads Tryz.underlying30 h 2 _ rfl cells_SlHour (readsAs_slice Tryz.underlying26 cells_Hour (by decide) (fun _ => rfl) reads_Hour)
  obtain ⟨d, ed, _⟩ := field_reads Tryz.underlying30 h 3 _ rfl cells_Span reads_Span
  obtain ⟨f, ef, _⟩ := field_reads Tryz.underlying30 h 4 _ rfl cells_Span reads_Span
  obtain ⟨g, eg, _⟩ := field_reads Tryz.underlying30 h 5 _ rfl cells_int (readsAs_int Tryz.underlying3)
  obtain ⟨i, ei, _⟩ := field_reads Tryz.underlying30 h 6 _ rfl cells_int (readsAs_int Tryz.underlying3)
  obtain ⟨j, ej, _⟩ := field_reads Tryz.underlying30 h 7 _ rfl cells_int (readsAs_int Tryz.underlying3)
  match cs, hl with
  | [c0, c1, c2, c3, c4, c5, c6, c7, c8, c9], _ =>
    simp at ea eb ec ed ef eg ei ej
    obtain ⟨ed1, ed2⟩ := ed
    obtain ⟨ef1, ef2⟩ := ef
    subst ea eb ec ed1 ed2 ef1 ef2 eg ei ej
    exact ⟨(⟨a.2, b.2, c.2, d, f, g, i, j⟩, ⟨a.1, b.1, c.1⟩), rfl, ⟨ha, hb, hc⟩, ha2⟩
theorem reads_Pairs : ReadsAs enc Tryz.prog w base spare held 36 (fun p : List Int × Value => [p.2]) (fun p => IsRow (fun x : Int => [.int .i64 x]) 1 w p.2 p.1) := fun fuel cs x h => by
  obtain ⟨p, e, hp⟩ := reads_Ints fuel cs x h
  exact ⟨(p.2, p.1), e, hp⟩
theorem reads_Lists : ReadsAs enc Tryz.prog w base spare held 31 (fun p : Value × List (List Int × Value) => [p.1]) (fun p => ListsAt w p.1 p.2) := fun fuel cs x h => by
  obtain ⟨p, e, hp, hp2⟩ := readsAs_slice Tryz.underlying31 cells_SlInt (by decide) (fun _ => rfl) reads_Pairs fuel cs x h
  exact ⟨p, e, hp, hp2⟩
end
end Go.Proofs.YtilmniopollbiaaGreatDoor
