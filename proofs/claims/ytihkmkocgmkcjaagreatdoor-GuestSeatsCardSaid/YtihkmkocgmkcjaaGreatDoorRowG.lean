/-
  From the form's readings to this work's words: the books of layer 10.
-/
import Derived.Test.YtihkmkocgmkcjaaGreatDoorRow
import Derived.Test.YtihkmkocgmkcjaaGreatDoorGc
namespace Go.Proofs.YtihkmkocgmkcjaaGreatDoor
open Go.RowKit Kr
set_option linter.unusedVariables false
set_option linter.unusedSimpArgs false

instance : Inhabited OutV := ⟨⟨default, .slice none 0 0, .slice none 0 0, .slice none 0 0, .slice none 0 0⟩⟩

section
variable {H : Type} {enc : TypeId × Value → H} {w : World} {base : Nat} {spare : Nat → Bool} {held : Bool}

theorem cells_u8 : (Tryz.prog).cellsOf 5 = 1 := by kernel_rfl
theorem cells_Refund : (Tryz.prog).cellsOf 205 = 2 := by kernel_rfl
theorem cells_Outing : (Tryz.prog).cellsOf 112 = 23 := by kernel_rfl
theorem cells_SlOuting : (Tryz.prog).cellsOf 62 = 1 := by kernel_rfl
theorem cells_SlRefund : (Tryz.prog).cellsOf 63 = 1 := by kernel_rfl
theorem readsAs_byte : ReadsAs enc Tryz.prog w base spare held 5 (fun n : Int => [.int .u8 n]) (fun n => (Lit.int .u8 n).wf = true) := fun _ _ _ h => by
  obtain ⟨n, h1, _, h2⟩ := DataW.trod_int Tryz.underlying5 h
  exact ⟨n, h1, h2⟩
theorem reads_Refund : ReadsAs enc Tryz.prog w base spare held 205 (fun r : Rfd => [.int .i64 r.days, .int .i64 r.part]) (fun _ => True) := fun fuel cs x h => by
  have hl := struct_len Tryz.underlying205 h cells_Refund
  obtain ⟨a, ea, _⟩ := field_reads Tryz.underlying205 h 0 _ rfl cells_int (readsAs_int Tryz.underlying3)
  obtain ⟨b, eb, _⟩ := field_reads Tryz.underlying205 h 1 _ rfl cells_int (readsAs_int Tryz.underlying3)
  match cs, hl with
  | [c0, c1], _ =>
    simp at ea eb
    subst ea eb
    exact ⟨⟨a, b⟩, rfl, trivial⟩
/-- What an outing's numbers are, whatever its books. -/
structure OutWf (x : OutV) : Prop where
  loads : ∀ l ∈ x.o.gear.loads, (Lit.int .i64 l.scale).wf = true
  state : (Lit.int .u8 x.o.state).wf = true
set_option maxHeartbeats 1000000 in
theorem reads_Outing : ReadsAs enc Tryz.prog w base spare held 112 (fun x : OutV => [.int .i64 x.o.id, .int .i64 x.o.pilot, .int .i64 x.o.seats, .int .i64 x.o.price, .int .i64 x.o.part, .int .i64 x.o.norm.total.lo, .int .i64 x.o.norm.total.hi, .int .i64 x.o.norm.added, .int .i64 x.o.norm.warm, .int .i64 x.o.norm.hard.lo, .int .i64 x.o.norm.hard.hi, .bool x.o.norm.stamp, x.gs, .bool x.o.weighed, x.lv, .int .i64 x.o.gear.added, .int .i64 x.o.gear.base, .int .i64 x.o.gear.jitter, x.rv, x.sv, .int .i64 x.o.gear.spread, .bool x.o.gear.stamp, .int .u8 x.o.state]) (fun x => OutAt w x ∧ OutWf x) := fun fuel cs x h => by
  have hl := struct_len Tryz.underlying112 h cells_Outing
  obtain ⟨a, ea, _⟩ := field_reads Tryz.underlying112 h 0 _ rfl cells_int (readsAs_int Tryz.underlying3)
  obtain ⟨b, eb, _⟩ := field_reads Tryz.underlying112 h 1 _ rfl cells_int (readsAs_int Tryz.underlying3)
  obtain ⟨c, ec, _⟩ := field_reads Tryz.underlying112 h 2 _ rfl cells_int (readsAs_int Tryz.underlying3)
  obtain ⟨d, ed, _⟩ := field_reads Tryz.underlying112 h 3 _ rfl cells_int (readsAs_int Tryz.underlying3)
  obtain ⟨f, ef, _⟩ := field_reads Tryz.underlying112 h 4 _ rfl cells_int (readsAs_int Tryz.underlying3)
  obtain ⟨n, en, _⟩ := field_reads Tryz.underlying112 h 5 _ rfl cells_Norm reads_Norm
  obtain ⟨g, eg, hg⟩ := field_reads Tryz.underlying112 h 6 _ rfl cells_SlInt reads_Ints
  obtain ⟨k, ek, _⟩ := field_reads Tryz.underlying112 h 7 _ rfl cells_bool (readsAs_bool Tryz.underlying4)
  obtain ⟨r, er, hr1, hr2, hr3, hr4⟩ := field_reads Tryz.underlying112 h 8 _ rfl cells_Gear reads_Gear
  obtain ⟨s, es, hs⟩ := field_reads Tryz.underlying112 h 9 _ rfl cells_u8 readsAs_byte
  match cs, hl with
  | [c0, c1, c2, c3, c4, c5, c6, c7, c8, c9, c10, c11, c12, c13, c14, c15, c16, c17, c18, c19, c20, c21, c22], _ =>
    simp at ea eb ec ed ef en eg ek er es
    obtain ⟨n1, n2, n3, n4, n5, n6, n7⟩ := en
    obtain ⟨r1, r2, r3, r4, r5, r6, r7, r8⟩ := er
    subst ea eb ec ed ef eg ek es n1 n2 n3 n4 n5 n6 n7 r1 r2 r3 r4 r5 r6 r7 r8
    exact ⟨⟨⟨a, b, c, d, f, n, g.2, k, r.1, s⟩, g.1, r.2.1, r.2.2.1, r.2.2.2⟩, rfl, ⟨hg, hr1, hr2, hr3⟩, ⟨hr4, hs⟩⟩
set_option maxHeartbeats 1000000 in
theorem reads_Books : ReadsAs enc Tryz.prog w base spare held 65 (fun p : Kr.Books × BookV × List (Scale × Value) × List OutV => [p.2.1.bay, p.2.1.cash, p.2.1.outs, p.2.1.rfds, .int .i64 p.1.fee, p.2.1.pleas])
    (fun p => BooksAt w p.1 p.2.1 p.2.2.1 p.2.2.2 ∧ ∀ x ∈ p.2.2.2, OutWf x) := fun fuel cs x h => by
  have hl := struct_len Tryz.underlying65 h (show (Tryz.prog).cellsOf 65 = 6 by kernel_rfl)
  obtain ⟨a, ea, ha⟩ := field_reads Tryz.underlying65 h 0 _ rfl cells_Bay reads_Bay
  obtain ⟨b, eb, hb⟩ := field_reads Tryz.underlying65 h 1 _ rfl cells_SlInt reads_Ints
  obtain ⟨c, ec, hc, hc2⟩ := field_reads Tryz.underlying65 h 2 _ rfl cells_SlOuting (readsAs_slice Tryz.underlying62 cells_Outing (by decide) (fun _ => rfl) reads_Outing)
  obtain ⟨d, ed, hd, _⟩ := field_reads Tryz.underlying65 h 3 _ rfl cells_SlRefund (readsAs_slice Tryz.underlying63 cells_Refund (by decide) (fun _ => rfl) reads_Refund)
  obtain ⟨f, ef, _⟩ := field_reads Tryz.underlying65 h 4 _ rfl cells_int (readsAs_int Tryz.underlying3)
  obtain ⟨g, eg, hg⟩ := field_reads Tryz.underlying65 h 5 _ rfl cells_SlInt reads_Ints
  match cs, hl with
  | [c0, c1, c2, c3, c4, c5], _ =>
    simp at ea eb ec ed ef eg
    subst ea eb ec ed ef eg
    exact ⟨(⟨a.2.map Prod.fst, b.2, c.2.map OutV.o, d.2, f, g.2⟩, ⟨a.1, b.1, c.1, d.1, g.1⟩, a.2, c.2), rfl, ⟨ha, rfl, hb, hc, rfl, fun x hx => (hc2 x hx).1, hd, hg⟩, fun x hx => (hc2 x hx).2⟩
end
end Go.Proofs.YtihkmkocgmkcjaaGreatDoor
