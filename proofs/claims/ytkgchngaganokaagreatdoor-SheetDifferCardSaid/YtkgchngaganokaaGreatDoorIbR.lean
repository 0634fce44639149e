/-
  Several texts in one: see the heads of its parts.
-/
import Derived.Test.YtkgchngaganokaaGreatDoorBs
import Derived.Test.YtkgchngaganokaaGreatDoorRows
import Derived.KernelRfl
import Derived.Test.YtkgchngaganokaaGreatDoorGaI
import Derived.Test.YtkgchngaganokaaGreatDoorGb

/-
  From the form's readings to this work's words: the types of layer 4.
-/
namespace Go.Proofs.YtkgchngaganokaaGreatDoor
open Go.RowKit Kr

section
variable {H : Type} {enc : TypeId × Value → H} {w : World} {base : Nat} {spare : Nat → Bool} {held : Bool}

theorem cells_int : (Tryz.prog).cellsOf 3 = 1 := by kernel_rfl
theorem cells_bool : (Tryz.prog).cellsOf 4 = 1 := by kernel_rfl
theorem cells_SlInt : (Tryz.prog).cellsOf 37 = 1 := by kernel_rfl
theorem reads_Ints : ReadsAs enc Tryz.prog w base spare held 37 (fun p : Value × List Int => [p.1]) (fun p => IsRow (fun x : Int => [.int .i64 x]) 1 w p.1 p.2) := fun fuel cs x h => by
  obtain ⟨p, e, hp, _⟩ := readsAs_slice Tryz.underlying37 cells_int (by decide) (fun _ => rfl) (readsAs_int Tryz.underlying3) fuel cs x h
  exact ⟨p, e, hp⟩
end
end Go.Proofs.YtkgchngaganokaaGreatDoor

/-
  Covers as they lie in memory; walks of the small functions of packages ice and track and of their references.
-/
namespace Go.Proofs.YtkgchngaganokaaGreatDoor
open Go.RowKit Kr
set_option linter.unusedSimpArgs false
set_option linter.unusedVariables false

/-- The slices of a cover. -/
structure CoverV where
  t : Value
  b : Value
  h : Value
structure CoverAt (w : World) (c : Kr.Cover) (v : CoverV) : Prop where
  tr : IsRow (fun s : Kr.Stretch => [.int .i64 s.id, .int .i64 s.long.lo, .int .i64 s.long.hi, .int .i64 s.fall.lo, .int .i64 s.fall.hi, .int .i64 s.radius.lo, .int .i64 s.radius.hi, .int .u8 s.side, .int .i64 s.wall]) 9 w v.t c.track
  bd : IsRow (fun b : Kr.Bed => [.int .i64 b.thick.lo, .int .i64 b.thick.hi, .int .i64 b.sun]) 3 w v.b c.beds
  hr : IsRow (fun h : Kr.Hour => [.int .i64 h.melt.lo, .int .i64 h.melt.hi, .int .i64 h.runs, .int .i64 h.crew, .bool h.cold]) 5 w v.h c.hours
theorem CoverAt.mono {w w' : World} {c : Kr.Cover} {v : CoverV} (h : CoverAt w c v) (hE : w.Exts w') : CoverAt w' c v := ⟨h.tr.mono hE, h.bd.mono hE, h.hr.mono hE⟩
/-- Lists of numbers lie in memory. -/
structure ListsAt (w : World) (v : Value) (ps : List (List Int × Value)) : Prop where
  row : IsRow (fun x : List Int × Value => [x.2]) 1 w v ps
  mem : ∀ x ∈ ps, IsRow (fun x : Int => [.int .i64 x]) 1 w x.2 x.1
theorem ListsAt.mono {w w' : World} {v : Value} {ps : List (List Int × Value)} (h : ListsAt w v ps) (hE : w.Exts w') : ListsAt w' v ps := ⟨h.row.mono hE, fun x hx => (h.mem x hx).mono hE⟩

end Go.Proofs.YtkgchngaganokaaGreatDoor

/-
  From the form's readings to this work's words: covers, lists of lists.
-/
namespace Go.Proofs.YtkgchngaganokaaGreatDoor
open Go.RowKit Kr
set_option linter.unusedVariables false
set_option linter.unusedSimpArgs false

section
variable {H : Type} {enc : TypeId × Value → H} {w : World} {base : Nat} {spare : Nat → Bool} {held : Bool}

theorem cells_u8i : (Tryz.prog).cellsOf 5 = 1 := by kernel_rfl
theorem readsAs_u8i : ReadsAs enc Tryz.prog w base spare held 5 (fun n : Int => [.int .u8 n]) (fun n => 0 ≤ n ∧ n ≤ 255) := fun _ _ _ h => by
  obtain ⟨n, h1, _, h2⟩ := DataW.trod_int Tryz.underlying5 h
  exact ⟨n, h1, by simp [Lit.wf, IntKind.has] at h2; exact h2⟩
theorem reads_Pairs : ReadsAs enc Tryz.prog w base spare held 37 (fun p : List Int × Value => [p.2]) (fun p => IsRow (fun x : Int => [.int .i64 x]) 1 w p.2 p.1) := fun fuel cs x h => by
  obtain ⟨p, e, hp⟩ := reads_Ints fuel cs x h
  exact ⟨(p.2, p.1), e, hp⟩
theorem reads_Lists : ReadsAs enc Tryz.prog w base spare held 22 (fun p : Value × List (List Int × Value) => [p.1]) (fun p => ListsAt w p.1 p.2) := fun fuel cs x h => by
  obtain ⟨p, e, hp, hp2⟩ := readsAs_slice Tryz.underlying22 cells_SlInt (by decide) (fun _ => rfl) reads_Pairs fuel cs x h
  exact ⟨p, e, hp, hp2⟩
end
end Go.Proofs.YtkgchngaganokaaGreatDoor
