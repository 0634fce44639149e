/-
  From the form's readings to this work's words: the types of layer 4.
-/
import Derived.Test.YtiidkbjckbkjgaaGreatDoorBs
import Derived.Test.YtiidkbjckbkjgaaGreatDoorRows
import Derived.KernelRfl
namespace Go.Proofs.YtiidkbjckbkjgaaGreatDoor
open Go.RowKit Kr

section
variable {H : Type} {enc : TypeId × Value → H} {w : World} {base : Nat} {spare : Nat → Bool} {held : Bool}

theorem cells_int : (Tryz.prog).cellsOf 3 = 1 := by kernel_rfl
theorem cells_bool : (Tryz.prog).cellsOf 4 = 1 := by kernel_rfl
theorem cells_SlInt : (Tryz.prog).cellsOf 42 = 1 := by kernel_rfl
theorem reads_Ints : ReadsAs enc Tryz.prog w base spare held 42 (fun p : Value × List Int => [p.1]) (fun p => IsRow (fun x : Int => [.int .i64 x]) 1 w p.1 p.2) := fun fuel cs x h => by
  obtain ⟨p, e, hp, _⟩ := readsAs_slice Tryz.underlying42 cells_int (by decide) (fun _ => rfl) (readsAs_int Tryz.underlying3) fuel cs x h
  exact ⟨p, e, hp⟩
end
end Go.Proofs.YtiidkbjckbkjgaaGreatDoor
