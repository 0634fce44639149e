/-
  slices.SortFunc over a slice that a function owns: from the shelf's words to this work's.
-/
import Derived.Test.YtkgchngaganokaaGreatDoorBs
import Derived.Sort.Grow
namespace Go
open Go.RowKit Go.Shelf Go.Lib

section
variable {W : World}
theorem exts_grow {A : World} (hE : A.Exts W) (q : Nat) (os : Array Obj) : A.Exts (Sort.grow (W.drewN q) os) := by
  have hb := hE.below
  refine .of ⟨hb.os, hb.tape, hb.output, ?_, fun i hi => ?_⟩
  · have := hb.size; simp [World.drewN]; omega
  · rw [Sort.heap_grow_old _ _ (by have := hb.size; simp [World.drewN]; omega)]
    exact hb.block i hi
end
end Go
