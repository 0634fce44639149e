/-
  What a slice of uint32 reads as: a row of numbers of 32 bits.
-/
import Derived.Test.YtfjkiemjmnnbkaaGreatDoorRow
import Derived.Test.YtfjkiemjmnnbkaaGreatDoorHp
namespace Go.Proofs.YtfjkiemjmnnbkaaGreatDoor
open Go.RowKit Kr

section
variable {H : Type} {enc : TypeId × Value → H} {w : World} {base : Nat} {spare : Nat → Bool} {held : Bool}

theorem cells_uint32 : (Tryz.prog).cellsOf 56 = 1 := by kernel_rfl
theorem readsAs_u32 {P : Program} {t : TypeId} (ht : P.underlying t = some (.int .u32)) : ReadsAs enc P w base spare held t (fun n : Int => [.int .u32 n]) (fun n => (Lit.int .u32 n).wf = true) := fun _ _ _ h => by
  obtain ⟨n, h1, _, h2⟩ := DataW.trod_int ht h
  exact ⟨n, h1, h2⟩
theorem reads_U32s : ReadsAs enc Tryz.prog w base spare held 45 (fun p : Value × List Int => [p.1]) (fun p => IsRow (fun x : Int => [.int .u32 x]) 1 w p.1 p.2 ∧ ∀ x ∈ p.2, 0 ≤ x ∧ x ≤ 4294967295) := fun fuel cs x h => by
  obtain ⟨p, e, hp, hx⟩ := readsAs_slice Tryz.underlying45 cells_uint32 (by decide) (fun _ => rfl) (readsAs_u32 Tryz.underlying56) fuel cs x h
  exact ⟨p, e, hp, fun y hy => wf_u32 (hx y hy)⟩
end
end Go.Proofs.YtfjkiemjmnnbkaaGreatDoor
