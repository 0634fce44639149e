/-
  Walks of package guest and of its reference: in, within, Has.
-/
import Derived.Test.YtihkmkocgmkcjaaGreatDoorGa
import Derived.Test.YtihkmkocgmkcjaaGreatDoorSa
namespace Go.Proofs.YtihkmkocgmkcjaaGreatDoor
open Go.RowKit Kr
set_option linter.unusedSimpArgs false

theorem guest_in_1_any (n lo hi : Int) (b1 b2 : Nat) (w : World) (h1 : w.cell? ⟨b1, 0, none⟩ = some (.int .i64 lo)) (h2 : w.cell? ⟨b2, 0, none⟩ = some (.int .i64 hi)) :
    Calls Tryz.prog 125 #[.int .i64 n, .pointer (some ⟨b1, 0, none⟩), .pointer (some ⟨b2, 0, none⟩)] w fun e w' => e = .returned (.bool (!inb lo hi n)) ∧ w.Exts w' := by
  by_cases h : n < lo
  all_goals
    go_enter Tryz.func125, Tryz.ntmps125
    go_wp2
    go_ret
    exact ⟨congrArg Ending.returned (congrArg Value.bool (by unfold inb; rw [Bool.eq_iff_iff]; simp; omega)), exq⟩

set_option maxHeartbeats 400000 in
theorem guest_in_any (lo hi : Int) (v : Value) (xs : List Int) (w : World) (hrow : IsRow (fun x : Int => [.int .i64 x]) 1 w v xs) :
    Calls Tryz.prog 74 #[.int .i64 lo, .int .i64 hi, v] w fun e w' => e = .returned (.bool (inAll lo hi xs)) ∧ w.Exts w' := by
  have HR := Lib.hid hrow
  clear hrow
  go_enter Tryz.func74, Tryz.ntmps74
  go_wp2_with (go_at_call 91; refine (ContainsFunc_int_any xs (fun n => !inb lo hi n) _ _ v _ ((HR.out.alloc _).alloc _) (enters_of Tryz.func125 (by kernel_rfl) rfl) (answers2 fun x _ W hW => guest_in_1_any x lo hi _ _ W (hW.cell (by simp)) (hW.cell (by simp)))).mono ?_; rintro e w' ⟨rfl, X2, rfl⟩)
  go_ret
  exact ⟨by rw [inAll_any]; rfl, exq⟩

set_option maxHeartbeats 400000 in
theorem r10_within_any (n lo hi : Int) (w : World) : Calls Tryz.prog 76 #[.int .i64 n, .int .i64 lo, .int .i64 hi] w fun e w' => e = .returned (.bool (inb lo hi n)) ∧ w.Exts w' := by
  rcases Int.lt_or_le n lo with h | h
  · have e : inb lo hi n = false := by unfold inb; simp; omega
    rw [e]
    go_enter Tryz.func76, Tryz.ntmps76
    go_wp2
    go_ret
    exact ⟨rfl, exq⟩
  · have e : inb lo hi n = decide (n ≤ hi) := by unfold inb; simp; omega
    rw [e]
    go_enter Tryz.func76, Tryz.ntmps76
    go_wp2
    go_ret
    exact ⟨rfl, exq⟩

theorem any_part {l : List Int} {k : Nat} {x n : Int} (h : l[k]? = some x) : ((l.take (k + 1)).any fun y => y == n) = ((l.take k).any (fun y => y == n) || x == n) := by
  rw [take_snoc h]; simp

end Go.Proofs.YtihkmkocgmkcjaaGreatDoor
