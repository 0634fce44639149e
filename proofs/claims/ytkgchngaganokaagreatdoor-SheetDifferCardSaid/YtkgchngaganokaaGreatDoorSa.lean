/-
  Several texts in one: see the heads of its parts.
-/
import Derived.Test.YtkgchngaganokaaGreatDoorFuncs
import Derived.Test.YtkgchngaganokaaGreatDoorBs

/-
  Walks of package scale: whether numbers are in a span, whether a scale is valid.
-/
namespace Go.Proofs.YtkgchngaganokaaGreatDoor
open Go.RowKit Kr

theorem inAll_any (lo hi : Int) (xs : List Int) : inAll lo hi xs = !(xs.any fun n => !inb lo hi n) := by
  unfold inAll; rw [List.all_eq_not_any_not]

theorem row_int1 (w : World) (x : Int) (n : Nat) (hn : n = w.heap.size) : IsRow (fun x : Int => [.int .i64 x]) 1 (w.alloc (.cells #[.int .i64 x] 3)) (.slice (some ⟨n, 0, none⟩) 1 1) [x] := by
  subst hn
  exact ⟨_, w.heap.size, 0, 1, rfl, by simp, fun _ => ⟨rfl, lays_new _ _⟩, fun i y hy j u hu => by
    match i, hy with
    | 0, hy => simp at hy; subst hy; match j, hu with | 0, hu => simp at hu; subst hu; simp⟩
theorem row_int2 (w : World) (x y : Int) (n : Nat) (hn : n = w.heap.size) : IsRow (fun x : Int => [.int .i64 x]) 1 (w.alloc (.cells #[.int .i64 x, .int .i64 y] 3)) (.slice (some ⟨n, 0, none⟩) 2 2) [x, y] := by
  subst hn
  exact ⟨_, w.heap.size, 0, 2, rfl, by simp, fun _ => ⟨rfl, lays_new _ _⟩, fun i z hz j u hu => by
    match i, hz with
    | 0, hz => simp at hz; subst hz; match j, hu with | 0, hu => simp at hu; subst hu; simp
    | 1, hz => simp at hz; subst hz; match j, hu with | 0, hu => simp at hu; subst hu; simp⟩

end Go.Proofs.YtkgchngaganokaaGreatDoor

/-
  Walks of package scale: whether a scale is valid.
-/
namespace Go.Proofs.YtkgchngaganokaaGreatDoor
open Go.RowKit Kr

end Go.Proofs.YtkgchngaganokaaGreatDoor

/-
  Walks of package scale: down, bare.
-/
namespace Go.Proofs.YtkgchngaganokaaGreatDoor
open Go.RowKit Kr

theorem tdiv_cases (a b : Int) (hb : 0 < b) : (a.tdiv b = a / b ∧ 0 ≤ a.tmod b) ∨ (a.tdiv b = a / b + 1 ∧ a.tmod b < 0) := by
  rw [Int.tdiv_eq_ediv, Int.tmod_eq_emod]
  have h1 := Int.emod_nonneg a (show b ≠ 0 by omega)
  have h2 := Int.emod_lt_of_pos a hb
  by_cases h : 0 ≤ a ∨ b ∣ a
  · left; rw [if_pos h, if_pos h]; omega
  · right; rw [if_neg h, if_neg h, Int.sign_eq_one_of_pos hb]; omega

theorem ediv_bounds {a b m : Int} (hb : 0 < b) (hm : 0 ≤ m) (h1 : -m ≤ a) (h2 : a ≤ m) : -m ≤ a / b ∧ a / b ≤ m := by
  have hmb : m ≤ m * b := by
    have := Int.mul_le_mul_of_nonneg_left (show 1 ≤ b by omega) hm
    omega
  constructor
  · apply Int.le_ediv_of_mul_le hb; rw [Int.neg_mul]; omega
  · apply Int.ediv_le_of_le_mul hb; omega

theorem elem_int : ElemOf Tryz.prog 37 3 (.int .i64 0) 1 8 := ⟨Tryz.underlying37, by kernel_rfl, rfl, by decide, by decide⟩

end Go.Proofs.YtkgchngaganokaaGreatDoor
