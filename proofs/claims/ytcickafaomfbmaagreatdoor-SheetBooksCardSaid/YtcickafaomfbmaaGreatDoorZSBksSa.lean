/-
  Several texts in one: see the heads of its parts.
-/

import Derived.Test.YtcickafaomfbmaaGreatDoorZSBksFuncs
import Derived.Test.YtcickafaomfbmaaGreatDoorZSBksBs
/-
  Walks of package scale: whether numbers are in a span, whether a scale is valid.
-/
namespace Go.Proofs.YtcickafaomfbmaaGreatDoor
open Go.RowKit Kr

theorem inAll_any (lo hi : Int) (xs : List Int) : inAll lo hi xs = !(xs.any fun n => !inb lo hi n) := by
  unfold inAll; rw [List.all_eq_not_any_not]

theorem row_int1 (w : World) (x : Int) (n : Nat) (hn : n = w.heap.size) : IsRow (fun x : Int => [.int .i64 x]) 1 (w.alloc (.cells #[.int .i64 x] 3)) (.slice (some ⟨n, 0, none⟩) 1 1) [x] := by
  subst hn
  exact ⟨_, w.heap.size, 0, 1, rfl, by simp, fun _ => ⟨rfl, lays_new _ _⟩, fun i y hy j u hu => by
    match i, hy with
    | 0, hy => simp at hy; subst hy; match j, hu with | 0, hu => simp at hu; subst hu; simp⟩
theorem row_int2 (w : World) (x y : Int) (n : Nat) (hn : n = w.heap.size) : IsRow (fun x : Int => [.int .i64 x]) 1 (w.alloc (.cells #[.int .i64 x, .int .i64 y] 3)) (.slice (some ⟨n, 0, none⟩) 2 2) [x, y] := by
  subst hn
  exact ⟨_, w.heap.size, 0, 2, rfl, by simp, fun _ => ⟨rfl, lays_new _ _⟩, fun i z hz j u hu => by
    match i, hz with
    | 0, hz => simp at hz; subst hz; match j, hu with | 0, hu => simp at hu; subst hu; simp
    | 1, hz => simp at hz; subst hz; match j, hu with | 0, hu => simp at hu; subst hu; simp⟩

end Go.Proofs.YtcickafaomfbmaaGreatDoor

/-
  Walks of package scale: whether a scale is valid.
-/
namespace Go.Proofs.YtcickafaomfbmaaGreatDoor
open Go.RowKit Kr

end Go.Proofs.YtcickafaomfbmaaGreatDoor

/-
  Walks of package scale: down, bare.
-/
namespace Go.Proofs.YtcickafaomfbmaaGreatDoor
open Go.RowKit Kr

theorem elem_int : ElemOf Tryz.prog 45 3 (.int .i64 0) 1 8 := ⟨Tryz.underlying45, by kernel_rfl, rfl, by decide, by decide⟩

end Go.Proofs.YtcickafaomfbmaaGreatDoor
