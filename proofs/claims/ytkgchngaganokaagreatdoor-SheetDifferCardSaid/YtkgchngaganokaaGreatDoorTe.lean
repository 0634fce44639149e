/-
  Several texts in one: see the heads of its parts.
-/
import Derived.Test.YtkgchngaganokaaGreatDoorTaC
import Derived.Test.YtkgchngaganokaaGreatDoorBt
import Derived.Test.YtkgchngaganokaaGreatDoorSoT
import Derived.Test.YtkgchngaganokaaGreatDoorBs

/-
  Walks of package scale: the fewest spans of things.
-/
namespace Go.Proofs.YtkgchngaganokaaGreatDoor
open Go.RowKit Kr

/-- A slice's own block is new. -/
def RowN (n0 : Nat) (v : Value) : Prop := ∀ b, v.ownBlock = some b → n0 ≤ b
theorem RowN.le {n0 n1 : Nat} {v : Value} (h : RowN n0 v) (hn : n1 ≤ n0) : RowN n1 v := fun b hb => Nat.le_trans hn (h b hb)

end Go.Proofs.YtkgchngaganokaaGreatDoor

/-
  Walks of package scale: all truths of a scale with loads: a range over the iterator.
-/
namespace Go.Proofs.YtkgchngaganokaaGreatDoor
open Go.RowKit Go.Shelf Kr

attribute [local go_sem] Oper.semAt_some

theorem not_own {W : World} {B : Nat} {cs : Array Value} {t e : TypeId} {base size k : Nat} {v : Value} {xs : List Value} (h : W.heap[B]? = some (.cells cs t (0, 0))) (hte : t ≠ e) (hr : W.ownsRow base e size v k xs) : some B ≠ v.ownBlock := by
  intro hb
  rcases hr.2 with ⟨rfl, _⟩ | ⟨g, cap, cur, rfl, _, hg, _⟩
  · simp [Value.ownBlock] at hb
  · simp [Value.ownBlock] at hb
    subst hb
    rw [h] at hg
    simp at hg
    exact hte hg.2

theorem below_of {V W W' : World} (h : Below V.heap.size V W) (k : Below V.heap.size V W') (hs : W.heap.size ≤ W'.heap.size) : Below V.heap.size W W' :=
  ⟨k.os.trans h.os.symm, k.tape.trans h.tape.symm, k.output.trans h.output.symm, hs, fun i hi => (k.block i hi).trans (h.block i hi).symm⟩

end Go.Proofs.YtkgchngaganokaaGreatDoor

/-
  Walks of package scale: slices.Backward at scales and at spans: iterators that yield an index and an element.
-/
namespace Go.Proofs.YtkgchngaganokaaGreatDoor
open Go.RowKit Go.Shelf Kr
set_option linter.unusedSimpArgs false

attribute [local go_sem] Oper.semAt_some

/-- The first m of the indices, from the last one on. -/
def backs (n m : Nat) : List (Fin n) := (List.finRange n).reverse.take m
theorem backs_all (n : Nat) : backs n n = (List.finRange n).reverse := by unfold backs; rw [List.take_of_length_le (by simp)]
theorem backs_len (n m : Nat) : (backs n m).length = min m n := by unfold backs; simp
theorem backs_snoc {n j : Nat} (h : j < n) : backs n (n - j) = backs n (n - (j + 1)) ++ [⟨j, h⟩] := by
  unfold backs
  rw [show n - j = n - (j + 1) + 1 by omega, List.take_succ_eq_append_getElem (by simp; omega)]
  congr 1
  simp
  omega
def encBackward_Scale (xs : List (Kr.Scale × Value)) (i : Fin xs.length) : Array Value := #[.int .i64 (i.1 : Int), .agg #[.int .i64 (xs.get i).1.id, .int .i64 (xs.get i).1.step, .int .i64 (xs.get i).1.gain.lo, .int .i64 (xs.get i).1.gain.hi, .int .i64 (xs.get i).1.off.lo, .int .i64 (xs.get i).1.off.hi, (xs.get i).2]]
def encBackward_Span (xs : List (Kr.Span)) (i : Fin xs.length) : Array Value := #[.int .i64 (i.1 : Int), .agg #[.int .i64 (xs.get i).lo, .int .i64 (xs.get i).hi]]
end Go.Proofs.YtkgchngaganokaaGreatDoor

/-
  Walks of package scale: the sums of the loads on a scale; all sums of spans.
-/
namespace Go.Proofs.YtkgchngaganokaaGreatDoor
open Go.RowKit Kr

def shift (s t : Span) : Span := ⟨s.lo + t.lo, s.hi + t.hi⟩
theorem crossed_snoc (a b : List Span) (s : Span) : crossed (a ++ [s]) b = crossed a b ++ b.map (shift s) := by
  unfold crossed; rw [List.flatMap_append]; simp [shift]
theorem crossed_take_len (a b : List Span) (k m : Nat) (f : Span → Span) (hk : k < a.length) (hm : m ≤ b.length) : (crossed (a.take k) b ++ (b.take m).map f).length ≤ a.length * b.length := by
  rw [List.length_append, crossed_len, List.length_map, List.length_take, List.length_take, Nat.min_eq_left (by omega), Nat.min_eq_left hm]
  calc k * b.length + m ≤ k * b.length + b.length := by omega
    _ = (k + 1) * b.length := by rw [Nat.succ_mul]
    _ ≤ a.length * b.length := Nat.mul_le_mul_right _ (by omega)

end Go.Proofs.YtkgchngaganokaaGreatDoor
