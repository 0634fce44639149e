/-
  Several texts in one: see the heads of its parts.
-/
import Derived.Test.YtkgchngaganokaaGreatDoorVnP
import Derived.Test.YtkgchngaganokaaGreatDoorIuQ
import Derived.Test.YtkgchngaganokaaGreatDoorSa
import Derived.Test.YtkgchngaganokaaGreatDoorBt

/-
  Walks of the reference of sheets: the numbers of a row.
-/
namespace Go.Proofs.YtkgchngaganokaaGreatDoor
open Go.RowKit Kr
set_option linter.unusedSimpArgs false
set_option linter.unusedVariables false

theorem not_of_lt_idx {c : UInt8} : ∀ {l : List UInt8} {i : Nat}, i < l.idxOf c → l[i]? ≠ some c
  | [], i, h => by simp
  | b :: l, i, h => by
    rw [List.idxOf_cons] at h
    by_cases hb : b = c
    · subst hb
      simp at h
    · have h2 : (b == c) = false := by simpa using hb
      rw [h2] at h
      simp only [cond_false] at h
      cases i with
      | zero => simpa using hb
      | succ i => rw [List.getElem?_cons_succ]; exact not_of_lt_idx (by omega)
theorem idx_ge {l : List UInt8} {f k : Nat} (h : ∀ j, f ≤ j → j < k → l[j]? ≠ some 44) (hk : k ≤ l.length) (hf : f ≤ k) : k - f ≤ (l.drop f).idxOf 44 := by
  rcases Nat.lt_or_ge ((l.drop f).idxOf 44) (k - f) with h1 | h1
  · have h2 : (l.drop f).idxOf 44 < (l.drop f).length := by rw [List.length_drop]; omega
    have h3 := List.getElem_idxOf h2
    refine absurd ?_ (h (f + (l.drop f).idxOf 44) (by omega) (by omega))
    rw [← List.getElem?_drop, List.getElem?_eq_getElem h2, h3]
  · exact h1
theorem idx_eq {l : List UInt8} {f k : Nat} (h : ∀ j, f ≤ j → j < k → l[j]? ≠ some 44) (hf : f ≤ k) (hk : l[k]? = some 44) : (l.drop f).idxOf 44 = k - f := by
  have hkl := (List.getElem?_eq_some_iff.1 hk).1
  have h1 := idx_ge h (by omega) hf
  rcases Nat.eq_or_lt_of_le h1 with h2 | h2
  · exact h2.symm
  · have h3 : (l.drop f)[k - f]? = some 44 := by rw [List.getElem?_drop, show f + (k - f) = k by omega]; exact hk
    obtain ⟨h4, h5⟩ := List.getElem?_eq_some_iff.1 h3
    have h6 : (l.drop f).idxOf 44 ≤ k - f := by
      rcases Nat.lt_or_ge (k - f) ((l.drop f).idxOf 44) with h | h
      · exact absurd h3 (not_of_lt_idx h)
      · exact h
    omega

/-- What parses a row gives. -/
def RowIs (w : World) (R : Option (List Int)) (e : Ending) (w' : World) : Prop :=
  w.Exts w' ∧ ((R = none ∧ e = .returned (.tuple #[.slice none 0 0, .bool false])) ∨ (∃ l v, R = some l ∧ e = .returned (.tuple #[v, .bool true]) ∧ w'.ownsRow w.heap.size 3 1 v l.length (l.flatMap fun x => [.int .i64 x])))

end Go.Proofs.YtkgchngaganokaaGreatDoor

/-
  Walks of the reference of sheets: what is read.
-/
namespace Kr
theorem idx_from {l : List UInt8} {c : UInt8} {a e : Nat} (ha : a ≤ e) (h : ∀ j, a ≤ j → j < e → l[j]? ≠ some c) (he : e = l.length ∨ l[e]? = some c) (hel : e ≤ l.length) : a + (l.drop a).idxOf c = e := by
  rcases Nat.lt_trichotomy (a + (l.drop a).idxOf c) e with h1 | h1 | h1
  · have h2 : (l.drop a).idxOf c < (l.drop a).length := by rw [List.length_drop]; omega
    have h3 := List.getElem_idxOf h2
    refine absurd ?_ (h (a + (l.drop a).idxOf c) (by omega) h1)
    rw [← List.getElem?_drop, List.getElem?_eq_getElem h2, h3]
  · exact h1
  · rcases he with he | he
    · have := List.idxOf_le_length (a := c) (l := l.drop a)
      rw [List.length_drop] at this
      omega
    · have := idx_not (l := l.drop a) (i := e - a) (c := c) (by omega)
      rw [List.getElem?_drop, show a + (e - a) = e by omega] at this
      exact absurd he this
end Kr
namespace Go.Proofs.YtkgchngaganokaaGreatDoor
open Go.RowKit Kr
set_option linter.unusedSimpArgs false
set_option linter.unusedVariables false
def ReadIs (w : World) (R : (Int × List (List Int)) × Int × Int) (e : Ending) (w' : World) : Prop :=
  w.Exts w' ∧ ∃ v ps, e = .returned (.tuple #[.agg #[.int .u8 R.1.1, v], .int .i64 R.2.1, .int .i64 R.2.2]) ∧ ListsAt w' v ps ∧ ps.map Prod.fst = R.1.2
theorem ReadIs.none {w w' : World} {R : (Int × List (List Int)) × Int × Int} {n e : Int} (h : R = ((0, []), n, e)) (hE : w.Exts w') : ReadIs w R (.returned (.tuple #[.agg #[.int .u8 0, .slice none 0 0], .int .i64 n, .int .i64 e])) w' := by
  subst h
  exact ⟨hE, _, [], rfl, lists_none _, rfl⟩

theorem laysAs_other {w : World} {b : Nat} {ob : Obj} (h : LaysAs w b ob) {a : Addr} (hne : a.block ≠ b) (u : Value) : LaysAs (w.setCell a u) b ob := by
  unfold LaysAs World.setCell at *
  simp [Array.getElem?_modify, h, hne]

end Go.Proofs.YtkgchngaganokaaGreatDoor
