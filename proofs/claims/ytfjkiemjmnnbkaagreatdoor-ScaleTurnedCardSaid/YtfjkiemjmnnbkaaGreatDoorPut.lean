/-
  Own rows whose elements are written anew, one cell at a time; lists of which a part is new. Plain laws.
-/
import Derived.Test.YtfjkiemjmnnbkaaGreatDoorTm
namespace Go
open Go.RowKit

theorem BlkAt.set_any {w : World} {g : Nat} {xs : List Value} (h : BlkAt w g xs) {a : Addr} (ha : xs = [] ∨ a.block ≠ g) (u : Value) : BlkAt (w.setCell a u) g xs := by
  rcases ha with rfl | ha
  · exact ⟨fun q v hq => by simp at hq, fun q hq => by simp at hq⟩
  · exact h.set_other ha u
/-- One cell of an element is written anew. -/
theorem flat_set {α : Type} {enc : α → List Value} {K : Nat} (hk : ∀ y, (enc y).length = K) {l : List α} {i j : Nat} {x y : α} {u : Value} (hx : l[i]? = some x) (hj : j < K) (hy : enc y = (enc x).set j u) : (l.set i y).flatMap enc = (l.flatMap enc).set (i * K + j) u := by
  obtain ⟨hi, hxx⟩ := List.getElem?_eq_some_iff.1 hx
  have hl : l = l.take i ++ (x :: l.drop (i + 1)) := by rw [← hxx, ← List.drop_eq_getElem_cons hi, List.take_append_drop]
  have hA : ((l.take i).flatMap enc).length = i * K := by rw [flat_len _ (fun y _ => hk y), List.length_take, Nat.min_eq_left (by omega)]
  have hflat : l.flatMap enc = (l.take i).flatMap enc ++ (enc x ++ (l.drop (i + 1)).flatMap enc) := by
    conv => lhs; rw [hl]
    rw [List.flatMap_append, List.flatMap_cons]
  rw [List.set_eq_take_append_cons_drop, if_pos hi, List.flatMap_append, List.flatMap_cons, hy, hflat, set_tail hA, List.set_append_left _ _ (by rw [hk]; exact hj)]
theorem BlkAt.put {α : Type} {enc : α → List Value} {K : Nat} (hk : ∀ y, (enc y).length = K) {w : World} {g : Nat} {l : List α} (h : BlkAt w g (l.flatMap enc)) {i j : Nat} {x y : α} {u : Value} (hx : l[i]? = some x) (hj : j < K) (hy : enc y = (enc x).set j u) :
    BlkAt (w.setCell ⟨g, i * K + j, none⟩ u) g ((l.set i y).flatMap enc) := by
  rw [flat_set hk hx hj hy]
  have hi := (List.getElem?_eq_some_iff.1 hx).1
  have hfl := flat_len l (fun y _ => hk y)
  refine h.set ?_ u
  rw [hfl]
  calc i * K + j < i * K + K := by omega
    _ = (i + 1) * K := by rw [Nat.succ_mul]
    _ ≤ l.length * K := Nat.mul_le_mul_right _ hi

/-- A list whose first elements are those of another one. -/
def mixL {α : Type} (T O : List α) (k : Nat) : List α := T.take k ++ O.drop k
theorem mixL_zero {α : Type} (T O : List α) : mixL T O 0 = O := by simp [mixL]
theorem mixL_all {α : Type} {T O : List α} (h : T.length = O.length) : mixL T O O.length = T := by unfold mixL; rw [List.drop_length, List.append_nil, ← h, List.take_length]
theorem mixL_len {α : Type} {T O : List α} (h : T.length = O.length) {k : Nat} (hk : k ≤ O.length) : (mixL T O k).length = O.length := by unfold mixL; simp; omega
theorem mixL_at {α : Type} {T O : List α} (h : T.length = O.length) {k : Nat} (hk : k ≤ O.length) : (mixL T O k)[k]? = O[k]? := by
  unfold mixL
  rw [List.getElem?_append_right (by simp; omega), List.getElem?_drop]
  simp
  congr 1
  omega
theorem mixL_set {α : Type} {T O : List α} (h : T.length = O.length) {k : Nat} {y : α} (hy : T[k]? = some y) : (mixL T O k).set k y = mixL T O (k + 1) := by
  obtain ⟨hk, rfl⟩ := List.getElem?_eq_some_iff.1 hy
  refine List.ext_getElem? fun i => ?_
  unfold mixL
  rw [List.getElem?_set]
  have e1 : (List.take k T ++ List.drop k O).length = O.length := by simp; omega
  have e2 : (T.take k).length = k := by simp; omega
  have e3 : (T.take (k + 1)).length = k + 1 := by simp; omega
  by_cases hik : k = i
  · subst hik
    rw [if_pos rfl, if_pos (by omega), List.getElem?_append_left (by omega), List.getElem?_take_of_lt (by omega), List.getElem?_eq_getElem hk]
  · rw [if_neg hik]
    rcases Nat.lt_or_ge i k with h1 | h1
    · rw [List.getElem?_append_left (by omega), List.getElem?_append_left (by omega), List.getElem?_take_of_lt h1, List.getElem?_take_of_lt (by omega)]
    · rw [List.getElem?_append_right (by omega), List.getElem?_append_right (by omega), List.getElem?_drop, List.getElem?_drop, e2, e3]
      congr 1
      omega
end Go
