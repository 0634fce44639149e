/-
  An inspection's sheet is valid, and short. Plain laws.
-/
import Derived.Test.YtcickafaomfbmaaGreatDoorZSJesGaI
import Derived.Test.YtcickafaomfbmaaGreatDoorZSJesWtB
namespace Kr
set_option linter.unusedVariables false
set_option linter.unusedSimpArgs false

theorem textFrom_len : ∀ (n : Nat) (ls : List (List UInt8)), (textFrom n ls).length = (ls.map fun l => l.length + 5).sum
  | _, [] => rfl
  | n, l :: r => by
    unfold textFrom
    rw [List.length_append, List.length_cons, textFrom_len (n + 1) r, List.map_cons, List.sum_cons]
    simp [sealT, three]; omega
theorem judge_valid {p : List Int} {w : Int} (h5 : p.length = 5) (hr : ∀ x ∈ p, 0 ≤ x ∧ x ≤ 2) (hw : w = minOf p) :
    sheetB 4 ((List.range 6).map fun i : Nat => [(i : Int), (p ++ [w]).getD i 0]) = true := by
  match p, h5 with
  | [a, b, c, d, e], _ =>
    have ha := hr a (by simp)
    have hb := hr b (by simp)
    have hc := hr c (by simp)
    have hd := hr d (by simp)
    have he := hr e (by simp)
    have hw2 : w = min (min (min (min (min 2 a) b) c) d) e := hw
    have hw3 : 0 ≤ w ∧ w ≤ 2 := by omega
    have e6 : ((List.range 6).map fun i : Nat => [(i : Int), ([a, b, c, d, e] ++ [w]).getD i 0]) = [[0, a], [1, b], [2, c], [3, d], [4, e], [5, w]] := by simp [List.range, List.range.loop]
    rw [e6]
    simp [sheetB, manyOk, rowsOk, colsOf, shRow, judgeRow, nth, inb, lastOk, shLeast, ha, hb, hc, hd, he, hw3]
    omega
theorem few_sum {f : List Int → Nat} {c : Nat} : ∀ {l : List (List Int)}, (∀ x ∈ l, f x ≤ c) → (l.map f).sum ≤ c * l.length
  | [], _ => by simp
  | x :: l, h => by
    have h1 := h x (List.mem_cons_self ..)
    have h2 := few_sum (f := f) (c := c) (l := l) fun y hy => h y (List.mem_cons_of_mem _ hy)
    rw [List.map_cons, List.sum_cons, List.length_cons, Nat.mul_add]; omega
/-- A sheet of few rows of two numbers is short. -/
theorem two_short {kd : Int} {rows : List (List Int)} (h2 : ∀ x ∈ rows, x.length = 2 ∧ ∀ z ∈ x, 0 ≤ z ∧ z ≤ 86400000) (hn : rows.length ≤ 12) : (textFrom 1 (linesOf kd rows)).length ≤ 1500 := by
  rw [textFrom_len]
  unfold linesOf
  rw [List.map_cons, List.sum_cons, List.map_append, List.sum_append, List.map_map, List.map_singleton, List.sum_singleton]
  have h3 := few_sum (f := (fun l => l.length + 5) ∘ rowText) (c := 23) (l := rows) fun x hx => by
    have := row_len (h2 x hx).2
    rw [(h2 x hx).1] at this
    show (rowText x).length + 5 ≤ 23
    omega
  have h4 : (wordOf kd).length ≤ 5 := by
    unfold wordOf
    split
    · simp
    split
    · simp
    split
    · simp
    split <;> simp
  have h5 : (Go.Lib.itoa (rows.length : Int)).length ≤ 8 := itoa_few (by omega) (by omega)
  rw [List.length_append, show endW.length = 4 from rfl]
  omega
end Kr
