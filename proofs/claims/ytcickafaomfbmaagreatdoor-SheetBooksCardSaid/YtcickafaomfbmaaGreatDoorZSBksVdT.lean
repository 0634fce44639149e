/-
  Several texts in one: see the heads of its parts.
-/

import Derived.Test.YtcickafaomfbmaaGreatDoorZSBksVaC
import Derived.Lib.MinMax
import Derived.Test.YtcickafaomfbmaaGreatDoorZSBksIbR
import Derived.Test.YtcickafaomfbmaaGreatDoorZSBksJdk
import Derived.Test.YtcickafaomfbmaaGreatDoorZSBksSoT
import Derived.Test.YtcickafaomfbmaaGreatDoorZSBksBt
import Derived.Deep.RegionLaw
import Derived.Test.YtcickafaomfbmaaGreatDoorZSBksTaC
import Derived.Test.YtcickafaomfbmaaGreatDoorZSBksBs
/-
  Walks of package sheet and of its reference: ranges, which row comes first, check numbers.
-/
namespace Go.Proofs.YtcickafaomfbmaaGreatDoor
open Go.RowKit Kr
set_option linter.unusedSimpArgs false
set_option linter.unusedVariables false

theorem sheet_in_1_any (n lo hi : Int) (b1 b2 : Nat) (w : World) (h1 : w.cell? ⟨b1, 0, none⟩ = some (.int .i64 lo)) (h2 : w.cell? ⟨b2, 0, none⟩ = some (.int .i64 hi)) :
    Calls Tryz.prog 108 #[.int .i64 n, .pointer (some ⟨b1, 0, none⟩), .pointer (some ⟨b2, 0, none⟩)] w fun e w' => e = .returned (.bool (!inb lo hi n)) ∧ w.Exts w' := by
  by_cases h : n < lo
  all_goals
    go_enter Tryz.func108, Tryz.ntmps108
    go_wp2
    go_ret
    exact ⟨congrArg Ending.returned (congrArg Value.bool (by unfold inb; rw [Bool.eq_iff_iff]; simp; omega)), exq⟩
set_option maxHeartbeats 400000 in
theorem sheet_in_any (lo hi : Int) (v : Value) (xs : List Int) (w : World) (hrow : IsRow (fun x : Int => [.int .i64 x]) 1 w v xs) :
    Calls Tryz.prog 56 #[.int .i64 lo, .int .i64 hi, v] w fun e w' => e = .returned (.bool (inAll lo hi xs)) ∧ w.Exts w' := by
  have HR := Lib.hid hrow
  clear hrow
  go_enter Tryz.func56, Tryz.ntmps56
  go_wp2_with (go_at_call 82; refine (ContainsFunc_int_any xs (fun n => !inb lo hi n) _ _ v _ ((HR.out.alloc _).alloc _) (enters_of Tryz.func108 (by kernel_rfl) rfl) (answers2 fun x _ W hW => sheet_in_1_any x lo hi _ _ W (hW.cell (by simp)) (hW.cell (by simp)))).mono ?_; rintro e w' ⟨rfl, X2, rfl⟩)
  go_ret
  exact ⟨by rw [inAll_any]; rfl, exq⟩
/-- A row's number, where it lies. -/
theorem row_nth {w : World} {b o cap : Nat} {l : List Int} (h : IsRow (fun x : Int => [.int .i64 x]) 1 w (.slice (some ⟨b, o, none⟩) l.length cap) l) (k : Nat) (hk : k < l.length) : w.cell? ⟨b, o + k, none⟩ = some (.int .i64 (nth l k)) := by
  obtain ⟨p, b', o', cap', e, hm, hp, hc⟩ := h.ex
  cases e
  obtain ⟨e, _⟩ := hp (by omega)
  cases e
  have h1 := hc k (nth l k) (by unfold nth; rw [List.getD_eq_getElem?_getD, List.getElem?_eq_getElem hk]; rfl) 0 _ rfl
  simpa using h1

end Go.Proofs.YtcickafaomfbmaaGreatDoor

/-
  Walks of the reference of sheets: which rows are valid.
-/
namespace Kr
set_option linter.unusedVariables false
theorem rowsOk_step {kd : Int} {l : List (List Int)} {k : Nat} {x last : List Int} (h : l[k]? = some x) : rowsOk kd k last (l.drop k) = (decide (x.length = colsOf kd) && shRow kd k x last && rowsOk kd (k + 1) x (l.drop (k + 1))) := by
  obtain ⟨h1, rfl⟩ := List.getElem?_eq_some_iff.1 h
  rw [List.drop_eq_getElem_cons h1]
  rfl
theorem rowsOk_end {kd : Int} {l : List (List Int)} {k : Nat} {last : List Int} (h : l.length ≤ k) : rowsOk kd k last (l.drop k) = true := by
  rw [List.drop_eq_nil_of_le h]
  rfl
end Kr
namespace Go.Proofs.YtcickafaomfbmaaGreatDoor
open Go.RowKit Kr
set_option linter.unusedSimpArgs false
set_option linter.unusedVariables false

/-- Row k of rows of n numbers each, where it lies. -/
theorem list_row {w : World} {b o cap : Nat} {ps : List (List Int × Value)} (h : ListsAt w (.slice (some ⟨b, o, none⟩) ps.length cap) ps) {n : Nat} (hn : ∀ x ∈ ps, x.1.length = n) (h1 : 1 ≤ n) (k : Nat) (hk : k < ps.length) :
    ∃ x bx ox cx, (ps.map Prod.fst)[k]? = some x ∧ x.length = n ∧ w.cell? ⟨b, o + k, none⟩ = some (.slice (some ⟨bx, ox, none⟩) n cx) ∧ n ≤ cx ∧ (∀ j, j < n → w.cell? ⟨bx, ox + j, none⟩ = some (.int .i64 (nth x j))) ∧ IsRow (fun x : Int => [.int .i64 x]) 1 w (.slice (some ⟨bx, ox, none⟩) n cx) x := by
  obtain ⟨p, b', o', cap', e, hm, hp, hc⟩ := h.row.ex
  cases e
  obtain ⟨e, _⟩ := hp (by omega)
  cases e
  obtain ⟨⟨x, xv⟩, hx⟩ := some_of_lt hk
  have hmem := List.mem_of_getElem? hx
  have hxl := hn _ hmem
  have hr := h.mem _ hmem
  dsimp only at hxl hr
  obtain ⟨q, bx, ox, cx, rfl, hmx, hq, _⟩ := hr.ex
  obtain ⟨rfl, _⟩ := hq (by omega)
  have hd := hc k _ hx 0 _ rfl
  rw [hxl] at hr hd hmx
  refine ⟨x, bx, ox, cx, by rw [List.getElem?_map, hx]; rfl, hxl, by simpa using hd, hmx.1, fun j hj => ?_, hr⟩
  rw [← hxl] at hr
  exact row_nth hr j (by omega)
theorem lists_base {w : World} {v : Value} {ps : List (List Int × Value)} (h : ListsAt w v ps) (h0 : 0 < ps.length) : ∃ b o cap, v = .slice (some ⟨b, o, none⟩) ps.length cap := by
  obtain ⟨p, b, o, cap, e, hm, hp, hc⟩ := h.row.ex
  obtain ⟨rfl, _⟩ := hp h0
  exact ⟨b, o, cap, e⟩

end Go.Proofs.YtcickafaomfbmaaGreatDoor

/-
  Walks of the reference of sheets: an ice book's rows, an inspection's rows.
-/
namespace Go.Proofs.YtcickafaomfbmaaGreatDoor
open Go.RowKit Kr
set_option linter.unusedSimpArgs false
set_option linter.unusedVariables false

end Go.Proofs.YtcickafaomfbmaaGreatDoor

/-
  Walks of the reference of sheets: an inspection's rows, a start list's rows.
-/
namespace Kr
set_option linter.unusedVariables false
end Kr
namespace Go.Proofs.YtcickafaomfbmaaGreatDoor
open Go.RowKit Kr
set_option linter.unusedSimpArgs false
set_option linter.unusedVariables false

end Go.Proofs.YtcickafaomfbmaaGreatDoor

/-
  Walks of the reference of sheets: whether a sheet is valid; whether one is great.
-/
namespace Kr
set_option linter.unusedVariables false
theorem rowsOk_len {kd : Int} : ∀ {l : List (List Int)} {k : Nat} {last : List Int}, rowsOk kd k last l = true → ∀ x ∈ l, x.length = colsOf kd
  | [], _, _, _, x, hx => by cases hx
  | y :: l, k, last, h, x, hx => by
    simp only [rowsOk, Bool.and_eq_true, decide_eq_true_eq] at h
    rcases List.mem_cons.1 hx with e | e
    · subst e; exact h.1.1
    · exact rowsOk_len h.2 x e
theorem sheetB_kind {kd : Int} {l : List (List Int)} (h : inb 1 4 kd = false) : sheetB kd l = false := by unfold sheetB; rw [h]; rfl
end Kr
namespace Go.Proofs.YtcickafaomfbmaaGreatDoor
open Go.RowKit Kr
set_option linter.unusedSimpArgs false
set_option linter.unusedVariables false

end Go.Proofs.YtcickafaomfbmaaGreatDoor

/-
  From the form's readings to this work's words: sheets.
-/
namespace Go.Proofs.YtcickafaomfbmaaGreatDoor
open Go.RowKit Kr
set_option linter.unusedVariables false
set_option linter.unusedSimpArgs false

section
variable {H : Type} {enc : TypeId × Value → H} {w : World} {base : Nat} {spare : Nat → Bool} {held : Bool}
end
end Go.Proofs.YtcickafaomfbmaaGreatDoor
