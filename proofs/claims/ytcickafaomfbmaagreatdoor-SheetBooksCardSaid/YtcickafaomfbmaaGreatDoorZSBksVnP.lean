/-
  Several texts in one: see the heads of its parts.
-/

import Derived.Test.YtcickafaomfbmaaGreatDoorZSBksVdT
import Derived.Test.YtcickafaomfbmaaGreatDoorZSBksVeX
import Derived.Test.YtcickafaomfbmaaGreatDoorZSBksSa
import Derived.Test.YtcickafaomfbmaaGreatDoorZSBksBt
import Derived.Test.YtcickafaomfbmaaGreatDoorZSBksVaC
/-
  Walks of the reference of sheets: great sheets, the kind of a word, the parts of a line.
-/
namespace Kr
set_option linter.unusedVariables false
end Kr
namespace Go.Proofs.YtcickafaomfbmaaGreatDoor
open Go.RowKit Kr
set_option linter.unusedSimpArgs false
set_option linter.unusedVariables false

/-- The word of a kind as a string. -/
def wordB (kd : Int) : ByteArray := ⟨(wordOf kd).toArray⟩
theorem word_eq (k : Nat) (s : ByteArray) : ((wordB k).toList == s.toList) = decide (s.data.toList = wordOf k) := by
  rw [Lib.toList_data, Lib.toList_data, Bool.eq_iff_iff, beq_iff_eq, decide_eq_true_eq]
  exact eq_comm
end Go.Proofs.YtcickafaomfbmaaGreatDoor

/-
  Walks of the reference of sheets: the parts of a line.
-/
namespace Kr
set_option linter.unusedVariables false
theorem formB_short {l : List UInt8} (h : l.length < 4) : formB l = false := by unfold formB; rw [decide_eq_false (by omega)]; rfl
end Kr
namespace Go.Proofs.YtcickafaomfbmaaGreatDoor
open Go.RowKit Kr
set_option linter.unusedSimpArgs false
set_option linter.unusedVariables false

end Go.Proofs.YtcickafaomfbmaaGreatDoor

/-
  Sheets as texts: what is read, line by line. Plain.
-/
namespace Kr
set_option linter.unusedVariables false
open Go

theorem readR_long {t : List UInt8} (h : 1500 < t.length) : readR t = ((0, []), 0, 9) := by unfold readR; rw [if_pos h]
section
variable {m : Nat} {st : RSt} {l : List UInt8}
theorem take_ended (h : st.ended = true) : takeL m st l = .error 111 := by
  unfold takeL
  rw [h]
  rfl
theorem take_form (h : formB l = false) : takeL m st l = .error 111 := by
  unfold takeL
  rw [h]
  simp
theorem take_mid (he : st.ended = false) (h : formB l = true) (hm : midL m st (bodyOf l) = none) : takeL m st l = .error 111 := by
  unfold takeL
  rw [h, he, hm]
  rfl
theorem form_facts (h : formB l = true) : 4 ≤ l.length ∧ l[l.length - 4]? = some 32 := by
  unfold formB at h
  simp only [Bool.and_eq_true, decide_eq_true_eq] at h
  refine ⟨h.1, ?_⟩
  have h2 := h.2.1
  rw [List.getD_eq_getElem?_getD, List.getElem?_eq_getElem (by omega)] at h2
  rw [List.getElem?_eq_getElem (by omega)]
  exact congrArg some h2
/-- Whether the check number is right. -/
def sealB (m : Nat) (l : List UInt8) : Bool := decide (l.drop (l.length - 3) = three (sumT m (bodyOf l)))
theorem sealB_iff (h : formB l = true) : sealB m l = true ↔ sealT m (bodyOf l) = l := by
  obtain ⟨h4, h32⟩ := form_facts h
  obtain ⟨z, hz⟩ : ∃ z, l.length = z + 4 := ⟨l.length - 4, by omega⟩
  have h1 := seal_iff (n := m) hz
  unfold sealB bodyOf
  rw [hz] at h32 ⊢
  simp only [Nat.add_sub_cancel] at h32 ⊢
  rw [h1, decide_eq_true_eq, show z + 4 - 3 = z + 1 by omega]
  exact ⟨fun e => ⟨h32, e⟩, fun e => e.2⟩
theorem take_seal {s : RSt} (he : st.ended = false) (h : formB l = true) (hm : midL m st (bodyOf l) = some s) (hs : sealB m l = false) : takeL m st l = .error 112 := by
  unfold takeL
  rw [h, he, hm]
  have : ¬ sealT m (bodyOf l) = l := fun e => by rw [(sealB_iff h).2 e] at hs; cases hs
  simp [this]
theorem take_ok {s : RSt} (he : st.ended = false) (h : formB l = true) (hm : midL m st (bodyOf l) = some s) (hs : sealB m l = true) : takeL m st l = .ok s := by
  unfold takeL
  rw [h, he, hm]
  simp [(sealB_iff h).1 hs]
theorem mid_kind {b : List UInt8} : midL 1 st b = if kindOf b = 0 then none else some { st with kd := kindOf b } := by
  unfold midL
  rw [if_pos rfl]
end
end Kr

/-
  Walks of the reference of sheets: the lines of a sheet, their text, what is written.
-/
namespace Go.Proofs.YtcickafaomfbmaaGreatDoor
open Go.RowKit Kr
set_option linter.unusedSimpArgs false
set_option linter.unusedVariables false

theorem elem_str : ElemOf Tryz.prog 84 9 (.string ⟨#[]⟩) 1 16 := ⟨Tryz.underlying84, by kernel_rfl, rfl, by decide, by decide⟩
end Go.Proofs.YtcickafaomfbmaaGreatDoor

/-
  Walks of the reference of sheets: a text, what is written, whether a sheet is valid.
-/
namespace Kr
set_option linter.unusedVariables false
open Go
theorem lens_few (l : List Int) (h : ∀ z ∈ l, 0 ≤ z ∧ z ≤ 86400000) : Lib.lens (l.map Lib.itoa) ≤ 8 * l.length := by
  induction l with
  | nil => simp [Lib.lens]
  | cons z l ih =>
    have h1 := itoa_few (h z (List.mem_cons_self ..)).1 (h z (List.mem_cons_self ..)).2
    have h2 := ih fun y hy => h y (List.mem_cons_of_mem _ hy)
    simp [Lib.lens] at h2 ⊢
    omega
theorem rowText_few {x : List Int} (h5 : x.length ≤ 5) (h : ∀ z ∈ x, 0 ≤ z ∧ z ≤ 86400000) : (rowText x).length ≤ 50 := by
  have h2 := lens_few x h
  unfold rowText
  cases x with
  | nil => simp [Lib.join_nil]
  | cons y r =>
    rw [List.map_cons, Lib.join_length, List.length_map]
    rw [List.map_cons, List.length_cons] at h2
    simp at h5 ⊢
    omega
theorem lines_few {kd : Int} {l : List (List Int)} (hl : l.length ≤ 1000) (hnum : ∀ x ∈ l, x.length ≤ 5 ∧ ∀ z ∈ x, 0 ≤ z ∧ z ≤ 86400000) : ∀ s ∈ linesOf kd l, s.length ≤ 50 := by
  intro s hs
  unfold linesOf at hs
  rcases List.mem_cons.1 hs with rfl | hs
  · unfold wordOf
    repeat' split
    all_goals decide
  · rcases List.mem_append.1 hs with hs | hs
    · obtain ⟨x, hx, rfl⟩ := List.mem_map.1 hs
      exact rowText_few (hnum x hx).1 (hnum x hx).2
    · obtain rfl := List.mem_singleton.1 hs
      have := itoa_few (z := (l.length : Int)) (by omega) (by omega)
      rw [List.length_append]
      have h4 : endW.length = 4 := rfl
      omega
end Kr
namespace Go.Proofs.YtcickafaomfbmaaGreatDoor
open Go.RowKit Kr
set_option linter.unusedSimpArgs false
set_option linter.unusedVariables false
def TextIs (w : World) (t : List UInt8) (e : Ending) (w' : World) : Prop := w.Exts w' ∧ ∃ r, e = .returned (.string r) ∧ r.data.toList = t
def WriteIs (w : World) (t : List UInt8 × Int) (e : Ending) (w' : World) : Prop := w.Exts w' ∧ ∃ r, e = .returned (.tuple #[.string r, .int .i64 t.2]) ∧ r.data.toList = t.1
end Go.Proofs.YtcickafaomfbmaaGreatDoor

/-
  Sheets as texts: the numbers of a row, piece by piece. Plain laws.
-/
namespace Kr
open Go.Lib
set_option linter.unusedSimpArgs false
set_option linter.unusedVariables false

theorem mapM_len {α β : Type} {f : α → Option β} : ∀ {l : List α} {ys : List β}, l.mapM f = some ys → ys.length = l.length
  | [], ys, h => by simp at h; subst h; rfl
  | a :: l, ys, h => by
    rw [List.mapM_cons] at h
    cases ha : f a with
    | none => rw [ha] at h; cases h
    | some b =>
      rw [ha] at h
      cases hl : l.mapM f with
      | none => rw [hl] at h; cases h
      | some bs =>
        rw [hl] at h
        cases h
        rw [List.length_cons, List.length_cons, mapM_len hl]
theorem mapM_cons_some {α β : Type} {f : α → Option β} {a : α} {l : List α} {b : β} (h : f a = some b) : (a :: l).mapM f = (l.mapM f).map (b :: ·) := by
  rw [List.mapM_cons, h]
  cases l.mapM f <;> rfl
theorem mapM_cons_none {α β : Type} {f : α → Option β} {a : α} {l : List α} (h : f a = none) : (a :: l).mapM f = none := by
  rw [List.mapM_cons, h]
  rfl
end Kr
