/-
  Several texts in one: see the heads of its parts.
-/
import Derived.Test.YtkgchngaganokaaGreatDoorVdT
import Derived.Test.YtkgchngaganokaaGreatDoorVeX
import Derived.Test.YtkgchngaganokaaGreatDoorSa
import Derived.Test.YtkgchngaganokaaGreatDoorBt
import Derived.Test.YtkgchngaganokaaGreatDoorVaC

/-
  Walks of the reference of sheets: great sheets, the kind of a word, the parts of a line.
-/
namespace Kr
set_option linter.unusedVariables false
/-- Whether a sheet is great. -/
def greatS (l : List (List Int)) : Bool := decide (150 < l.length) || l.any fun x => decide (10 < x.length)
theorem greatS_false {l : List (List Int)} (h : greatS l = false) : l.length ≤ 150 ∧ ∀ x ∈ l, x.length ≤ 10 := by
  unfold greatS at h
  simp only [Bool.or_eq_false_iff, decide_eq_false_iff_not, List.any_eq_false, decide_eq_true_eq] at h
  exact ⟨by omega, fun x hx => by have := h.2 x hx; omega⟩
end Kr
namespace Go.Proofs.YtkgchngaganokaaGreatDoor
open Go.RowKit Kr
set_option linter.unusedSimpArgs false
set_option linter.unusedVariables false

set_option maxHeartbeats 2000000 in
theorem r11_Great_any (kd : Int) (ps : List (List Int × Value)) (v : Value) (w : World) (h : ListsAt w v ps) :
    Calls Tryz.prog 26 #[.agg #[.int .u8 kd, v]] w fun e w' => e = .returned (.bool (greatS (ps.map Prod.fst))) ∧ w.Exts w' := by
  obtain ⟨q, cap, hv⟩ := h.row.len
  subst hv
  rcases Nat.lt_or_ge 150 ps.length with h1 | h1
  · have hg : greatS (ps.map Prod.fst) = true := by unfold greatS; rw [List.length_map, decide_eq_true h1]; rfl
    have h1i : (150 : Int) < (ps.length : Int) := by omega
    rw [hg]
    clear h hg
    go_enter Tryz.func26, Tryz.ntmps26
    go_wp2_with fail
    go_ret
    exact ⟨rfl, exq⟩
  have h1i : ¬ (150 : Int) < (ps.length : Int) := by omega
  have hg : greatS (ps.map Prod.fst) = (ps.map Prod.fst).any fun x => decide (10 < x.length) := by unfold greatS; rw [List.length_map, decide_eq_false (by omega)]; rfl
  rw [hg]
  have hrow : ∀ k, k < ps.length → ∃ b o, q = some ⟨b, o, none⟩ ∧ ∃ x p cx, (ps.map Prod.fst)[k]? = some x ∧ w.cell? ⟨b, o + k, none⟩ = some (.slice p x.length cx) := fun k hk => by
    obtain ⟨b, o, c, e⟩ := lists_base h (by omega)
    cases e
    obtain ⟨p, b', o', cap', e, hm, hp, hc⟩ := h.row.ex
    cases e
    obtain ⟨e, _⟩ := hp (by omega)
    cases e
    obtain ⟨⟨x, xv⟩, hx⟩ := some_of_lt hk
    obtain ⟨qx, cx, hxv⟩ := (h.mem _ (List.mem_of_getElem? hx)).len
    have hd := hc k _ hx 0 _ rfl
    dsimp only at hxv
    subst hxv
    exact ⟨b, o, rfl, x, qx, cx, by rw [List.getElem?_map, hx]; rfl, by simpa using hd⟩
  obtain ⟨L, hL⟩ : ∃ l, ps.map Prod.fst = l := ⟨_, rfl⟩
  have hLn : L.length = ps.length := by rw [← hL, List.length_map]
  rw [hL]
  rw [hL] at hrow
  have HROW := Lib.hid hrow
  clear hrow
  have HLN := Lib.hid hLn
  clear hLn
  clear h hg hL
  go_enter Tryz.func26, Tryz.ntmps26
  go_wp2_with fail
  go_loopw [3] (fun i wr => ∃ k : Nat, k ≤ ps.length ∧ i = .int .i64 k ∧ Hid (∀ (j : Nat) x, j < k → L[j]? = some x → x.length ≤ 10) ∧ (w.alloc (.cells #[.int .u8 kd, .slice q ps.length cap] 24)).Exts wr) (fun i _ => ps.length - (intOf i).toNat)
  case atStart => exact ⟨0, by omega, rfl, Lib.hid fun j x hj => absurd hj (Nat.not_lt_zero _), exq⟩
  case round =>
    obtain ⟨k, hk, rfl, hrk, X3, rfl⟩ := hrel
    rcases Nat.lt_or_ge k ps.length with hlt | hge
    · obtain ⟨b, o, rfl, x, p, cx, hx, e⟩ := HROW.out k hlt
      have lb := Lays.of_cell e
      have w1 : (k : Int) < (ps.length : Int) := by omega
      obtain ⟨nx, hnx⟩ : ∃ m, x.length = m := ⟨_, rfl⟩
      rw [hnx] at e
      have HX := Lib.hid hx
      clear hx
      have HNX := Lib.hid hnx
      clear hnx
      rcases Nat.lt_or_ge 10 nx with hne | hne
      · have hf : (L.any fun x => decide (10 < x.length)) = true := List.any_eq_true.2 ⟨x, List.mem_of_getElem? HX.out, by rw [HNX.out]; simpa using hne⟩
        have hni : (10 : Int) < (nx : Int) := by omega
        have HF := Lib.hid hf
        clear hf
        clear hrk hne
        go_wp2_with fail
        go_ret
        exact ⟨by rw [HF.out]; rfl, exq⟩
      · have hok : ∀ (j : Nat) (z : List Int), j < k + 1 → L[j]? = some z → z.length ≤ 10 := fun j z hj hz => by
          rcases Nat.lt_or_ge j k with h | h
          · exact hrk.out j z h hz
          · have : j = k := by omega
            subst this
            rw [HX.out] at hz
            cases hz
            rw [HNX.out]
            exact hne
        have hni : ¬ (10 : Int) < (nx : Int) := by omega
        have HOK := Lib.hid hok
        clear hok
        clear hrk hne
        go_wp2_with fail
        go_roundw
        case rel => exact ⟨k + 1, by omega, by go_num, HOK, exq⟩
        case measure => simp [intOf]; omega
    · have hf : (L.any fun x => decide (10 < x.length)) = false := by
        rw [List.any_eq_false]
        intro x hx
        obtain ⟨j, hj⟩ := List.mem_iff_getElem?.1 hx
        have h2 := hrk.out j x (by have := (List.getElem?_eq_some_iff.1 hj).1; have := HLN.out; omega) hj
        simpa using h2
      have hnl : ¬ k < ps.length := by omega
      have HF := Lib.hid hf
      clear hf
      clear hrk
      go_wp2_with fail
      go_ret
      exact ⟨by rw [HF.out]; rfl, exq⟩

/-- The word of a kind as a string. -/
def wordB (kd : Int) : ByteArray := ⟨(wordOf kd).toArray⟩
theorem word_eq (k : Nat) (s : ByteArray) : ((wordB k).toList == s.toList) = decide (s.data.toList = wordOf k) := by
  rw [Lib.toList_data, Lib.toList_data, Bool.eq_iff_iff, beq_iff_eq, decide_eq_true_eq]
  exact eq_comm
theorem kindOf_first {b : List UInt8} {k : Nat} (hk : 1 ≤ k ∧ k < 5) (h : b = wordOf (k : Int)) : kindOf b = k := by
  subst h
  obtain rfl | rfl | rfl | rfl : k = 1 ∨ k = 2 ∨ k = 3 ∨ k = 4 := by omega
  all_goals rfl
theorem kindOf_none {b : List UInt8} (h : ∀ k : Nat, 1 ≤ k → k < 5 → b ≠ wordOf (k : Int)) : kindOf b = 0 := by
  unfold kindOf
  rw [if_neg (show ¬ b = wordOf 1 from h 1 (by decide) (by decide)), if_neg (show ¬ b = wordOf 2 from h 2 (by decide) (by decide)), if_neg (show ¬ b = wordOf 3 from h 3 (by decide) (by decide)), if_neg (show ¬ b = wordOf 4 from h 4 (by decide) (by decide))]

end Go.Proofs.YtkgchngaganokaaGreatDoor

/-
  Walks of the reference of sheets: the parts of a line.
-/
namespace Kr
set_option linter.unusedVariables false
theorem formB_short {l : List UInt8} (h : l.length < 4) : formB l = false := by unfold formB; rw [decide_eq_false (by omega)]; rfl
theorem formB_is {l : List UInt8} {m : Nat} {y0 y1 y2 y3 : UInt8} (h : l.length = m + 4) (h0 : l[m]? = some y0) (h1 : l[m + 1]? = some y1) (h2 : l[m + 2]? = some y2) (h3 : l[m + 3]? = some y3) : formB l = (decide (y0 = 32) && (digitB y1 && (digitB y2 && digitB y3))) := by
  unfold formB
  rw [decide_eq_true (by omega), Bool.true_and, h, show m + 4 - 4 = m by omega, show m + 4 - 3 = m + 1 by omega, List.getD_eq_getElem?_getD, h0]
  have hd : l.drop (m + 1) = [y1, y2, y3] := by
    obtain ⟨e1, rfl⟩ := List.getElem?_eq_some_iff.1 h1
    obtain ⟨e2, rfl⟩ := List.getElem?_eq_some_iff.1 h2
    obtain ⟨e3, rfl⟩ := List.getElem?_eq_some_iff.1 h3
    rw [List.drop_eq_getElem_cons e1, List.drop_eq_getElem_cons e2, List.drop_eq_getElem_cons e3, List.drop_eq_nil_of_le (by omega)]
  rw [hd]
  simp
end Kr
namespace Go.Proofs.YtkgchngaganokaaGreatDoor
open Go.RowKit Kr
set_option linter.unusedSimpArgs false
set_option linter.unusedVariables false

end Go.Proofs.YtkgchngaganokaaGreatDoor

/-
  Sheets as texts: what is read, line by line. Plain.
-/
namespace Kr
set_option linter.unusedVariables false
open Go

/-- What is read from line m on, with what was read ahead of it. -/
def readFrom (m : Nat) (st : RSt) (s : List UInt8) : (Int × List (List Int)) × Int × Int :=
  match readAll m st (cutLines s).1 with
  | .error (n, e) => ((0, []), n, e)
  | .ok st => if (cutLines s).2 ≠ [] ∨ st.ended = false then ((0, []), ((m + (cutLines s).1.length : Nat) : Int), 111)
    else if sheetB st.kd st.rows then ((st.kd, st.rows), 0, 0) else ((0, []), 0, 110)
theorem readR_long {t : List UInt8} (h : 1500 < t.length) : readR t = ((0, []), 0, 9) := by unfold readR; rw [if_pos h]
theorem readR_from {t : List UInt8} (h : ¬ 1500 < t.length) : readR t = readFrom 1 ⟨0, [], false⟩ (t.drop 0) := by
  unfold readR readFrom
  rw [if_neg h, List.drop_zero]
  cases readAll 1 ⟨0, [], false⟩ (cutLines t).1 with
  | error p => rfl
  | ok st =>
    dsimp only
    rw [Nat.add_comm 1]
    rfl
theorem rf_rest {m : Nat} {st : RSt} {s : List UInt8} (h0 : 0 < s.length) (h : (10 : UInt8) ∉ s) : readFrom m st s = ((0, []), (m : Int), 111) := by
  unfold readFrom
  rw [cut_miss (fun e => h (List.idxOf_lt_length_iff.1 e))]
  have : s ≠ [] := fun e => by subst e; simp at h0
  simp [readAll, this]
theorem rf_end {m : Nat} {st : RSt} : readFrom m st [] = if st.ended = false then ((0, []), (m : Int), 111) else if sheetB st.kd st.rows then ((st.kd, st.rows), 0, 0) else ((0, []), 0, 110) := by
  unfold readFrom
  simp [cutLines, readAll]
theorem rf_err {m : Nat} {st : RSt} {s : List UInt8} {i : Nat} {l : List UInt8} {e : Int} (h : s.idxOf 10 < s.length) (hl : s.take (s.idxOf 10) = l) (ht : takeL m st l = .error e) : readFrom m st s = ((0, []), (m : Int), e) := by
  unfold readFrom
  rw [cut_hit h, hl, readAll, ht]
theorem rf_ok {m : Nat} {st st' : RSt} {s : List UInt8} {l : List UInt8} (h : s.idxOf 10 < s.length) (hl : s.take (s.idxOf 10) = l) (ht : takeL m st l = .ok st') : readFrom m st s = readFrom (m + 1) st' (s.drop (s.idxOf 10 + 1)) := by
  unfold readFrom
  rw [cut_hit h, hl, readAll, ht]
  dsimp only
  cases readAll (m + 1) st' (cutLines (s.drop (s.idxOf 10 + 1))).1 with
  | error p => rfl
  | ok st =>
    dsimp only
    rw [List.length_cons, show m + 1 + (cutLines (s.drop (s.idxOf 10 + 1))).1.length = m + ((cutLines (s.drop (s.idxOf 10 + 1))).1.length + 1) by omega]

section
variable {m : Nat} {st : RSt} {l : List UInt8}
theorem take_ended (h : st.ended = true) : takeL m st l = .error 111 := by
  unfold takeL
  rw [h]
  rfl
theorem take_form (h : formB l = false) : takeL m st l = .error 111 := by
  unfold takeL
  rw [h]
  simp
theorem take_mid (he : st.ended = false) (h : formB l = true) (hm : midL m st (bodyOf l) = none) : takeL m st l = .error 111 := by
  unfold takeL
  rw [h, he, hm]
  rfl
theorem form_facts (h : formB l = true) : 4 ≤ l.length ∧ l[l.length - 4]? = some 32 := by
  unfold formB at h
  simp only [Bool.and_eq_true, decide_eq_true_eq] at h
  refine ⟨h.1, ?_⟩
  have h2 := h.2.1
  rw [List.getD_eq_getElem?_getD, List.getElem?_eq_getElem (by omega)] at h2
  rw [List.getElem?_eq_getElem (by omega)]
  exact congrArg some h2
/-- Whether the check number is right. -/
def sealB (m : Nat) (l : List UInt8) : Bool := decide (l.drop (l.length - 3) = three (sumT m (bodyOf l)))
theorem sealB_iff (h : formB l = true) : sealB m l = true ↔ sealT m (bodyOf l) = l := by
  obtain ⟨h4, h32⟩ := form_facts h
  obtain ⟨z, hz⟩ : ∃ z, l.length = z + 4 := ⟨l.length - 4, by omega⟩
  have h1 := seal_iff (n := m) hz
  unfold sealB bodyOf
  rw [hz] at h32 ⊢
  simp only [Nat.add_sub_cancel] at h32 ⊢
  rw [h1, decide_eq_true_eq, show z + 4 - 3 = z + 1 by omega]
  exact ⟨fun e => ⟨h32, e⟩, fun e => e.2⟩
theorem take_seal {s : RSt} (he : st.ended = false) (h : formB l = true) (hm : midL m st (bodyOf l) = some s) (hs : sealB m l = false) : takeL m st l = .error 112 := by
  unfold takeL
  rw [h, he, hm]
  have : ¬ sealT m (bodyOf l) = l := fun e => by rw [(sealB_iff h).2 e] at hs; cases hs
  simp [this]
theorem take_ok {s : RSt} (he : st.ended = false) (h : formB l = true) (hm : midL m st (bodyOf l) = some s) (hs : sealB m l = true) : takeL m st l = .ok s := by
  unfold takeL
  rw [h, he, hm]
  simp [(sealB_iff h).1 hs]
theorem mid_kind {b : List UInt8} : midL 1 st b = if kindOf b = 0 then none else some { st with kd := kindOf b } := by
  unfold midL
  rw [if_pos rfl]
theorem mid_end {b : List UInt8} (h1 : m ≠ 1) (h : b.take 4 = endW) (h4 : 4 ≤ b.length) : midL m st b = if b = endW ++ Lib.itoa st.rows.length then some { st with ended := true } else none := by
  have hp : endW.isPrefixOf b = true := by
    rw [List.isPrefixOf_iff_prefix]
    exact ⟨b.drop 4, by rw [← h, List.take_append_drop]⟩
  unfold midL
  rw [if_neg h1, if_pos hp]
  have he : b.drop 4 = Lib.itoa st.rows.length ↔ b = endW ++ Lib.itoa st.rows.length := by
    constructor
    · intro e
      rw [← e, ← h, List.take_append_drop]
    · intro e
      rw [e]
      rfl
  by_cases e : b.drop 4 = Lib.itoa st.rows.length
  · rw [if_pos e, if_pos (he.1 e)]
  · rw [if_neg e, if_neg (fun x => e (he.2 x))]
theorem mid_row {b : List UInt8} (h1 : m ≠ 1) (h : ¬ (4 ≤ b.length ∧ b.take 4 = endW)) : midL m st b = match rowOf b with
    | none => none
    | some r => if st.rows.length < 100 then some { st with rows := st.rows ++ [r] } else none := by
  have hp : ¬ endW.isPrefixOf b = true := fun e => by
    rw [List.isPrefixOf_iff_prefix] at e
    obtain ⟨r, rfl⟩ := e
    exact h ⟨by rw [List.length_append]; have : endW.length = 4 := rfl; omega, rfl⟩
  unfold midL
  rw [if_neg h1, if_neg hp]
  cases rowOf b <;> rfl
end
end Kr

/-
  Walks of the reference of sheets: the lines of a sheet, their text, what is written.
-/
namespace Go.Proofs.YtkgchngaganokaaGreatDoor
open Go.RowKit Kr
set_option linter.unusedSimpArgs false
set_option linter.unusedVariables false

theorem elem_str : ElemOf Tryz.prog 36 9 (.string ⟨#[]⟩) 1 16 := ⟨Tryz.underlying36, by kernel_rfl, rfl, by decide, by decide⟩
/-- Lines as strings, where they lie. -/
def StrsAt (w : World) (v : Value) (ls : List (List UInt8)) : Prop :=
  ∃ xs : List ByteArray, xs.map (·.data.toList) = ls ∧ IsRow (fun x : ByteArray => [.string x]) 1 w v xs
def LinesIs (w : World) (ls : List (List UInt8)) (e : Ending) (w' : World) : Prop := w.Exts w' ∧ ∃ v, e = .returned v ∧ StrsAt w' v ls

end Go.Proofs.YtkgchngaganokaaGreatDoor

/-
  Walks of the reference of sheets: a text, what is written, whether a sheet is valid.
-/
namespace Kr
set_option linter.unusedVariables false
open Go
theorem lens_few (l : List Int) (h : ∀ z ∈ l, 0 ≤ z ∧ z ≤ 86400000) : Lib.lens (l.map Lib.itoa) ≤ 8 * l.length := by
  induction l with
  | nil => simp [Lib.lens]
  | cons z l ih =>
    have h1 := itoa_few (h z (List.mem_cons_self ..)).1 (h z (List.mem_cons_self ..)).2
    have h2 := ih fun y hy => h y (List.mem_cons_of_mem _ hy)
    simp [Lib.lens] at h2 ⊢
    omega
theorem rowText_few {x : List Int} (h5 : x.length ≤ 5) (h : ∀ z ∈ x, 0 ≤ z ∧ z ≤ 86400000) : (rowText x).length ≤ 50 := by
  have h2 := lens_few x h
  unfold rowText
  cases x with
  | nil => simp [Lib.join_nil]
  | cons y r =>
    rw [List.map_cons, Lib.join_length, List.length_map]
    rw [List.map_cons, List.length_cons] at h2
    simp at h5 ⊢
    omega
theorem lines_few {kd : Int} {l : List (List Int)} (hl : l.length ≤ 1000) (hnum : ∀ x ∈ l, x.length ≤ 5 ∧ ∀ z ∈ x, 0 ≤ z ∧ z ≤ 86400000) : ∀ s ∈ linesOf kd l, s.length ≤ 50 := by
  intro s hs
  unfold linesOf at hs
  rcases List.mem_cons.1 hs with rfl | hs
  · unfold wordOf
    repeat' split
    all_goals decide
  · rcases List.mem_append.1 hs with hs | hs
    · obtain ⟨x, hx, rfl⟩ := List.mem_map.1 hs
      exact rowText_few (hnum x hx).1 (hnum x hx).2
    · obtain rfl := List.mem_singleton.1 hs
      have := itoa_few (z := (l.length : Int)) (by omega) (by omega)
      rw [List.length_append]
      have h4 : endW.length = 4 := rfl
      omega
theorem lines_len (kd : Int) (l : List (List Int)) : (linesOf kd l).length = l.length + 2 := by unfold linesOf; simp
end Kr
namespace Go.Proofs.YtkgchngaganokaaGreatDoor
open Go.RowKit Kr
set_option linter.unusedSimpArgs false
set_option linter.unusedVariables false
def TextIs (w : World) (t : List UInt8) (e : Ending) (w' : World) : Prop := w.Exts w' ∧ ∃ r, e = .returned (.string r) ∧ r.data.toList = t
def WriteIs (w : World) (t : List UInt8 × Int) (e : Ending) (w' : World) : Prop := w.Exts w' ∧ ∃ r, e = .returned (.tuple #[.string r, .int .i64 t.2]) ∧ r.data.toList = t.1
end Go.Proofs.YtkgchngaganokaaGreatDoor

/-
  Sheets as texts: the numbers of a row, piece by piece. Plain laws.
-/
namespace Kr
open Go.Lib
set_option linter.unusedSimpArgs false
set_option linter.unusedVariables false

/-- The numbers of a row, when some were read. -/
def rowFrom (done : List Int) (s : List UInt8) : Option (List Int) := match (splitC s).mapM numOf with
  | some l => if done.length + l.length ≤ 5 then some (done ++ l.map fun n : Nat => (n : Int)) else none
  | none => none
theorem rowOf_from (s : List UInt8) : rowOf s = rowFrom [] s := by
  unfold rowOf rowFrom
  cases (splitC s).mapM numOf with
  | none => rfl
  | some l => simp
theorem mapM_len {α β : Type} {f : α → Option β} : ∀ {l : List α} {ys : List β}, l.mapM f = some ys → ys.length = l.length
  | [], ys, h => by simp at h; subst h; rfl
  | a :: l, ys, h => by
    rw [List.mapM_cons] at h
    cases ha : f a with
    | none => rw [ha] at h; cases h
    | some b =>
      rw [ha] at h
      cases hl : l.mapM f with
      | none => rw [hl] at h; cases h
      | some bs =>
        rw [hl] at h
        cases h
        rw [List.length_cons, List.length_cons, mapM_len hl]
theorem mapM_cons_some {α β : Type} {f : α → Option β} {a : α} {l : List α} {b : β} (h : f a = some b) : (a :: l).mapM f = (l.mapM f).map (b :: ·) := by
  rw [List.mapM_cons, h]
  cases l.mapM f <;> rfl
theorem mapM_cons_none {α β : Type} {f : α → Option β} {a : α} {l : List α} (h : f a = none) : (a :: l).mapM f = none := by
  rw [List.mapM_cons, h]
  rfl
/-- A piece that is no number. -/
theorem rowFrom_bad {done : List Int} {s : List UInt8} (h : numOf (s.take (s.idxOf 44)) = none) : rowFrom done s = none := by
  unfold rowFrom
  rw [splitC_idx]
  by_cases hi : s.idxOf 44 < s.length
  · rw [if_pos hi, mapM_cons_none h]
  · rw [List.take_of_length_le (by omega)] at h
    rw [if_neg hi, mapM_cons_none h]
theorem rowFrom_full {done : List Int} {s : List UInt8} (h : 5 ≤ done.length) : rowFrom done s = none := by
  unfold rowFrom
  cases hm : (splitC s).mapM numOf with
  | none => rfl
  | some l =>
    have h1 := mapM_len hm
    have h2 : 0 < (splitC s).length := List.length_pos_iff.2 (splitC_ne s)
    dsimp only
    rw [if_neg (by omega)]
theorem rowFrom_step {done : List Int} {s : List UInt8} {n : Nat} (hi : s.idxOf 44 < s.length) (h : numOf (s.take (s.idxOf 44)) = some n) : rowFrom done s = rowFrom (done ++ [(n : Int)]) (s.drop (s.idxOf 44 + 1)) := by
  unfold rowFrom
  rw [splitC_idx, if_pos hi, mapM_cons_some h]
  cases (splitC (s.drop (s.idxOf 44 + 1))).mapM numOf with
  | none => rfl
  | some l =>
    simp only [Option.map_some, List.length_cons, List.length_append, List.length_nil, List.map_cons, List.append_assoc, List.singleton_append]
    congr 1
    rw [Nat.add_assoc, Nat.add_comm 1]
theorem rowFrom_last {done : List Int} {s : List UInt8} {n : Nat} (hi : ¬ s.idxOf 44 < s.length) (h : numOf (s.take (s.idxOf 44)) = some n) (hd : done.length < 5) : rowFrom done s = some (done ++ [(n : Int)]) := by
  rw [List.take_of_length_le (by omega)] at h
  unfold rowFrom
  rw [splitC_idx, if_neg hi, mapM_cons_some h]
  simp only [List.mapM_nil, pure, Option.map_some]
  rw [if_pos (by simp; omega)]
  rfl
theorem decFrom_ge : ∀ {l : List UInt8} {a n : Nat}, decFrom a l = some n → a ≤ n
  | [], a, n, h => by simp only [decFrom, Option.some.injEq] at h; omega
  | b :: r, a, n, h => by
    simp only [decFrom] at h
    cases hd : digitVal b with
    | none => rw [hd] at h; cases h
    | some d =>
      rw [hd] at h
      have := decFrom_ge h
      omega
theorem digitVal_of {b : UInt8} (h : digitB b = true) : digitVal b = some (b.toNat - 48) := by
  unfold digitB at h
  simp at h
  unfold digitVal
  rw [if_pos h]
theorem decFrom_bad {l : List UInt8} {b : UInt8} (hb : digitB b = false) : ∀ {a k : Nat}, l[k]? = some b → decFrom a l = none := by
  induction l with
  | nil => intro a k h; simp at h
  | cons c r ih =>
    intro a k h
    simp only [decFrom]
    cases hd : digitVal c with
    | none => rfl
    | some d =>
      cases k with
      | zero =>
        simp at h
        subst h
        unfold digitVal at hd
        unfold digitB at hb
        simp at hb
        split at hd
        · rename_i hx; omega
        · cases hd
      | succ k => exact ih (by simpa using h)
theorem numOf_bad {s : List UInt8} {b : UInt8} {k : Nat} (hb : digitB b = false) (hk : s[k]? = some b) : numOf s = none := by
  unfold numOf decNat
  cases s with
  | nil => simp at hk
  | cons c r =>
    rw [List.isEmpty_cons, if_neg (by simp), decFrom_bad hb hk]
theorem numOf_big {s : List UInt8} {x k : Nat} (h : decFrom 0 (s.take k) = some x) (hx : 86400000 < x) : numOf s = none := by
  cases hn : numOf s with
  | none => rfl
  | some n =>
    obtain ⟨h1, rfl⟩ := numOf_some.1 hn
    have h2 := decNat_digits n
    unfold decNat at h2
    split at h2
    · cases h2
    · rw [← List.take_append_drop k (decDigits n), decFrom_append, h] at h2
      have := decFrom_ge h2
      omega
theorem numOf_whole {s : List UInt8} {x : Nat} (h : decFrom 0 s = some x) (h0 : s ≠ []) (hx : x ≤ 86400000) : numOf s = if decDigits x = s then some x else none := by
  unfold numOf decNat
  rw [if_neg (by simpa using h0), h]
  dsimp only
  by_cases he : decDigits x = s
  · rw [if_pos ⟨hx, he⟩, if_pos he]
  · rw [if_neg (fun h => he h.2), if_neg he]
theorem decFrom_step {s : List UInt8} {k x : Nat} {b : UInt8} (h : decFrom 0 (s.take k) = some x) (hk : s[k]? = some b) (hb : digitB b = true) : decFrom 0 (s.take (k + 1)) = some (10 * x + (b.toNat - 48)) := by
  rw [decFrom_take s k 0 x b _ h hk (digitVal_of hb)]
  congr 1
  omega
end Kr
