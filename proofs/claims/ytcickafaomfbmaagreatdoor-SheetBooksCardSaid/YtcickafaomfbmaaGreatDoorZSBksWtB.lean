/-
  Several texts in one: see the heads of its parts.
-/

import Derived.Test.YtcickafaomfbmaaGreatDoorZSBksVnP
import Derived.Test.YtcickafaomfbmaaGreatDoorZSBksVeX
import Derived.Test.YtcickafaomfbmaaGreatDoorZSBksVdT
import Derived.Test.YtcickafaomfbmaaGreatDoorZSBksYcD
import Derived.Test.YtcickafaomfbmaaGreatDoorZSBksBt
import Derived.Test.YtcickafaomfbmaaGreatDoorZSBksSa
import Derived.Test.YtcickafaomfbmaaGreatDoorZSBksYjT
import Derived.Test.YtcickafaomfbmaaGreatDoorZSBksVwI
/-
  Sheets: what is written is read to the same; what is read is written to the same. Plain laws.
-/
namespace Kr
open Go
set_option linter.unusedSimpArgs false
set_option linter.unusedVariables false

/-- Lines with their check numbers, from line n on. -/
def sealsFrom : Nat → List (List UInt8) → List (List UInt8)
  | _, [] => []
  | n, l :: r => sealT n l :: sealsFrom (n + 1) r
theorem text_seals : ∀ (ls : List (List UInt8)) (n : Nat), textFrom n ls = (sealsFrom n ls).flatMap (· ++ [10])
  | [], _ => rfl
  | l :: r, n => by rw [textFrom, sealsFrom, List.flatMap_cons, text_seals r (n + 1)]; simp
theorem seals_len : ∀ (ls : List (List UInt8)) (n : Nat), (sealsFrom n ls).length = ls.length
  | [], _ => rfl
  | l :: r, n => by rw [sealsFrom, List.length_cons, List.length_cons, seals_len r (n + 1)]
theorem seal_no10 {n : Nat} {l : List UInt8} (h : (10 : UInt8) ∉ l) : (10 : UInt8) ∉ sealT n l := by
  unfold sealT
  intro hm
  rcases List.mem_append.1 hm with hm | hm
  · exact h hm
  · rcases List.mem_cons.1 hm with hm | hm
    · cases hm
    · have := three_digit (sumT_lt n l) 10 hm
      revert this
      decide
theorem seals_no10 : ∀ (ls : List (List UInt8)) (n : Nat), (∀ l ∈ ls, (10 : UInt8) ∉ l) → ∀ l ∈ sealsFrom n ls, (10 : UInt8) ∉ l
  | [], _, _, l, hl => by cases hl
  | x :: r, n, h, l, hl => by
    rw [sealsFrom] at hl
    rcases List.mem_cons.1 hl with rfl | hl
    · exact seal_no10 (h x (List.mem_cons_self ..))
    · exact seals_no10 r (n + 1) (fun y hy => h y (List.mem_cons_of_mem _ hy)) l hl
theorem body_seal (n : Nat) (l : List UInt8) : bodyOf (sealT n l) = l := by
  unfold bodyOf
  rw [seal_len, Nat.add_sub_cancel]
  unfold sealT
  simp
theorem form_seal (n : Nat) (l : List UInt8) : formB (sealT n l) = true := by
  have h1 := seal_len n l
  unfold formB
  rw [h1]
  have h2 : (sealT n l).getD (l.length + 4 - 4) 0 = 32 := by
    rw [Nat.add_sub_cancel]
    unfold sealT
    simp [List.getD_eq_getElem?_getD]
  have h3 : (sealT n l).drop (l.length + 4 - 3) = three (sumT n l) := by
    unfold sealT
    rw [show l.length + 4 - 3 = l.length + 1 by omega]
    simp [List.drop_append]
  rw [h2, h3]
  simp only [decide_true, Bool.true_and, Bool.and_eq_true, decide_eq_true_eq]
  exact ⟨by omega, List.all_eq_true.2 fun y hy => three_digit (sumT_lt n l) y hy⟩
theorem take_seal_ok {n : Nat} {st s : RSt} {b : List UInt8} (he : st.ended = false) (h : midL n st b = some s) : takeL n st (sealT n b) = .ok s := by
  unfold takeL
  rw [he, form_seal, body_seal, h]
  simp
/-! ### rows -/
theorem splitC_none {s : List UInt8} (h : (44 : UInt8) ∉ s) : splitC s = [s] := by
  induction s with
  | nil => rfl
  | cons b r ih =>
    have h1 : b ≠ 44 := fun e => h (by rw [e]; exact List.mem_cons_self ..)
    rw [splitC, if_neg h1, ih (fun hm => h (List.mem_cons_of_mem _ hm))]
theorem splitC_app {a s : List UInt8} (h : (44 : UInt8) ∉ a) : splitC (a ++ 44 :: s) = a :: splitC s := by
  induction a with
  | nil => simp [splitC]
  | cons b r ih =>
    have h1 : b ≠ 44 := fun e => h (by rw [e]; exact List.mem_cons_self ..)
    rw [List.cons_append, splitC, if_neg h1, ih (fun hm => h (List.mem_cons_of_mem _ hm))]
theorem join_two (a b : List UInt8) (r : List (List UInt8)) : Lib.join (a :: b :: r) [44] = a ++ 44 :: Lib.join (b :: r) [44] := by
  rw [Lib.join_cons, Lib.join_cons]
  simp [Lib.joinTail]
theorem split_join : ∀ (ps : List (List UInt8)), ps ≠ [] → (∀ p ∈ ps, (44 : UInt8) ∉ p) → splitC (Lib.join ps [44]) = ps
  | [], h, _ => absurd rfl h
  | [a], _, h => by rw [Lib.join_one]; exact splitC_none (h a (List.mem_cons_self ..))
  | a :: b :: r, _, h => by
    rw [join_two, splitC_app (h a (List.mem_cons_self ..)), split_join (b :: r) (by simp) (fun p hp => h p (List.mem_cons_of_mem _ hp))]
theorem itoa_no {z : Int} (h : 0 ≤ z) (c : UInt8) (hc : c.toNat < 48) : c ∉ Lib.itoa z := fun hm => by
  rw [itoa_pos h] at hm
  have := digits_all _ c hm
  omega
theorem mapM_nums : ∀ {x : List Int}, (∀ z ∈ x, 0 ≤ z ∧ z ≤ 86400000) → (x.map Lib.itoa).mapM numOf = some (x.map Int.toNat)
  | [], _ => rfl
  | z :: r, h => by
    obtain ⟨h0, h1⟩ := h z (List.mem_cons_self ..)
    rw [List.map_cons, mapM_cons_some (b := z.toNat) (numOf_some.2 ⟨by omega, itoa_pos h0⟩), mapM_nums fun y hy => h y (List.mem_cons_of_mem _ hy)]
    rfl
theorem rowOf_text {x : List Int} (h1 : 0 < x.length) (h5 : x.length ≤ 5) (h : ∀ z ∈ x, 0 ≤ z ∧ z ≤ 86400000) : rowOf (rowText x) = some x := by
  unfold rowOf rowText
  rw [split_join _ (by intro e; have := congrArg List.length e; rw [List.length_map] at this; simp at this; subst this; simp at h1) (fun p hp => by
    obtain ⟨z, hz, rfl⟩ := List.mem_map.1 hp
    exact itoa_no (h z hz).1 44 (by decide)), mapM_nums h]
  dsimp only
  rw [if_pos (by rw [List.length_map]; exact h5), List.map_map]
  congr 1
  conv => rhs; rw [← List.map_id x]
  refine List.map_congr_left fun z hz => ?_
  have := (h z hz).1
  simp
  omega
theorem rowText_head {x : List Int} (h1 : 0 < x.length) (h : ∀ z ∈ x, 0 ≤ z ∧ z ≤ 86400000) : endW.isPrefixOf (rowText x) = false := by
  match x, h1 with
  | z :: r, _ =>
    have hz := (h z (List.mem_cons_self ..)).1
    unfold rowText
    rw [List.map_cons, Lib.join_cons]
    have hne : Lib.itoa z ≠ [] := by rw [itoa_pos hz]; exact digits_ne _
    have hno : (101 : UInt8) ∉ Lib.itoa z := fun hm => by
      rw [itoa_pos hz] at hm
      have h2 := (digits_all _ _ hm).2
      revert h2
      decide
    cases hs : Lib.itoa z with
    | nil => exact absurd hs hne
    | cons b t =>
      rw [hs] at hno
      have hb : b ≠ 101 := fun e => hno (by rw [e]; exact List.mem_cons_self ..)
      unfold endW
      simp only [List.cons_append, List.isPrefixOf, Bool.and_eq_false_iff]
      left
      exact beq_eq_false_iff_ne.2 (fun e => hb e.symm)
theorem rowText_no10 {x : List Int} (h : ∀ z ∈ x, 0 ≤ z ∧ z ≤ 86400000) : (10 : UInt8) ∉ rowText x := by
  unfold rowText
  induction x with
  | nil => intro hm; cases hm
  | cons z r ih =>
    have hz := itoa_no (h z (List.mem_cons_self ..)).1 10 (by decide)
    cases r with
    | nil => rw [List.map_cons, List.map_nil, Lib.join_one]; exact hz
    | cons y r =>
      rw [List.map_cons, List.map_cons, join_two]
      intro hm
      rcases List.mem_append.1 hm with hm | hm
      · exact hz hm
      · rcases List.mem_cons.1 hm with hm | hm
        · cases hm
        · exact ih (fun u hu => h u (List.mem_cons_of_mem _ hu)) hm

/-! ### what is read is written to the same -/
theorem inb_le' {a b z : Int} (h : inb a b z = true) : a ≤ z ∧ z ≤ b := by unfold inb at h; simpa using h
/-! ### what is written is read to the same -/
theorem readAll_rows (kd : Int) (tail : List (List UInt8)) : ∀ (rows done : List (List Int)) (n : Nat), 2 ≤ n → (∀ x ∈ rows, 0 < x.length ∧ x.length ≤ 5 ∧ ∀ z ∈ x, 0 ≤ z ∧ z ≤ 86400000) → done.length + rows.length ≤ 100 →
    readAll n ⟨kd, done, false⟩ (sealsFrom n (rows.map rowText ++ tail)) = readAll (n + rows.length) ⟨kd, done ++ rows, false⟩ (sealsFrom (n + rows.length) tail)
  | [], done, n, _, _, _ => by simp
  | x :: r, done, n, hn, h, hl => by
    obtain ⟨h1, h5, hz⟩ := h x (List.mem_cons_self ..)
    rw [List.length_cons] at hl
    have hm : midL n ⟨kd, done, false⟩ (rowText x) = some ⟨kd, done ++ [x], false⟩ := by
      unfold midL
      rw [if_neg (by omega), rowText_head h1 hz, rowOf_text h1 h5 hz]
      simp
      omega
    rw [List.map_cons, List.cons_append, sealsFrom, readAll, take_seal_ok rfl hm]
    dsimp only
    rw [readAll_rows kd tail r (done ++ [x]) (n + 1) (by omega) (fun y hy => h y (List.mem_cons_of_mem _ hy)) (by simp; omega)]
    simp [Nat.add_assoc, Nat.add_comm 1]
theorem mid_end_ok (n : Nat) (hn : 2 ≤ n) (kd : Int) (rows : List (List Int)) : midL n ⟨kd, rows, false⟩ (endW ++ Lib.itoa rows.length) = some ⟨kd, rows, true⟩ := by
  unfold midL
  have hp : endW.isPrefixOf (endW ++ Lib.itoa rows.length) = true := List.isPrefixOf_iff_prefix.2 ⟨_, rfl⟩
  have hd : (endW ++ Lib.itoa (rows.length : Int)).drop 4 = Lib.itoa rows.length := rfl
  rw [if_neg (by omega), if_pos hp, if_pos hd]
theorem kind_of_word {kd : Int} (h : inb 1 4 kd = true) : kindOf (wordOf kd) = kd ∧ (10 : UInt8) ∉ wordOf kd := by
  have h1 := inb_le' h
  have : kd = 1 ∨ kd = 2 ∨ kd = 3 ∨ kd = 4 := by omega
  rcases this with rfl | rfl | rfl | rfl <;> decide
theorem ice_few : ∀ (l : List (List Int)) (i : Nat) (last : List Int), rowsOk 3 i last l = true → (i ≠ 0 → (0 ≤ nth last 0 ∧ nth last 0 ≤ 7) ∧ 0 ≤ nth last 1 ∧ nth last 1 ≤ 11) → (l.length : Int) + (if i = 0 then 0 else nth last 0 * 12 + nth last 1 + 1) ≤ 96
  | [], i, last, _, h => by
    by_cases h0 : i = 0
    · simp [h0]
    · have := h h0
      simp [h0]
      omega
  | x :: r, i, last, hr, h => by
    unfold rowsOk at hr
    simp only [Bool.and_eq_true] at hr
    obtain ⟨⟨_, hx⟩, hr⟩ := hr
    have hx2 : iceRow i x last = true := hx
    unfold iceRow at hx2
    simp only [Bool.and_eq_true, Bool.or_eq_true, decide_eq_true_eq] at hx2
    obtain ⟨⟨⟨⟨⟨⟨b0, b1⟩, _⟩, _⟩, _⟩, _⟩, hs⟩ := hx2
    have b0 := inb_le' b0
    have b1 := inb_le' b1
    have ih := ice_few r (i + 1) x hr (fun _ => ⟨⟨by omega, by omega⟩, by omega, by omega⟩)
    rw [if_neg (by omega)] at ih
    rw [List.length_cons]
    by_cases h0 : i = 0
    · rw [if_pos h0]; push_cast; omega
    · rw [if_neg h0]
      have hl := h h0
      have hs2 := hs.resolve_left h0
      unfold shLess at hs2
      simp only [Bool.or_eq_true, Bool.and_eq_true, decide_eq_true_eq] at hs2
      push_cast
      omega
theorem rows_few {kd : Int} {rows : List (List Int)} (hb : sheetB kd rows = true) : rows.length ≤ 96 := by
  unfold sheetB at hb
  simp only [Bool.and_eq_true] at hb
  obtain ⟨hk, hm, hr, _⟩ := hb
  have h1 := inb_le' hk
  have : kd = 1 ∨ kd = 2 ∨ kd = 3 ∨ kd = 4 := by omega
  rcases this with rfl | rfl | rfl | rfl
  · unfold manyOk at hm; simp at hm; omega
  · unfold manyOk at hm; simp at hm; omega
  · have := ice_few rows 0 [] hr (fun h => absurd rfl h)
    simp at this
    omega
  · unfold manyOk at hm; simp at hm; omega
theorem rows_pos {kd : Int} : ∀ {l : List (List Int)} {i : Nat} {last : List Int}, rowsOk kd i last l = true → ∀ x ∈ l, 0 < x.length
  | [], _, _, _, x, hx => by cases hx
  | y :: r, i, last, h, x, hx => by
    unfold rowsOk at h
    simp only [Bool.and_eq_true, decide_eq_true_eq] at h
    rcases List.mem_cons.1 hx with rfl | hx
    · rw [h.1.1]; unfold colsOf; split <;> decide
    · exact rows_pos h.2 x hx
theorem lines_no10 {kd : Int} {rows : List (List Int)} (hk : inb 1 4 kd = true) (h : ∀ x ∈ rows, x.length ≤ 5 ∧ ∀ z ∈ x, 0 ≤ z ∧ z ≤ 86400000) : ∀ l ∈ linesOf kd rows, (10 : UInt8) ∉ l := by
  intro l hl
  unfold linesOf at hl
  rcases List.mem_cons.1 hl with rfl | hl
  · exact (kind_of_word hk).2
  · rcases List.mem_append.1 hl with hl | hl
    · obtain ⟨x, hx, rfl⟩ := List.mem_map.1 hl
      exact rowText_no10 (h x hx).2
    · obtain rfl := List.mem_singleton.1 hl
      intro hm
      rcases List.mem_append.1 hm with hm | hm
      · revert hm; decide
      · exact itoa_no (by omega) 10 (by decide) hm
theorem count_lines : ∀ (ls : List (List UInt8)), (∀ l ∈ ls, (10 : UInt8) ∉ l) → (ls.flatMap (· ++ [10])).count 10 = ls.length
  | [], _ => rfl
  | l :: r, h => by
    rw [List.flatMap_cons, List.count_append, List.count_append, List.count_eq_zero.2 (h l (List.mem_cons_self ..)), count_lines r fun y hy => h y (List.mem_cons_of_mem _ hy), List.length_cons]
    simp
    omega
theorem write_read {kd : Int} {rows : List (List Int)} (hb : sheetB kd rows = true) (hl : (textFrom 1 (linesOf kd rows)).length ≤ 1500) :
    readR (textFrom 1 (linesOf kd rows)) = ((kd, rows), 0, 0) ∧ (textFrom 1 (linesOf kd rows)).count 10 = rows.length + 2 := by
  have hfew := rows_few hb
  have hnum := sheetB_nums hb (by omega)
  have hb2 := hb
  unfold sheetB at hb2
  simp only [Bool.and_eq_true] at hb2
  obtain ⟨hk, _, hr, _⟩ := hb2
  have hpos := rows_pos hr
  have hno := seals_no10 (linesOf kd rows) 1 (lines_no10 hk hnum)
  have hcut := cut_of_lines _ hno
  have hcnt := count_lines _ hno
  rw [← text_seals] at hcut hcnt
  refine ⟨?_, by rw [hcnt, seals_len, linesOf]; simp⟩
  have hall : readAll 1 ⟨0, [], false⟩ (sealsFrom 1 (linesOf kd rows)) = .ok ⟨kd, rows, true⟩ := by
    have hm : midL 1 ⟨0, [], false⟩ (wordOf kd) = some ⟨kd, [], false⟩ := by
      unfold midL
      have hkd := inb_le' hk
      rw [if_pos rfl, (kind_of_word hk).1, if_neg (by omega)]
    unfold linesOf
    rw [sealsFrom, readAll, take_seal_ok rfl hm]
    dsimp only
    rw [readAll_rows kd _ rows [] 2 (by omega) (fun x hx => ⟨hpos x hx, hnum x hx⟩) (by simp; omega), List.nil_append, sealsFrom, readAll, take_seal_ok rfl (mid_end_ok _ (by omega) kd rows)]
    rfl
  unfold readR
  rw [if_neg (by omega), hcut]
  dsimp only
  rw [hall]
  dsimp only
  rw [if_neg (by simp), if_pos hb]

/-! ### line feeds -/
end Kr

/-
  Walks of the laws' package of sheets: sum, ready, ends.
-/
namespace Go.Proofs.YtcickafaomfbmaaGreatDoor
open Go.RowKit Kr
set_option linter.unusedSimpArgs false
set_option linter.unusedVariables false

theorem l11_sum_any (n : Int) (s : ByteArray) (x : Int) (w : World) (h : sumR n s.data.toList = (x, 0)) :
    Calls Tryz.prog 21 #[.int .i64 n, .string s, .int .i64 x] w fun e w' => e = .returned (.bool true) ∧ w.Exts w' := by
  have hs := fun (W : World) => sheet_Sum_any n s W
  rw [h] at hs
  have HS := Lib.hid hs
  clear hs
  clear h
  go_enter Tryz.func21, Tryz.ntmps21
  go_wp2_with (go_at_call 50; refine (HS.out _).mono ?_; rintro e w' ⟨rfl, X2, rfl⟩)
  go_ret
  exact ⟨rfl, exq⟩

end Go.Proofs.YtcickafaomfbmaaGreatDoor

/-
  The law SheetWritten: its walk; the laws' alive.
-/
namespace Kr
theorem write_empty : textFrom 1 (linesOf 2 []) = [115, 116, 97, 114, 116, 32, 49, 51, 57, 10, 101, 110, 100, 32, 48, 32, 50, 51, 50, 10] := by
  have h0 : Go.Lib.itoa (([] : List (List Int)).length : Int) = [48] := by
    rw [itoa_nat]
    exact digits_one (by decide)
  unfold linesOf
  rw [h0]
  decide +kernel
theorem write_none : writeR 2 [] = ([115, 116, 97, 114, 116, 32, 49, 51, 57, 10, 101, 110, 100, 32, 48, 32, 50, 51, 50, 10], 0) := by
  unfold writeR
  rw [write_empty]
  decide +kernel
theorem read_none : readR [115, 116, 97, 114, 116, 32, 49, 51, 57, 10, 101, 110, 100, 32, 48, 32, 50, 51, 50, 10] = ((2, []), 0, 0) := by
  have h := (write_read (kd := 2) (rows := []) (by decide +kernel) (by rw [write_empty]; decide +kernel)).1
  rw [write_empty] at h
  exact h
theorem repair_one : repairR [114, 63, 100, 101, 32, 48, 48, 55, 10] = (([114, 105, 100, 101, 32, 48, 48, 55, 10], [1]), 0) := by decide +kernel
end Kr
namespace Go.Proofs.YtcickafaomfbmaaGreatDoor
open Go.RowKit Kr
set_option linter.unusedSimpArgs false
set_option linter.unusedVariables false

set_option maxRecDepth 4000 in
set_option maxHeartbeats 4000000 in
theorem l11_alive_any (w : World) (hw : LibAt w) : Calls Tryz.prog 5 #[] w fun e w' => e = .returned (.bool true) ∧ w.Exts w' := by
  have hwr : ∀ W : World, w.Exts W → Calls Tryz.prog 10 #[.agg #[.int .u8 2, .slice none 0 0]] W fun e w' => e = .returned (.tuple #[.string ⟨#[115, 116, 97, 114, 116, 32, 49, 51, 57, 10, 101, 110, 100, 32, 48, 32, 50, 51, 50, 10]⟩, .int .i64 0]) ∧ W.Exts w' := fun W hE => by
    have h := sheet_Write_any ice_fn 2 [] (.slice none 0 0) W (lists_none W) (by simp) (by decide) (hw.mono hE)
    rw [List.map_nil, write_none] at h
    exact h.mono fun e w' h2 => h2.det
  have hrd : ∀ W : World, w.Exts W → Calls Tryz.prog 11 #[.string ⟨#[115, 116, 97, 114, 116, 32, 49, 51, 57, 10, 101, 110, 100, 32, 48, 32, 50, 51, 50, 10]⟩] W fun e w' => ∃ q c, e = .returned (.tuple #[.agg #[.int .u8 2, .slice q 0 c], .int .i64 0, .int .i64 0]) ∧ W.Exts w' := fun W hE => by
    have h := sheet_Read_any ice_fn ⟨#[115, 116, 97, 114, 116, 32, 49, 51, 57, 10, 101, 110, 100, 32, 48, 32, 50, 51, 50, 10]⟩ W (hw.mono hE)
    rw [show (⟨#[115, 116, 97, 114, 116, 32, 49, 51, 57, 10, 101, 110, 100, 32, 48, 32, 50, 51, 50, 10]⟩ : ByteArray).data.toList = [115, 116, 97, 114, 116, 32, 49, 51, 57, 10, 101, 110, 100, 32, 48, 32, 50, 51, 50, 10] from rfl, read_none] at h
    refine h.mono fun e w' h2 => ?_
    obtain ⟨q, c, ps, rfl, _, hm, hE2⟩ := h2.det
    obtain rfl : ps = [] := List.map_eq_nil_iff.1 hm
    exact ⟨q, c, rfl, hE2⟩
  have hrp : ∀ W : World, w.Exts W → Calls Tryz.prog 20 #[.string ⟨#[114, 63, 100, 101, 32, 48, 48, 55, 10]⟩] W fun e w' => ∃ q c, e = .returned (.tuple #[.string ⟨#[114, 105, 100, 101, 32, 48, 48, 55, 10]⟩, .slice q 1 c, .int .i64 0]) ∧ IsRow (fun x : Int => [.int .i64 x]) 1 w' (.slice q 1 c) [1] ∧ W.Exts w' := fun W hE => by
    have h := sheet_Repair_any ⟨#[114, 63, 100, 101, 32, 48, 48, 55, 10]⟩ W (hw.mono hE)
    rw [show (⟨#[114, 63, 100, 101, 32, 48, 48, 55, 10]⟩ : ByteArray).data.toList = [114, 63, 100, 101, 32, 48, 48, 55, 10] from rfl, repair_one] at h
    exact h.mono fun e w' h2 => h2.det
  have hs1 := fun (W : World) => l11_sum_any 1 ⟨#[114, 105, 100, 101]⟩ 7 W (by decide +kernel)
  have hs2 := fun (W : World) => l11_sum_any 2 ⟨#[49, 48, 48, 48, 48, 44, 50, 48, 48, 48, 48]⟩ 89 W (by decide +kernel)
  have HWR := Lib.hid hwr
  clear hwr
  have HRD := Lib.hid hrd
  clear hrd
  have HRP := Lib.hid hrp
  clear hrp
  have HS1 := Lib.hid hs1
  clear hs1
  have HS2 := Lib.hid hs2
  clear hs2
  clear hw
  go_enter Tryz.func5, Tryz.ntmps5
  go_wp2_with (first
    | (go_at_call 10; refine (HWR.out _ exq).mono ?_; rintro e w' ⟨rfl, X2, rfl⟩)
    | (go_at_call 11; refine (HRD.out _ exq).mono ?_; rintro e w' ⟨q1, c1, rfl, X3, rfl⟩)
    | (go_at_call 20; refine (HRP.out _ exq).mono ?_; rintro e w' ⟨q2, c2, rfl, hz, X4, rfl⟩; have HZ := Lib.hid hz; clear hz)
    | (go_at_call 21; (with_reducible refine (HS1.out _).mono ?_); rintro e w' ⟨rfl, X5, rfl⟩)
    | (go_at_call 21; (with_reducible refine (HS2.out _).mono ?_); rintro e w' ⟨rfl, X6, rfl⟩)
    | (go_at_call 19; refine (r01_SameInts_any [1] _ _ _ (HZ.out.mono exq) (row_one _ _)).mono ?_; rintro e w' ⟨rfl, X7, rfl⟩))
  go_ret
  exact ⟨rfl, exq⟩
end Go.Proofs.YtcickafaomfbmaaGreatDoor

/-
  Sheets: texts of written sheets whose lines are cut, changed, or put together otherwise. Plain laws.
-/
namespace Kr
open Go
set_option linter.unusedSimpArgs false
set_option linter.unusedVariables false

/-! ### a text that is cut off -/
/-! ### a byte that is changed -/
/-! ### lines in another order -/
/-- Lines by their numbers. -/
def pick (ls : List (List UInt8)) (l : List Nat) : List (List UInt8) := l.map fun k => ls.getD k []
end Kr

/-
  Walks of the laws' package of sheets: at; what the laws' first calls answer.
-/
namespace Go.Proofs.YtcickafaomfbmaaGreatDoor
open Go.RowKit Kr
set_option linter.unusedSimpArgs false
set_option linter.unusedVariables false

end Go.Proofs.YtcickafaomfbmaaGreatDoor
