/-
  Several texts in one: see the heads of its parts.
-/

import Derived.Test.YtcickafaomfbmaaGreatDoorZSBksVaC
import Derived.Test.YtcickafaomfbmaaGreatDoorZSBksFuncs
import Derived.Test.YtcickafaomfbmaaGreatDoorZSBksVdT
/-
  Walks of package sheet and of its reference: check numbers, numbers as they are written.
-/
namespace Go.Proofs.YtcickafaomfbmaaGreatDoor
open Go.RowKit Kr
set_option linter.unusedSimpArgs false
set_option linter.unusedVariables false

/-- The bytes of a string. -/
theorem tx_len (s : ByteArray) : s.data.toList.length = s.size := (Lib.size_eq s).symm
theorem tx_get {s : ByteArray} {k : Nat} (hk : k < s.size) : s.data.toList[k]? = some (s[k]'hk) := by
  rw [Array.getElem?_toList]
  exact Array.getElem?_eq_getElem hk
theorem tx_inj {a b : ByteArray} (h : a.data.toList = b.data.toList) : a = b := by rw [← Lib.mk_data a, ← Lib.mk_data b, h]
theorem tx_append (a b : ByteArray) : (a ++ b).data.toList = a.data.toList ++ b.data.toList := by simp [ByteArray.data_append]
theorem weigh_step {s : ByteArray} {k : Nat} (hk : k < s.size) : weigh 1 (s.data.toList.take (k + 1)) = weigh 1 (s.data.toList.take k) + (k + 1) * (s[k]'hk).toNat := by
  rw [List.take_add_one, tx_get hk, Option.toList_some, weigh_snoc, List.length_take, tx_len, Nat.min_eq_left (by omega)]
theorem weigh_take_le (l : List UInt8) (k : Nat) (h : l.length ≤ 6000) : weigh 1 (l.take k) ≤ 10000000000 := by
  have h1 := weigh_le (l.take k)
  have h2 : (l.take k).length ≤ 6000 := by rw [List.length_take]; omega
  have h3 : (l.take k).length * (1 + (l.take k).length) ≤ 6000 * 6001 := Nat.mul_le_mul h2 (by omega)
  omega

set_option maxHeartbeats 1000000 in
theorem sheet_sum_any (n : Nat) (s : ByteArray) (w : World) (hn : n ≤ 5000) (hs : s.size ≤ 6000) :
    Calls Tryz.prog 70 #[.int .i64 (n : Int), .string s] w fun e w' => e = .returned (.int .i64 ((sumT n s.data.toList : Nat) : Int)) ∧ w.Exts w' := by
  go_enter Tryz.func70, Tryz.ntmps70
  go_wp2_with fail
  go_loopw [5, 6, 11] (fun a _ i wr => ∃ (k x : Nat), k ≤ s.size ∧ i = .int .i64 k ∧ a = .int .i64 ((x : Nat) : Int) ∧ Hid (x = 7 * n + weigh 1 (s.data.toList.take k)) ∧ x ≤ 20000000000 ∧ wr = w) (fun a _ i wr => s.size - (intOf i).toNat)
  case atStart => exact ⟨0, 7 * n, Nat.zero_le _, rfl, by simp, Lib.hid (by simp [weigh]), by omega, rfl⟩
  case round =>
    obtain ⟨k, x, hk, rfl, rfl, hx, hxl, rfl⟩ := hrel
    rcases Nat.lt_or_ge k s.size with hlt | hge
    · have hw := weigh_step hlt
      have hwl := weigh_take_le s.data.toList (k + 1) (by rw [tx_len]; exact hs)
      have hb : (s[k]'hlt).toNat ≤ 255 := by have := (s[k]'hlt).toNat_lt; omega
      generalize hbb : (s[k]'hlt).toNat = y at hw hb
      have hbi : ((s[k]'hlt).toNat : Int) = (y : Int) := by rw [hbb]
      have hm1 : (0 : Int) ≤ ((k : Int) + 1) * (y : Int) := Int.mul_nonneg (by omega) (by omega)
      have hm2 : ((k : Int) + 1) * (y : Int) ≤ 10000000000 := by
        have h := Nat.mul_le_mul (show k + 1 ≤ 6000 by omega) hb
        have h2 : (((k + 1) * y : Nat) : Int) = ((k : Int) + 1) * (y : Int) := by rw [Int.natCast_mul]; rfl
        omega
      have hxn : x + (k + 1) * y = 7 * n + weigh 1 (s.data.toList.take (k + 1)) := by rw [hw, hx.out]; omega
      have hxn2 : x + (k + 1) * y ≤ 20000000000 := by omega
      have hcast : (((x + (k + 1) * y : Nat)) : Int) = (x : Int) + ((k : Int) + 1) * (y : Int) := by rw [Int.natCast_add, Int.natCast_mul]; rfl
      have HXN := Lib.hid hxn
      clear hxn
      clear hw hwl hx hbb
      go_wp2_with fail
      go_roundw
      case rel => exact ⟨k + 1, x + (k + 1) * y, by omega, by go_num, by rw [hcast], HXN, hxn2, by trivial⟩
      case measure => simp [intOf]; omega
    · have hkk : k = s.size := by omega
      have hx2 := hx.out
      rw [hkk, ← tx_len, List.take_length] at hx2
      have hv : ((sumT n s.data.toList : Nat) : Int) = (x : Int) % 257 := by
        unfold sumT
        rw [← hx2]
        rfl
      have HV := Lib.hid hv
      clear hv
      clear hkk hx hx2
      go_wp2_with fail
      go_ret
      exact ⟨by rw [HV.out]; rfl, exq⟩
end Go.Proofs.YtcickafaomfbmaaGreatDoor

/-
  Sheets as texts: the numbers of valid sheets; lines and texts built one by one.
-/
namespace Kr
set_option linter.unusedVariables false
open Go

theorem mem_nth {x : List Int} {z : Int} (h : z ∈ x) : ∃ k, k < x.length ∧ nth x k = z := by
  obtain ⟨k, hk, e⟩ := List.getElem_of_mem h
  exact ⟨k, hk, by unfold nth; rw [List.getD_eq_getElem?_getD, List.getElem?_eq_getElem hk, e]; rfl⟩
theorem nth_get {x : List Int} {k : Nat} (hk : k < x.length) : x[k]? = some (nth x k) := by
  unfold nth
  rw [List.getD_eq_getElem?_getD, List.getElem?_eq_getElem hk]
  rfl
theorem shRow_nums {kd : Int} {i : Nat} {x last : List Int} (hk : inb 1 4 kd = true) (hl : x.length = colsOf kd) (h : shRow kd i x last = true) (hi : i ≤ 5000) : ∀ z ∈ x, 0 ≤ z ∧ z ≤ 86400000 := by
  intro z hz
  obtain ⟨k, hk1, rfl⟩ := mem_nth hz
  have hkd : kd = 1 ∨ kd = 2 ∨ kd = 3 ∨ kd = 4 := by unfold inb at hk; simp at hk; omega
  obtain rfl | rfl | rfl | rfl := hkd
  · rw [show colsOf 1 = 2 from rfl] at hl
    have h : rideRow i x last = true := h
    unfold rideRow inb at h
    obtain rfl | rfl : k = 0 ∨ k = 1 := by omega
    all_goals
      split at h
      all_goals
        simp only [Bool.and_eq_true, decide_eq_true_eq] at h
        omega
  · rw [show colsOf 2 = 2 from rfl] at hl
    have h : startRow i x = true := h
    unfold startRow inb at h
    simp only [Bool.and_eq_true, decide_eq_true_eq] at h
    obtain rfl | rfl : k = 0 ∨ k = 1 := by omega
    all_goals omega
  · rw [show colsOf 3 = 5 from rfl] at hl
    have h : iceRow i x last = true := h
    unfold iceRow inb at h
    simp only [Bool.and_eq_true, decide_eq_true_eq] at h
    obtain rfl | rfl | rfl | rfl | rfl : k = 0 ∨ k = 1 ∨ k = 2 ∨ k = 3 ∨ k = 4 := by omega
    all_goals omega
  · rw [show colsOf 4 = 2 from rfl] at hl
    have h : judgeRow i x = true := h
    unfold judgeRow inb at h
    simp only [Bool.and_eq_true, decide_eq_true_eq] at h
    obtain rfl | rfl : k = 0 ∨ k = 1 := by omega
    all_goals omega
theorem rowsOk_nums {kd : Int} (hk : inb 1 4 kd = true) : ∀ {l : List (List Int)} {i : Nat} {last : List Int}, rowsOk kd i last l = true → i + l.length ≤ 5000 → ∀ x ∈ l, x.length ≤ 5 ∧ ∀ z ∈ x, 0 ≤ z ∧ z ≤ 86400000
  | [], _, _, _, _, x, hx => by cases hx
  | y :: l, i, last, h, hi, x, hx => by
    rw [List.length_cons] at hi
    simp only [rowsOk, Bool.and_eq_true, decide_eq_true_eq] at h
    rcases List.mem_cons.1 hx with e | e
    · subst e
      refine ⟨?_, shRow_nums hk h.1.1 h.1.2 (by omega)⟩
      rw [h.1.1]
      unfold colsOf
      split <;> decide
    · exact rowsOk_nums hk h.2 (by omega) x e
theorem sheetB_nums {kd : Int} {l : List (List Int)} (h : sheetB kd l = true) (hn : l.length ≤ 5000) : ∀ x ∈ l, x.length ≤ 5 ∧ ∀ z ∈ x, 0 ≤ z ∧ z ≤ 86400000 := by
  unfold sheetB at h
  simp only [Bool.and_eq_true] at h
  exact rowsOk_nums h.1 h.2.2.1 (by omega)
theorem digits_few : ∀ (c : Nat) (n : Nat), 1 ≤ c → n < 10 ^ c → (Lib.decDigits n).length ≤ c
  | 0, _, h, _ => absurd h (by decide)
  | c + 1, n, _, h => by
    rw [Lib.decDigits]
    split
    · simp
    · rename_i h9
      rw [List.length_append]
      have h2 : c ≠ 0 := fun e => by subst e; simp at h; omega
      have := digits_few c (n / 10) (by omega) (by rw [Nat.pow_succ] at h; omega)
      simp
      omega
theorem itoa_pos {z : Int} (h : 0 ≤ z) : Lib.itoa z = Lib.decDigits z.toNat := by
  unfold Lib.itoa
  rw [if_neg (by omega)]
theorem itoa_few {z : Int} (h0 : 0 ≤ z) (h1 : z ≤ 86400000) : (Lib.itoa z).length ≤ 8 := by
  rw [itoa_pos h0]
  exact digits_few 8 _ (by decide) (by omega)

theorem textFrom_snoc (l : List UInt8) : ∀ (a : List (List UInt8)) (n : Nat), textFrom n (a ++ [l]) = textFrom n a ++ (sealT (n + a.length) l ++ [10])
  | [], n => by simp [textFrom]
  | b :: a, n => by
    rw [List.cons_append, textFrom, textFrom_snoc l a (n + 1), textFrom, List.length_cons, show n + 1 + a.length = n + (a.length + 1) by omega]
    simp
end Kr

/-
  Sheets as texts: what is put in a line. Plain.
-/
namespace Kr
set_option linter.unusedVariables false
open Go

theorem dig_digit {d : Nat} (h : d ≤ 9) : digitB (dig d) = true := by
  have : ∀ k : Fin 10, digitB (dig k.val) = true := by decide
  exact this ⟨d, by omega⟩
theorem three_digit {k : Nat} (h : k < 257) : ∀ y ∈ three k, digitB y = true := by
  intro y hy
  unfold three at hy
  simp only [List.mem_cons, List.not_mem_nil, or_false] at hy
  rcases hy with rfl | rfl | rfl
  all_goals exact dig_digit (by omega)
theorem seal_iff {n m : Nat} {l : List UInt8} (h : l.length = m + 4) : sealT n (l.take m) = l ↔ l[m]? = some 32 ∧ l.drop (m + 1) = three (sumT n (l.take m)) := by
  have hm : m < l.length := by omega
  have e : l = l.take m ++ (l[m]'hm :: l.drop (m + 1)) := by
    rw [← List.drop_eq_getElem_cons hm, List.take_append_drop]
  rw [List.getElem?_eq_getElem hm]
  constructor
  · intro hs
    have h2 : l.take m ++ 32 :: three (sumT n (l.take m)) = l.take m ++ (l[m]'hm :: l.drop (m + 1)) := hs.trans e
    have h3 := List.append_cancel_left h2
    injection h3 with h4 h5
    exact ⟨by rw [← h4], h5.symm⟩
  · rintro ⟨h1, h2⟩
    rw [Option.some.injEq] at h1
    rw [h1, h2] at e
    exact e.symm

section
variable {n m i : Nat} {l : List UInt8}
end
end Kr

/-
  Sheets as texts: what is lost is put in again, line by line. Plain.
-/
namespace Kr
set_option linter.unusedVariables false
open Go

theorem cut_dirty {s : List UInt8} (h0 : 0 < s.length) (h : s[s.length - 1]? ≠ some 10) : (cutLines s).2 ≠ [] := by
  intro he
  have hj := cut_join s
  rw [he, List.append_nil] at hj
  rcases List.eq_nil_or_concat (cutLines s).1 with hl | ⟨a, b, hl⟩
  · rw [hl] at hj
    rw [← hj] at h0
    simp at h0
  · rw [hl, List.concat_eq_append, List.flatMap_append] at hj
    apply h
    rw [← hj]
    simp [← List.append_assoc]
theorem cut_clean {s : List UInt8} (h : 0 < s.length → s[s.length - 1]? = some 10) : (cutLines s).2 = [] := by
  have hj := cut_join s
  have hn := (cut_no s).2
  cases hr : (cutLines s).2 with
  | nil => rfl
  | cons y r =>
    rw [hr] at hn hj
    have hlen : 0 < s.length := by rw [← hj, List.length_append, List.length_cons]; omega
    have h2 := h hlen
    have h3 : s[s.length - 1]? = (y :: r)[(y :: r).length - 1]? := by
      conv => lhs; rw [← hj]
      rw [List.getElem?_append_right (by simp), List.length_append]
      congr 1
      first | omega | (simp; done) | (simp; omega)
    rw [h3] at h2
    exact absurd (List.mem_of_getElem? h2) hn
theorem putR_many {n : Nat} {l : List UInt8} (h : 1 < l.count 63) : putR n l = none := by
  unfold putR
  rw [if_neg (fun e => by omega)]
theorem rep_none {n : Nat} {l : List UInt8} {r : List (List UInt8)} {st : List UInt8 × List Int} (h : 63 ∈ l) (hp : putR n l = none) : repairAll n st (l :: r) = .error n := by
  rw [repairAll, if_pos h, hp]
theorem rep_put {n : Nat} {l y : List UInt8} {r : List (List UInt8)} {st : List UInt8 × List Int} (h : 63 ∈ l) (hp : putR n l = some y) : repairAll n st (l :: r) = repairAll (n + 1) (st.1 ++ (y ++ [10]), st.2 ++ [(n : Int)]) r := by
  rw [repairAll, if_pos h, hp]
theorem rep_keep {n : Nat} {l : List UInt8} {r : List (List UInt8)} {st : List UInt8 × List Int} (h : 63 ∉ l) : repairAll n st (l :: r) = repairAll (n + 1) (st.1 ++ (l ++ [10]), st.2) r := by
  rw [repairAll, if_neg h]
/-- What is answered at the end. -/
def repEnd : Except Nat (List UInt8 × List Int) → (List UInt8 × List Int) × Int
  | .error n => (([], [(n : Int)]), 113)
  | .ok s => (s, 0)
theorem repairR_long {t : List UInt8} (h : 1500 < t.length) : repairR t = (([], []), 9) := by unfold repairR; rw [if_pos h]
theorem repairR_dirty {t : List UInt8} (h : ¬ 1500 < t.length) (h2 : (cutLines t).2 ≠ []) : repairR t = (([], []), 111) := by unfold repairR; rw [if_neg h, if_pos h2]
theorem repairR_clean {t : List UInt8} (h : ¬ 1500 < t.length) (h2 : (cutLines t).2 = []) : repairR t = repEnd (repairAll 1 ([], []) (cutLines (t.drop 0)).1) := by
  unfold repairR
  rw [if_neg h, if_neg (fun e => e h2), List.drop_zero]
  cases repairAll 1 ([], []) (cutLines t).1 <;> rfl
theorem putR_len {n : Nat} {l y : List UInt8} (h : putR n l = some y) : y.length = l.length := by
  unfold putR at h
  split at h
  · split at h
    · injection h with h; rw [← h, List.length_set]
    · cases h
  · cases h
end Kr
