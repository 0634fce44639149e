/-
  Several texts in one: see the heads of its parts.
-/
import Derived.Test.YtkgchngaganokaaGreatDoorVaC
import Derived.Test.YtkgchngaganokaaGreatDoorFuncs
import Derived.Test.YtkgchngaganokaaGreatDoorVdT

/-
  Walks of package sheet and of its reference: check numbers, numbers as they are written.
-/
namespace Go.Proofs.YtkgchngaganokaaGreatDoor
open Go.RowKit Kr
set_option linter.unusedSimpArgs false
set_option linter.unusedVariables false

/-- The bytes of a string. -/
theorem tx_len (s : ByteArray) : s.data.toList.length = s.size := (Lib.size_eq s).symm
theorem tx_get {s : ByteArray} {k : Nat} (hk : k < s.size) : s.data.toList[k]? = some (s[k]'hk) := by
  rw [Array.getElem?_toList]
  exact Array.getElem?_eq_getElem hk
theorem tx_inj {a b : ByteArray} (h : a.data.toList = b.data.toList) : a = b := by rw [← Lib.mk_data a, ← Lib.mk_data b, h]
theorem tx_append (a b : ByteArray) : (a ++ b).data.toList = a.data.toList ++ b.data.toList := by simp [ByteArray.data_append]
theorem weigh_step {s : ByteArray} {k : Nat} (hk : k < s.size) : weigh 1 (s.data.toList.take (k + 1)) = weigh 1 (s.data.toList.take k) + (k + 1) * (s[k]'hk).toNat := by
  rw [List.take_add_one, tx_get hk, Option.toList_some, weigh_snoc, List.length_take, tx_len, Nat.min_eq_left (by omega)]
theorem weigh_take_le (l : List UInt8) (k : Nat) (h : l.length ≤ 6000) : weigh 1 (l.take k) ≤ 10000000000 := by
  have h1 := weigh_le (l.take k)
  have h2 : (l.take k).length ≤ 6000 := by rw [List.length_take]; omega
  have h3 : (l.take k).length * (1 + (l.take k).length) ≤ 6000 * 6001 := Nat.mul_le_mul h2 (by omega)
  omega

set_option maxHeartbeats 1000000 in
theorem sheet_sum_any (n : Nat) (s : ByteArray) (w : World) (hn : n ≤ 5000) (hs : s.size ≤ 6000) :
    Calls Tryz.prog 41 #[.int .i64 (n : Int), .string s] w fun e w' => e = .returned (.int .i64 ((sumT n s.data.toList : Nat) : Int)) ∧ w.Exts w' := by
  go_enter Tryz.func41, Tryz.ntmps41
  go_wp2_with fail
  go_loopw [5, 6, 11] (fun a _ i wr => ∃ (k x : Nat), k ≤ s.size ∧ i = .int .i64 k ∧ a = .int .i64 ((x : Nat) : Int) ∧ Hid (x = 7 * n + weigh 1 (s.data.toList.take k)) ∧ x ≤ 20000000000 ∧ wr = w) (fun a _ i wr => s.size - (intOf i).toNat)
  case atStart => exact ⟨0, 7 * n, Nat.zero_le _, rfl, by simp, Lib.hid (by simp [weigh]), by omega, rfl⟩
  case round =>
    obtain ⟨k, x, hk, rfl, rfl, hx, hxl, rfl⟩ := hrel
    rcases Nat.lt_or_ge k s.size with hlt | hge
    · have hw := weigh_step hlt
      have hwl := weigh_take_le s.data.toList (k + 1) (by rw [tx_len]; exact hs)
      have hb : (s[k]'hlt).toNat ≤ 255 := by have := (s[k]'hlt).toNat_lt; omega
      generalize hbb : (s[k]'hlt).toNat = y at hw hb
      have hbi : ((s[k]'hlt).toNat : Int) = (y : Int) := by rw [hbb]
      have hm1 : (0 : Int) ≤ ((k : Int) + 1) * (y : Int) := Int.mul_nonneg (by omega) (by omega)
      have hm2 : ((k : Int) + 1) * (y : Int) ≤ 10000000000 := by
        have h := Nat.mul_le_mul (show k + 1 ≤ 6000 by omega) hb
        have h2 : (((k + 1) * y : Nat) : Int) = ((k : Int) + 1) * (y : Int) := by rw [Int.natCast_mul]; rfl
        omega
      have hxn : x + (k + 1) * y = 7 * n + weigh 1 (s.data.toList.take (k + 1)) := by rw [hw, hx.out]; omega
      have hxn2 : x + (k + 1) * y ≤ 20000000000 := by omega
      have hcast : (((x + (k + 1) * y : Nat)) : Int) = (x : Int) + ((k : Int) + 1) * (y : Int) := by rw [Int.natCast_add, Int.natCast_mul]; rfl
      have HXN := Lib.hid hxn
      clear hxn
      clear hw hwl hx hbb
      go_wp2_with fail
      go_roundw
      case rel => exact ⟨k + 1, x + (k + 1) * y, by omega, by go_num, by rw [hcast], HXN, hxn2, by trivial⟩
      case measure => simp [intOf]; omega
    · have hkk : k = s.size := by omega
      have hx2 := hx.out
      rw [hkk, ← tx_len, List.take_length] at hx2
      have hv : ((sumT n s.data.toList : Nat) : Int) = (x : Int) % 257 := by
        unfold sumT
        rw [← hx2]
        rfl
      have HV := Lib.hid hv
      clear hv
      clear hkk hx hx2
      go_wp2_with fail
      go_ret
      exact ⟨by rw [HV.out]; rfl, exq⟩
theorem digits_piece : ∀ k : Fin 10, ((⟨#[48, 49, 50, 51, 52, 53, 54, 55, 56, 57]⟩ : ByteArray).extract k.val (k.val + 1)).data.toList = Lib.decDigits k.val := by
  intro k
  rw [Lib.extract_data, digits_one k.isLt]
  revert k
  decide
theorem digits19 {n : Nat} (h : n < 10000000000000000000) : (Lib.decDigits n).length ≤ 19 := digits_len n 19 (by decide) h

end Go.Proofs.YtkgchngaganokaaGreatDoor

/-
  Sheets as texts: the numbers of valid sheets; lines and texts built one by one.
-/
namespace Kr
set_option linter.unusedVariables false
open Go

theorem rowText_one (z : Int) : rowText [z] = Lib.itoa z := by
  unfold rowText
  rw [List.map_cons, List.map_nil, Lib.join_one]
theorem rowText_snoc (x : List Int) (z : Int) (h : 0 < x.length) : rowText (x ++ [z]) = (rowText x ++ [44]) ++ Lib.itoa z := by
  unfold rowText
  obtain ⟨y, r, rfl⟩ : ∃ y r, x = y :: r := by
    cases x with
    | nil => simp at h
    | cons y r => exact ⟨y, r, rfl⟩
  rw [List.cons_append, List.map_cons, List.map_append, Lib.join_cons, List.map_cons (l := r), Lib.join_cons]
  simp [Lib.joinTail]
theorem mem_nth {x : List Int} {z : Int} (h : z ∈ x) : ∃ k, k < x.length ∧ nth x k = z := by
  obtain ⟨k, hk, e⟩ := List.getElem_of_mem h
  exact ⟨k, hk, by unfold nth; rw [List.getD_eq_getElem?_getD, List.getElem?_eq_getElem hk, e]; rfl⟩
theorem nth_get {x : List Int} {k : Nat} (hk : k < x.length) : x[k]? = some (nth x k) := by
  unfold nth
  rw [List.getD_eq_getElem?_getD, List.getElem?_eq_getElem hk]
  rfl
theorem shRow_nums {kd : Int} {i : Nat} {x last : List Int} (hk : inb 1 4 kd = true) (hl : x.length = colsOf kd) (h : shRow kd i x last = true) (hi : i ≤ 5000) : ∀ z ∈ x, 0 ≤ z ∧ z ≤ 86400000 := by
  intro z hz
  obtain ⟨k, hk1, rfl⟩ := mem_nth hz
  have hkd : kd = 1 ∨ kd = 2 ∨ kd = 3 ∨ kd = 4 := by unfold inb at hk; simp at hk; omega
  obtain rfl | rfl | rfl | rfl := hkd
  · rw [show colsOf 1 = 2 from rfl] at hl
    have h : rideRow i x last = true := h
    unfold rideRow inb at h
    obtain rfl | rfl : k = 0 ∨ k = 1 := by omega
    all_goals
      split at h
      all_goals
        simp only [Bool.and_eq_true, decide_eq_true_eq] at h
        omega
  · rw [show colsOf 2 = 2 from rfl] at hl
    have h : startRow i x = true := h
    unfold startRow inb at h
    simp only [Bool.and_eq_true, decide_eq_true_eq] at h
    obtain rfl | rfl : k = 0 ∨ k = 1 := by omega
    all_goals omega
  · rw [show colsOf 3 = 5 from rfl] at hl
    have h : iceRow i x last = true := h
    unfold iceRow inb at h
    simp only [Bool.and_eq_true, decide_eq_true_eq] at h
    obtain rfl | rfl | rfl | rfl | rfl : k = 0 ∨ k = 1 ∨ k = 2 ∨ k = 3 ∨ k = 4 := by omega
    all_goals omega
  · rw [show colsOf 4 = 2 from rfl] at hl
    have h : judgeRow i x = true := h
    unfold judgeRow inb at h
    simp only [Bool.and_eq_true, decide_eq_true_eq] at h
    obtain rfl | rfl : k = 0 ∨ k = 1 := by omega
    all_goals omega
theorem rowsOk_nums {kd : Int} (hk : inb 1 4 kd = true) : ∀ {l : List (List Int)} {i : Nat} {last : List Int}, rowsOk kd i last l = true → i + l.length ≤ 5000 → ∀ x ∈ l, x.length ≤ 5 ∧ ∀ z ∈ x, 0 ≤ z ∧ z ≤ 86400000
  | [], _, _, _, _, x, hx => by cases hx
  | y :: l, i, last, h, hi, x, hx => by
    rw [List.length_cons] at hi
    simp only [rowsOk, Bool.and_eq_true, decide_eq_true_eq] at h
    rcases List.mem_cons.1 hx with e | e
    · subst e
      refine ⟨?_, shRow_nums hk h.1.1 h.1.2 (by omega)⟩
      rw [h.1.1]
      unfold colsOf
      split <;> decide
    · exact rowsOk_nums hk h.2 (by omega) x e
theorem sheetB_nums {kd : Int} {l : List (List Int)} (h : sheetB kd l = true) (hn : l.length ≤ 5000) : ∀ x ∈ l, x.length ≤ 5 ∧ ∀ z ∈ x, 0 ≤ z ∧ z ≤ 86400000 := by
  unfold sheetB at h
  simp only [Bool.and_eq_true] at h
  exact rowsOk_nums h.1 h.2.2.1 (by omega)
theorem digits_few : ∀ (c : Nat) (n : Nat), 1 ≤ c → n < 10 ^ c → (Lib.decDigits n).length ≤ c
  | 0, _, h, _ => absurd h (by decide)
  | c + 1, n, _, h => by
    rw [Lib.decDigits]
    split
    · simp
    · rename_i h9
      rw [List.length_append]
      have h2 : c ≠ 0 := fun e => by subst e; simp at h; omega
      have := digits_few c (n / 10) (by omega) (by rw [Nat.pow_succ] at h; omega)
      simp
      omega
theorem itoa_pos {z : Int} (h : 0 ≤ z) : Lib.itoa z = Lib.decDigits z.toNat := by
  unfold Lib.itoa
  rw [if_neg (by omega)]
theorem itoa_few {z : Int} (h0 : 0 ≤ z) (h1 : z ≤ 86400000) : (Lib.itoa z).length ≤ 8 := by
  rw [itoa_pos h0]
  exact digits_few 8 _ (by decide) (by omega)

theorem textFrom_snoc (l : List UInt8) : ∀ (a : List (List UInt8)) (n : Nat), textFrom n (a ++ [l]) = textFrom n a ++ (sealT (n + a.length) l ++ [10])
  | [], n => by simp [textFrom]
  | b :: a, n => by
    rw [List.cons_append, textFrom, textFrom_snoc l a (n + 1), textFrom, List.length_cons, show n + 1 + a.length = n + (a.length + 1) by omega]
    simp
theorem three_few (k : Nat) : (three k).length = 3 := rfl
end Kr

/-
  Sheets as texts: what is put in a line. Plain.
-/
namespace Kr
set_option linter.unusedVariables false
open Go

theorem firstN_none {p : Nat → Bool} : ∀ {k lo : Nat}, (∀ c, lo ≤ c → c < lo + k → p c = false) → firstN p lo k = lo + k
  | 0, lo, h => rfl
  | k + 1, lo, h => by
    rw [firstN, h lo (by omega) (by omega), if_neg (by decide), firstN_none fun c h1 h2 => h c (by omega) (by omega)]
    omega
theorem firstN_hit {p : Nat → Bool} : ∀ {k lo c : Nat}, lo ≤ c → c < lo + k → p c = true → (∀ d, lo ≤ d → d < c → p d = false) → firstN p lo k = c
  | 0, lo, c, h1, h2, h3, h4 => by omega
  | k + 1, lo, c, h1, h2, h3, h4 => by
    rw [firstN]
    rcases Nat.eq_or_lt_of_le h1 with e | e
    · subst e
      rw [h3, if_pos rfl]
    · rw [h4 lo (by omega) e, if_neg (by decide)]
      exact firstN_hit (by omega) (by omega) h3 fun d h5 h6 => h4 d (by omega) h6

theorem dig_digit {d : Nat} (h : d ≤ 9) : digitB (dig d) = true := by
  have : ∀ k : Fin 10, digitB (dig k.val) = true := by decide
  exact this ⟨d, by omega⟩
theorem three_digit {k : Nat} (h : k < 257) : ∀ y ∈ three k, digitB y = true := by
  intro y hy
  unfold three at hy
  simp only [List.mem_cons, List.not_mem_nil, or_false] at hy
  rcases hy with rfl | rfl | rfl
  all_goals exact dig_digit (by omega)
theorem seal_iff {n m : Nat} {l : List UInt8} (h : l.length = m + 4) : sealT n (l.take m) = l ↔ l[m]? = some 32 ∧ l.drop (m + 1) = three (sumT n (l.take m)) := by
  have hm : m < l.length := by omega
  have e : l = l.take m ++ (l[m]'hm :: l.drop (m + 1)) := by
    rw [← List.drop_eq_getElem_cons hm, List.take_append_drop]
  rw [List.getElem?_eq_getElem hm]
  constructor
  · intro hs
    have h2 : l.take m ++ 32 :: three (sumT n (l.take m)) = l.take m ++ (l[m]'hm :: l.drop (m + 1)) := hs.trans e
    have h3 := List.append_cancel_left h2
    injection h3 with h4 h5
    exact ⟨by rw [← h4], h5.symm⟩
  · rintro ⟨h1, h2⟩
    rw [Option.some.injEq] at h1
    rw [h1, h2] at e
    exact e.symm

section
variable {n m i : Nat} {l : List UInt8}
theorem putOk_iff (h : l.length = m + 4) {c : Nat} : putOk n l i c = true ↔ c ≠ 63 ∧ (l.set i (UInt8.ofNat c))[m]? = some 32 ∧ (l.set i (UInt8.ofNat c)).drop (m + 1) = three (sumT n ((l.set i (UInt8.ofNat c)).take m)) := by
  unfold putOk
  rw [Bool.and_eq_true, decide_eq_true_eq, decide_eq_true_eq, h, show m + 4 - 4 = m by omega, seal_iff (by rw [List.length_set]; exact h)]
theorem putR_none (h : ∀ c, 32 ≤ c → c < 127 → putOk n l (l.idxOf 63) c = false) : putR n l = none := by
  unfold putR
  split
  · rw [firstN_none (fun c h1 h2 => h c h1 (by omega)), if_neg (by decide)]
  · rfl
theorem putR_short (h : ¬ (5 ≤ l.length ∧ l.length ≤ 84)) : putR n l = none := by
  unfold putR
  rw [if_neg (fun e => h ⟨e.1, e.2.1⟩)]
theorem putR_hit (h5 : 5 ≤ l.length) (h84 : l.length ≤ 84) (h1 : l.count 63 ≤ 1) {c : Nat} (hc : 32 ≤ c) (hc2 : c < 127) (hp : putOk n l (l.idxOf 63) c = true) (hb : ∀ d, 32 ≤ d → d < c → putOk n l (l.idxOf 63) d = false) : putR n l = some (l.set (l.idxOf 63) (UInt8.ofNat c)) := by
  unfold putR
  rw [if_pos ⟨h5, h84, h1⟩, firstN_hit hc (by omega) hp hb, if_pos hc2]
theorem putR_blank (h : l.length = m + 4) (hi : l.idxOf 63 = i) (hne : i ≠ m) (hb : l[m]? ≠ some 32) : putR n l = none := by
  refine putR_none fun c _ _ => ?_
  cases hp : putOk n l (l.idxOf 63) c with
  | false => rfl
  | true =>
    rw [hi, putOk_iff h, List.getElem?_set_ne hne] at hp
    exact absurd hp.2.1 hb
theorem putR_digit (h : l.length = m + 4) (hi : l.idxOf 63 = i) {j : Nat} (hj : m < j) (hne : i ≠ j) {y : UInt8} (hy : l[j]? = some y) (hd : digitB y = false) : putR n l = none := by
  refine putR_none fun c _ _ => ?_
  cases hp : putOk n l (l.idxOf 63) c with
  | false => rfl
  | true =>
    rw [hi, putOk_iff h] at hp
    have h1 : (three (sumT n ((l.set i (UInt8.ofNat c)).take m)))[j - (m + 1)]? = some y := by
      rw [← hp.2.2, List.getElem?_drop, show m + 1 + (j - (m + 1)) = j by omega, List.getElem?_set_ne hne, hy]
    have h2 := three_digit (sumT_lt _ _) y (List.mem_of_getElem? h1)
    rw [hd] at h2
    cases h2
theorem set_take {b : UInt8} (hi : m ≤ i) : (l.set i b).take m = l.take m := by
  rw [List.take_set]
  exact List.set_eq_of_length_le (by rw [List.length_take]; omega)
theorem putR_unlike (h : l.length = m + 4) (hi : l.idxOf 63 = i) (him : m ≤ i) {j : Nat} (hj : m ≤ j) (hne : i ≠ j) (hx : (sealT n (l.take m))[j]? ≠ l[j]?) : putR n l = none := by
  refine putR_none fun c _ _ => ?_
  cases hp : putOk n l (l.idxOf 63) c with
  | false => rfl
  | true =>
    rw [hi, putOk_iff h, ← seal_iff (by rw [List.length_set]; exact h), set_take him] at hp
    rw [hp.2, List.getElem?_set_ne hne] at hx
    exact absurd rfl hx
theorem seal_byte {n m i : Nat} {a : List UInt8} (ha : a.length = m) (h1 : m ≤ i) (h2 : i < m + 4) : ∃ c : Nat, 32 ≤ c ∧ c < 127 ∧ c ≠ 63 ∧ (sealT n a)[i]? = some (UInt8.ofNat c) := by
  unfold sealT
  rw [List.getElem?_append_right (by omega), ha]
  have hs := sumT_lt n a
  have hd : ∀ k, k ≤ 9 → ∃ c : Nat, 32 ≤ c ∧ c < 127 ∧ c ≠ 63 ∧ dig k = UInt8.ofNat c := fun k hk => ⟨48 + k, by omega, by omega, by omega, rfl⟩
  obtain e | e | e | e : i - m = 0 ∨ i - m = 1 ∨ i - m = 2 ∨ i - m = 3 := by omega
  all_goals rw [e]
  · exact ⟨32, by omega, by omega, by omega, rfl⟩
  · obtain ⟨c, h1, h2, h3, h4⟩ := hd (sumT n a / 100) (by omega)
    exact ⟨c, h1, h2, h3, congrArg some h4⟩
  · obtain ⟨c, h1, h2, h3, h4⟩ := hd (sumT n a / 10 % 10) (by omega)
    exact ⟨c, h1, h2, h3, congrArg some h4⟩
  · obtain ⟨c, h1, h2, h3, h4⟩ := hd (sumT n a % 10) (by omega)
    exact ⟨c, h1, h2, h3, congrArg some h4⟩
theorem putR_whole (h : l.length = m + 4) (h1m : 1 ≤ m) (h84 : m ≤ 80) (hc1 : l.count 63 ≤ 1) (hi : l.idxOf 63 = i) (him : m ≤ i) (hi4 : i < m + 4) (hx : ∀ j, m ≤ j → j < m + 4 → i ≠ j → (sealT n (l.take m))[j]? = l[j]?) : putR n l = some (sealT n (l.take m)) := by
  have hlt : (l.take m).length = m := by rw [List.length_take]; omega
  obtain ⟨c, c1, c2, c3, c4⟩ := seal_byte (n := n) hlt him hi4
  have hset : l.set i (UInt8.ofNat c) = sealT n (l.take m) := by
    refine List.ext_getElem? fun j => ?_
    rcases Nat.lt_or_ge j (m + 4) with hj | hj
    · by_cases hij : i = j
      · subst hij
        rw [c4, List.getElem?_set_self (by omega)]
      · rw [List.getElem?_set_ne hij]
        rcases Nat.lt_or_ge j m with hjm | hjm
        · unfold sealT
          rw [List.getElem?_append_left (by omega), List.getElem?_take_of_lt hjm]
        · exact (hx j hjm hj hij).symm
    · rw [List.getElem?_eq_none (by rw [List.length_set]; omega), List.getElem?_eq_none (by rw [seal_len]; omega)]
  have hok : ∀ d, putOk n l i d = true ↔ d ≠ 63 ∧ sealT n (l.take m) = l.set i (UInt8.ofNat d) := fun d => by
    rw [putOk_iff h, ← seal_iff (by rw [List.length_set]; exact h), set_take him]
  rw [← hset, ← hi]
  refine putR_hit (by omega) (by omega) hc1 c1 c2 ?_ fun d d1 d2 => ?_
  · rw [hi, hok]
    exact ⟨c3, hset.symm⟩
  · cases hp : putOk n l (l.idxOf 63) d with
    | false => rfl
    | true =>
      rw [hi, hok] at hp
      have h9 := hp.2
      have h8 : (l.set i (UInt8.ofNat d))[i]? = some (UInt8.ofNat c) := by rw [← h9, c4]
      rw [List.getElem?_set_self (by omega), Option.some.injEq] at h8
      have h7 := congrArg UInt8.toNat h8
      rw [UInt8.toNat_ofNat_of_lt' (by simp [UInt8.size]; omega), UInt8.toNat_ofNat_of_lt' (by simp [UInt8.size]; omega)] at h7
      omega
/-- The body of a line with a byte put in. -/
def putBody (l : List UInt8) (m i c : Nat) : List UInt8 := l.take i ++ UInt8.ofNat c :: (l.take m).drop (i + 1)
theorem putBody_eq (h : l.length = m + 4) (him : i < m) (c : Nat) : (l.set i (UInt8.ofNat c)).take m = putBody l m i c := by
  unfold putBody
  rw [List.take_set, List.set_eq_take_append_cons_drop, if_pos (by rw [List.length_take]; omega), List.take_take, Nat.min_eq_left (by omega)]
theorem putOk_low (h : l.length = m + 4) (him : i < m) (h32 : l[m]? = some 32) (c : Nat) : putOk n l i c = (decide (c ≠ 63) && decide (three (sumT n (putBody l m i c)) = l.drop (m + 1))) := by
  rw [Bool.eq_iff_iff, putOk_iff h, putBody_eq h him, List.getElem?_set_ne (by omega), List.drop_set_of_lt (by omega), Bool.and_eq_true, decide_eq_true_eq, decide_eq_true_eq]
  exact ⟨fun ⟨a, _, b⟩ => ⟨a, b.symm⟩, fun ⟨a, b⟩ => ⟨a, h32, b.symm⟩⟩
theorem set_body (h : l.length = m + 4) (him : i < m) (c : Nat) : l.set i (UInt8.ofNat c) = putBody l m i c ++ l.drop m := by
  rw [← putBody_eq h him]
  have e : (l.set i (UInt8.ofNat c)).drop m = l.drop m := List.drop_set_of_lt (by omega)
  rw [← e, List.take_append_drop]
end
end Kr

/-
  Sheets as texts: what is lost is put in again, line by line. Plain.
-/
namespace Kr
set_option linter.unusedVariables false
open Go

theorem cut_dirty {s : List UInt8} (h0 : 0 < s.length) (h : s[s.length - 1]? ≠ some 10) : (cutLines s).2 ≠ [] := by
  intro he
  have hj := cut_join s
  rw [he, List.append_nil] at hj
  rcases List.eq_nil_or_concat (cutLines s).1 with hl | ⟨a, b, hl⟩
  · rw [hl] at hj
    rw [← hj] at h0
    simp at h0
  · rw [hl, List.concat_eq_append, List.flatMap_append] at hj
    apply h
    rw [← hj]
    simp [← List.append_assoc]
theorem cut_clean {s : List UInt8} (h : 0 < s.length → s[s.length - 1]? = some 10) : (cutLines s).2 = [] := by
  have hj := cut_join s
  have hn := (cut_no s).2
  cases hr : (cutLines s).2 with
  | nil => rfl
  | cons y r =>
    rw [hr] at hn hj
    have hlen : 0 < s.length := by rw [← hj, List.length_append, List.length_cons]; omega
    have h2 := h hlen
    have h3 : s[s.length - 1]? = (y :: r)[(y :: r).length - 1]? := by
      conv => lhs; rw [← hj]
      rw [List.getElem?_append_right (by simp), List.length_append]
      congr 1
      first | omega | (simp; done) | (simp; omega)
    rw [h3] at h2
    exact absurd (List.mem_of_getElem? h2) hn
theorem last_mem {s : List UInt8} {a : Nat} (h : s[s.length - 1]? = some 10) (ha : a < s.length) : (s.drop a).idxOf 10 < (s.drop a).length := by
  refine List.idxOf_lt_length_iff.2 (List.mem_of_getElem? (i := s.length - 1 - a) ?_)
  rw [List.getElem?_drop, show a + (s.length - 1 - a) = s.length - 1 by omega, h]
theorem idx_not {c : UInt8} : ∀ {l : List UInt8} {i : Nat}, i < l.idxOf c → l[i]? ≠ some c
  | [], i, h => by simp
  | b :: l, i, h => by
    rw [List.idxOf_cons] at h
    by_cases hb : b = c
    · subst hb
      simp at h
    · have h2 : (b == c) = false := by simpa using hb
      rw [h2] at h
      simp only [cond_false] at h
      cases i with
      | zero => simpa using hb
      | succ i => rw [List.getElem?_cons_succ]; exact idx_not (by omega)
/-- Where the line from a on ends. -/
theorem line_end {s : List UInt8} {a : Nat} (h : s[s.length - 1]? = some 10) (ha : a < s.length) :
    ∃ e, a ≤ e ∧ e < s.length ∧ s[e]? = some 10 ∧ (∀ j, a ≤ j → j < e → s[j]? ≠ some 10) ∧ (cutLines (s.drop a)).1 = (s.drop a).take (e - a) :: (cutLines (s.drop (e + 1))).1 := by
  have hl := last_mem h ha
  refine ⟨a + (s.drop a).idxOf 10, by omega, by rw [List.length_drop] at hl; omega, ?_, fun j j1 j2 => ?_, ?_⟩
  · have h3 := List.getElem_idxOf hl
    rw [← List.getElem?_drop, List.getElem?_eq_getElem hl, h3]
  · have := idx_not (l := s.drop a) (i := j - a) (c := 10) (by omega)
    rw [List.getElem?_drop, show a + (j - a) = j by omega] at this
    exact this
  · rw [cut_hit hl, List.drop_drop, show a + (s.drop a).idxOf 10 - a = (s.drop a).idxOf 10 by omega, Nat.add_assoc]
/-- The part of a line that was looked at. -/
def preOf (s : List UInt8) (a k : Nat) : List UInt8 := (s.drop a).take (k - a)
theorem pre_step {s : List UInt8} {a k : Nat} {y : UInt8} (h : s[k]? = some y) (ha : a ≤ k) : preOf s a (k + 1) = preOf s a k ++ [y] := by
  unfold preOf
  rw [show k + 1 - a = (k - a) + 1 by omega, List.take_add_one, List.getElem?_drop, show a + (k - a) = k by omega, h]
  rfl
theorem pre_len {s : List UInt8} {a k : Nat} (ha : a ≤ k) (hk : k ≤ s.length) : (preOf s a k).length = k - a := by
  unfold preOf
  rw [List.length_take, List.length_drop]
  omega
/-- What is known of the lost bytes of a part: how many, and where the only one is. -/
def LostIs (p : List UInt8) (lost many : Nat) : Prop := p.count 63 = many ∧ (many = 1 → p.idxOf 63 = lost ∧ lost < p.length)
theorem lost_nil (x : Nat) : LostIs [] x 0 := ⟨rfl, fun h => by cases h⟩
theorem lost_other {p : List UInt8} {lost many : Nat} {y : UInt8} (h : LostIs p lost many) (hy : y ≠ 63) : LostIs (p ++ [y]) lost many := by
  refine ⟨by rw [List.count_append, h.1, List.count_cons]; simp [hy], fun h1 => ?_⟩
  obtain ⟨h2, h3⟩ := h.2 h1
  have hm : (63 : UInt8) ∈ p := List.count_pos_iff.1 (by rw [h.1]; omega)
  exact ⟨by rw [List.idxOf_append, if_pos hm, h2], by rw [List.length_append]; omega⟩
theorem lost_one {p : List UInt8} {lost many : Nat} (h : LostIs p lost many) : LostIs (p ++ [63]) p.length (many + 1) := by
  refine ⟨by rw [List.count_append, h.1]; rfl, fun h1 => ?_⟩
  have hm : (63 : UInt8) ∉ p := fun e => by
    have := List.count_pos_iff.2 e
    rw [h.1] at this
    omega
  refine ⟨?_, by rw [List.length_append]; simp⟩
  rw [List.idxOf_append, if_neg hm]
  simp
theorem putR_many {n : Nat} {l : List UInt8} (h : 1 < l.count 63) : putR n l = none := by
  unfold putR
  rw [if_neg (fun e => by omega)]
theorem rep_none {n : Nat} {l : List UInt8} {r : List (List UInt8)} {st : List UInt8 × List Int} (h : 63 ∈ l) (hp : putR n l = none) : repairAll n st (l :: r) = .error n := by
  rw [repairAll, if_pos h, hp]
theorem rep_put {n : Nat} {l y : List UInt8} {r : List (List UInt8)} {st : List UInt8 × List Int} (h : 63 ∈ l) (hp : putR n l = some y) : repairAll n st (l :: r) = repairAll (n + 1) (st.1 ++ (y ++ [10]), st.2 ++ [(n : Int)]) r := by
  rw [repairAll, if_pos h, hp]
theorem rep_keep {n : Nat} {l : List UInt8} {r : List (List UInt8)} {st : List UInt8 × List Int} (h : 63 ∉ l) : repairAll n st (l :: r) = repairAll (n + 1) (st.1 ++ (l ++ [10]), st.2) r := by
  rw [repairAll, if_neg h]
/-- What is answered at the end. -/
def repEnd : Except Nat (List UInt8 × List Int) → (List UInt8 × List Int) × Int
  | .error n => (([], [(n : Int)]), 113)
  | .ok s => (s, 0)
theorem repairR_long {t : List UInt8} (h : 1500 < t.length) : repairR t = (([], []), 9) := by unfold repairR; rw [if_pos h]
theorem repairR_dirty {t : List UInt8} (h : ¬ 1500 < t.length) (h2 : (cutLines t).2 ≠ []) : repairR t = (([], []), 111) := by unfold repairR; rw [if_neg h, if_pos h2]
theorem repairR_clean {t : List UInt8} (h : ¬ 1500 < t.length) (h2 : (cutLines t).2 = []) : repairR t = repEnd (repairAll 1 ([], []) (cutLines (t.drop 0)).1) := by
  unfold repairR
  rw [if_neg h, if_neg (fun e => e h2), List.drop_zero]
  cases repairAll 1 ([], []) (cutLines t).1 <;> rfl
theorem putR_len {n : Nat} {l y : List UInt8} (h : putR n l = some y) : y.length = l.length := by
  unfold putR at h
  split at h
  · split at h
    · injection h with h; rw [← h, List.length_set]
    · cases h
  · cases h
end Kr
