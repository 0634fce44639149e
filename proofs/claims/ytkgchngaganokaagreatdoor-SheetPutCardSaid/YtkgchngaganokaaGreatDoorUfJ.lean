/-
  Several texts in one: see the heads of its parts.
-/
import Derived.Test.YtkgchngaganokaaGreatDoorWtB
import Derived.Test.YtkgchngaganokaaGreatDoorVnP
import Derived.Test.YtkgchngaganokaaGreatDoorIbR

/-
  Sheets: lines that change places, are left out, or stand twice. Plain laws.
-/
namespace Kr
open Go
set_option linter.unusedSimpArgs false
set_option linter.unusedVariables false

/-- Two lines that change places. -/
def swapAt (i k x : Nat) : Nat := if x = i then k else if x = k then i else x
def swapOf (i k n : Nat) : List Nat := (List.range n).map (swapAt i k)
/-- A line that is left out. -/
def lessOf (i n : Nat) : List Nat := (List.range n).flatMap fun x => if x = i then [] else [x]
/-- A line that stands twice. -/
def twiceOf (i n : Nat) : List Nat := (List.range n).flatMap fun x => if x = i then [x, x] else [x]
theorem swap_step (i k n : Nat) : swapOf i k (n + 1) = swapOf i k n ++ [swapAt i k n] := by unfold swapOf; rw [List.range_succ]; simp
theorem less_step (i n : Nat) : lessOf i (n + 1) = lessOf i n ++ if n = i then [] else [n] := by unfold lessOf; rw [List.range_succ]; simp
theorem twice_step (i n : Nat) : twiceOf i (n + 1) = twiceOf i n ++ if n = i then [n, n] else [n] := by unfold twiceOf; rw [List.range_succ]; simp
theorem swap_len (i k n : Nat) : (swapOf i k n).length = n := by unfold swapOf; simp
theorem less_len (i : Nat) : ∀ n, (lessOf i n).length ≤ n
  | 0 => by simp [lessOf]
  | n + 1 => by
    have := less_len i n
    rw [less_step, List.length_append]
    split <;> simp <;> omega
theorem twice_len (i : Nat) : ∀ n, (twiceOf i n).length ≤ 2 * n
  | 0 => by simp [twiceOf]
  | n + 1 => by
    have := twice_len i n
    rw [twice_step, List.length_append]
    split <;> simp <;> omega
theorem swap_in {i k n : Nat} (hi : i < n) (hk : k < n) : ∀ x ∈ swapOf i k n, x < n := by
  intro x hx
  unfold swapOf at hx
  obtain ⟨y, hy, rfl⟩ := List.mem_map.1 hx
  rw [List.mem_range] at hy
  unfold swapAt
  split
  · exact hk
  · split
    · exact hi
    · exact hy
theorem less_in {i n : Nat} : ∀ x ∈ lessOf i n, x < n := by
  intro x hx
  unfold lessOf at hx
  obtain ⟨y, hy, hx⟩ := List.mem_flatMap.1 hx
  rw [List.mem_range] at hy
  split at hx
  · cases hx
  · rw [List.mem_singleton.1 hx]; exact hy
theorem twice_in {i n : Nat} : ∀ x ∈ twiceOf i n, x < n := by
  intro x hx
  unfold twiceOf at hx
  obtain ⟨y, hy, hx⟩ := List.mem_flatMap.1 hx
  rw [List.mem_range] at hy
  split at hx
  · simp at hx; omega
  · rw [List.mem_singleton.1 hx]; exact hy
theorem range_split {i n : Nat} (h : i < n) : List.range n = List.range i ++ i :: List.range' (i + 1) (n - 1 - i) := by
  rw [List.range_eq_range', List.range_eq_range', show n = i + ((n - 1 - i) + 1) by omega, ← List.range'_append_1, Nat.zero_add, List.range'_succ, show i + (n - 1 - i + 1) - 1 - i = n - 1 - i by omega]
theorem range_mid {i k m : Nat} (h1 : i < k) (h2 : k ≤ i + m) : List.range' (i + 1) m = List.range' (i + 1) (k - 1 - i) ++ k :: List.range' (k + 1) (i + m - k) := by
  rw [show m = (k - 1 - i) + ((i + m - k) + 1) by omega, ← List.range'_append_1, List.range'_succ, show i + 1 + (k - 1 - i) = k by omega, show i + (k - 1 - i + (i + m - k + 1)) - k = i + m - k by omega]
theorem flat_same {g : Nat → List Nat} : ∀ {l : List Nat}, (∀ x ∈ l, g x = [x]) → l.flatMap g = l
  | [], _ => rfl
  | a :: r, h => by
    rw [List.flatMap_cons, h a (List.mem_cons_self ..), flat_same fun x hx => h x (List.mem_cons_of_mem _ hx)]
    rfl
theorem less_is {i n : Nat} (h : i < n) : lessOf i n = List.range i ++ List.range' (i + 1) (n - 1 - i) := by
  unfold lessOf
  rw [range_split h, List.flatMap_append, List.flatMap_cons, if_pos rfl]
  have h1 : (List.range i).flatMap (fun x => if x = i then [] else [x]) = List.range i := by
    refine flat_same fun x hx => ?_
    rw [List.mem_range] at hx
    rw [if_neg (by omega)]
  have h2 : (List.range' (i + 1) (n - 1 - i)).flatMap (fun x => if x = i then [] else [x]) = List.range' (i + 1) (n - 1 - i) := by
    refine flat_same fun x hx => ?_
    rw [List.mem_range'_1] at hx
    rw [if_neg (by omega)]
  rw [h1, h2]
  rfl
theorem twice_is {i n : Nat} (h : i < n) : twiceOf i n = List.range (i + 1) ++ i :: List.range' (i + 1) (n - 1 - i) := by
  unfold twiceOf
  rw [range_split h, List.flatMap_append, List.flatMap_cons, if_pos rfl]
  have h1 : (List.range i).flatMap (fun x => if x = i then [x, x] else [x]) = List.range i := by
    refine flat_same fun x hx => ?_
    rw [List.mem_range] at hx
    rw [if_neg (by omega)]
  have h2 : (List.range' (i + 1) (n - 1 - i)).flatMap (fun x => if x = i then [x, x] else [x]) = List.range' (i + 1) (n - 1 - i) := by
    refine flat_same fun x hx => ?_
    rw [List.mem_range'_1] at hx
    rw [if_neg (by omega)]
  rw [h1, h2, List.range_succ]
  simp
theorem map_same {f : Nat → Nat} {l : List Nat} (h : ∀ x ∈ l, f x = x) : l.map f = l := by
  conv => rhs; rw [← List.map_id l]
  exact List.map_congr_left h
theorem swap_is {lo hi i k n : Nat} (h1 : lo < hi) (h2 : hi < n) (hik : (i = lo ∧ k = hi) ∨ (i = hi ∧ k = lo)) : swapOf i k n = List.range lo ++ hi :: (List.range' (lo + 1) (hi - 1 - lo) ++ lo :: List.range' (hi + 1) (n - 1 - hi)) ∧ List.range n = List.range lo ++ lo :: (List.range' (lo + 1) (hi - 1 - lo) ++ hi :: List.range' (hi + 1) (n - 1 - hi)) := by
  have hr : List.range n = List.range lo ++ lo :: (List.range' (lo + 1) (hi - 1 - lo) ++ hi :: List.range' (hi + 1) (n - 1 - hi)) := by
    rw [range_split (show lo < n by omega), range_mid (i := lo) (k := hi) (m := n - 1 - lo) h1 (by omega), show lo + (n - 1 - lo) - hi = n - 1 - hi by omega]
  refine ⟨?_, hr⟩
  unfold swapOf
  rw [hr, List.map_append, List.map_cons, List.map_append, List.map_cons]
  rw [map_same fun x hx => ?a, map_same fun x hx => ?b, map_same fun x hx => ?c]
  case a => rw [List.mem_range] at hx; unfold swapAt; rw [if_neg (by omega), if_neg (by omega)]
  case b => rw [List.mem_range'_1] at hx; unfold swapAt; rw [if_neg (by omega), if_neg (by omega)]
  case c => rw [List.mem_range'_1] at hx; unfold swapAt; rw [if_neg (by omega), if_neg (by omega)]
  have e1 : swapAt i k lo = hi := by unfold swapAt; rcases hik with ⟨rfl, rfl⟩ | ⟨rfl, rfl⟩ <;> simp <;> omega
  have e2 : swapAt i k hi = lo := by unfold swapAt; rcases hik with ⟨rfl, rfl⟩ | ⟨rfl, rfl⟩ <;> simp <;> omega
  rw [e1, e2]
theorem pick_range (ls : List (List UInt8)) : pick ls (List.range ls.length) = ls := by
  apply List.ext_getElem?
  intro k
  unfold pick
  rw [List.getElem?_map]
  rcases Nat.lt_or_ge k ls.length with h | h
  · rw [List.getElem?_range h, Option.map_some, List.getD_eq_getElem?_getD, List.getElem?_eq_getElem h]
    rfl
  · rw [List.getElem?_eq_none (by simpa using h), List.getElem?_eq_none h]
    rfl
/-- The text of lines by their numbers. -/
def pickText (ls : List (List UInt8)) (l : List Nat) : List UInt8 := (pick ls l).flatMap (· ++ [10])
theorem pickText_app (ls : List (List UInt8)) (a b : List Nat) : pickText ls (a ++ b) = pickText ls a ++ pickText ls b := by unfold pickText pick; simp
theorem pickText_cons (ls : List (List UInt8)) (a : Nat) (b : List Nat) : pickText ls (a :: b) = pickText ls [a] ++ pickText ls b := by unfold pickText pick; simp

section
variable {kd : Int} {rows : List (List Int)} {i k n : Nat}
theorem pick_whole : pickText (sealsOf kd rows) (List.range (rows.length + 2)) = textFrom 1 (linesOf kd rows) := by
  have h := pick_range (sealsOf kd rows)
  rw [sealsOf_len] at h
  unfold pickText
  rw [h, sealsOf_text]
theorem range_get {n x : Nat} (h : x < n) : (List.range n)[x]? = some x := List.getElem?_range h
theorem read_swapped (h : sheetB kd rows = true) (hl : (textFrom 1 (linesOf kd rows)).length ≤ 1500) (hi : i < rows.length + 2) (hk : k < rows.length + 2) (hne : i ≠ k) :
    ∃ e, (e = 111 ∨ e = 112) ∧ readR (pickText (sealsOf kd rows) (swapOf i k (rows.length + 2))) = ((0, []), ((min i k + 1 : Nat) : Int), e) := by
  obtain ⟨lo, hi', h1, h2, hik, hmin⟩ : ∃ lo hi', lo < hi' ∧ hi' < rows.length + 2 ∧ ((i = lo ∧ k = hi') ∨ (i = hi' ∧ k = lo)) ∧ min i k = lo := by
    rcases Nat.lt_or_ge i k with h | h
    · exact ⟨i, k, h, hk, .inl ⟨rfl, rfl⟩, by omega⟩
    · exact ⟨k, i, by omega, hi, .inr ⟨rfl, rfl⟩, by omega⟩
  obtain ⟨e1, e2⟩ := swap_is h1 h2 hik
  have hlen : (pickText (sealsOf kd rows) (swapOf i k (rows.length + 2))).length = (textFrom 1 (linesOf kd rows)).length := by
    rw [← pick_whole, e1, e2, pickText_app, pickText_app, pickText_cons, pickText_cons _ lo, pickText_app, pickText_app, pickText_cons _ lo (List.range' _ _), pickText_cons _ hi' (List.range' _ _)]
    simp only [List.length_append]
    omega
  rw [hmin]
  refine read_pick h (by show (pickText _ _).length ≤ 1500; omega) (j := lo) (fun x hx => ?_) (fun x hx => ?_) (by omega) (.inr ⟨hi', ?_, by omega⟩)
  · rw [e1, List.getElem?_append_left (by rw [List.length_range]; exact hx), range_get hx]
  · unfold swapOf at hx
    obtain ⟨y, hy, rfl⟩ := List.mem_map.1 hx
    rw [List.mem_range] at hy
    unfold swapAt
    split
    · exact hk
    · split
      · exact hi
      · exact hy
  · rw [e1, List.getElem?_append_right (by rw [List.length_range]; exact Nat.le_refl _), List.length_range, Nat.sub_self]
    rfl
theorem read_less (h : sheetB kd rows = true) (hl : (textFrom 1 (linesOf kd rows)).length ≤ 1500) (hi : i < rows.length + 2) :
    ∃ e, (e = 111 ∨ e = 112) ∧ readR (pickText (sealsOf kd rows) (lessOf i (rows.length + 2))) = ((0, []), ((i + 1 : Nat) : Int), e) := by
  have e1 := less_is hi
  have hlen : (pickText (sealsOf kd rows) (lessOf i (rows.length + 2))).length ≤ (textFrom 1 (linesOf kd rows)).length := by
    rw [← pick_whole, e1, range_split hi, pickText_app, pickText_app, pickText_cons]
    simp only [List.length_append]
    omega
  refine read_pick h (by show (pickText _ _).length ≤ 1500; omega) (j := i) (fun x hx => ?_) (fun x hx => ?_) (by omega) ?_
  · rw [e1, List.getElem?_append_left (by rw [List.length_range]; exact hx), range_get hx]
  · rw [e1] at hx
    rcases List.mem_append.1 hx with hx | hx
    · rw [List.mem_range] at hx; omega
    · rw [List.mem_range'_1] at hx; omega
  · have e2 : (lessOf i (rows.length + 2))[i]? = (List.range' (i + 1) (rows.length + 2 - 1 - i))[0]? := by
      rw [e1, List.getElem?_append_right (by rw [List.length_range]; exact Nat.le_refl _), List.length_range, Nat.sub_self]
    rw [e2]
    rcases Nat.lt_or_ge (i + 1) (rows.length + 2) with h | h
    · refine .inr ⟨i + 1, ?_, by omega⟩
      rw [show rows.length + 2 - 1 - i = (rows.length - i) + 1 by omega, List.range'_succ]
      rfl
    · refine .inl ⟨?_, hi⟩
      rw [show rows.length + 2 - 1 - i = 0 by omega]
      rfl
theorem read_twice (h : sheetB kd rows = true) (hi : i < rows.length + 2) :
    (1500 < (pickText (sealsOf kd rows) (twiceOf i (rows.length + 2))).length ∧ readR (pickText (sealsOf kd rows) (twiceOf i (rows.length + 2))) = ((0, []), 0, 9)) ∨
    ∃ e, (e = 111 ∨ e = 112) ∧ readR (pickText (sealsOf kd rows) (twiceOf i (rows.length + 2))) = ((0, []), ((i + 2 : Nat) : Int), e) := by
  rcases Nat.lt_or_ge 1500 (pickText (sealsOf kd rows) (twiceOf i (rows.length + 2))).length with hl | hl
  · exact .inl ⟨hl, readR_long hl⟩
  right
  have e1 := twice_is hi
  refine read_pick h hl (j := i + 1) (fun x hx => ?_) (fun x hx => ?_) (by omega) (.inr ⟨i, ?_, by omega⟩)
  · rw [e1, List.getElem?_append_left (by rw [List.length_range]; exact hx), range_get hx]
  · rw [e1] at hx
    rcases List.mem_append.1 hx with hx | hx
    · rw [List.mem_range] at hx; omega
    · rcases List.mem_cons.1 hx with rfl | hx
      · exact hi
      · rw [List.mem_range'_1] at hx; omega
  · rw [e1, List.getElem?_append_right (by rw [List.length_range]; exact Nat.le_refl _), List.length_range, Nat.sub_self]
    rfl
end
/-- Where line t ends. -/
theorem ends_at : ∀ (ls : List (List UInt8)) (k : Nat), (∀ l ∈ ls, (10 : UInt8) ∉ l) → ∀ (t : Nat) (l : List UInt8), ls[t]? = some l → (endsN k (ls.flatMap (· ++ [10])))[t]? = some (((k + ((ls.take t).flatMap (· ++ [10])).length + l.length : Nat)) : Int) := by
  have skip : ∀ (l : List UInt8) (k : Nat) (r : List UInt8), (10 : UInt8) ∉ l → endsN k (l ++ 10 :: r) = ((k + l.length : Nat) : Int) :: endsN (k + l.length + 1) r := by
    intro l
    induction l with
    | nil => intro k r _; simp [endsN]
    | cons b l ih =>
      intro k r h
      have hb : b ≠ 10 := fun e => h (by rw [e]; exact List.mem_cons_self ..)
      rw [List.cons_append, endsN, if_neg hb, ih (k + 1) r (fun hm => h (List.mem_cons_of_mem _ hm)), List.length_cons]
      simp only [show k + 1 + l.length = k + (l.length + 1) by omega]
  intro ls
  induction ls with
  | nil => intro k _ t l h; simp at h
  | cons x r ih =>
    intro k hn t l h
    have e : (x :: r).flatMap (· ++ [10]) = x ++ 10 :: r.flatMap (· ++ [10]) := by simp
    rw [e, skip x k _ (hn x (List.mem_cons_self ..))]
    cases t with
    | zero =>
      simp at h
      subst h
      simp
    | succ t =>
      rw [List.getElem?_cons_succ] at h ⊢
      rw [ih (k + x.length + 1) (fun l hl => hn l (List.mem_cons_of_mem _ hl)) t l h, List.take_succ_cons, List.flatMap_cons, List.length_append, List.length_append, List.length_singleton]
      simp only [show k + x.length + 1 + ((r.take t).flatMap (· ++ [10])).length + l.length = k + (x.length + 1 + ((r.take t).flatMap (· ++ [10])).length) + l.length by omega]
end Kr

/-
  Walks of the law SheetSwapped: the text of lines by their numbers.
-/
namespace Go.Proofs.YtkgchngaganokaaGreatDoor
open Go.RowKit Kr
set_option linter.unusedSimpArgs false
set_option linter.unusedVariables false

def strAt (xs : List ByteArray) (k : Nat) : ByteArray := xs.getD k ⟨#[]⟩
set_option maxHeartbeats 2000000 in
theorem l11_swText_any (xs : List ByteArray) (idx : List Nat) (v lv : Value) (bx : Nat) (w : World) (hbox : w.cell? ⟨bx, 0, none⟩ = some lv) (hrow : IsRow (fun x : ByteArray => [.string x]) 1 w lv xs) (hidx : IsRow (fun x : Int => [.int .i64 x]) 1 w v (idx.map fun k : Nat => (k : Int))) (hin : ∀ k ∈ idx, k < xs.length) (hsz : ∀ x ∈ xs, x.size ≤ 200) (hn : idx.length ≤ 1000) :
    Calls Tryz.prog 15 #[v, .pointer (some ⟨bx, 0, none⟩)] w fun e w' => ∃ s : ByteArray, e = .returned (.string s) ∧ s.data.toList = idx.flatMap (fun k => (strAt xs k).data.toList) ∧ w.Exts w' := by
  obtain ⟨p, b, o, cap, rfl, hm, hp, hc⟩ := hidx.ex
  obtain ⟨p2, b2, o2, cap2, rfl, hm2, hp2, hc2⟩ := hrow.ex
  have lb := Lays.of_cell hbox
  rw [List.length_map] at hp hm
  rw [List.length_map]
  have HQ := Lib.hid hp
  clear hp
  have HC := Lib.hid hc
  clear hc
  have HQ2 := Lib.hid hp2
  clear hp2
  have HC2 := Lib.hid hc2
  clear hc2
  have HIN := Lib.hid hin
  clear hin
  have HSZ := Lib.hid hsz
  clear hsz
  clear hrow hidx
  go_enter Tryz.func15, Tryz.ntmps15
  go_wp2_with fail
  go_loopw [4, 6, 9] (fun r _ i wr => ∃ (t : Nat) (s : ByteArray), t ≤ idx.length ∧ i = .int .i64 t ∧ r = .string s ∧ Hid (s.data.toList = (idx.take t).flatMap fun k => (strAt xs k).data.toList) ∧ s.size ≤ 200 * t ∧ w.Exts wr) (fun _ _ i _ => idx.length - (intOf i).toNat)
  case atStart => exact ⟨0, ⟨#[]⟩, Nat.zero_le _, rfl, rfl, Lib.hid (by simp), by decide, World.Exts.refl _⟩
  case round =>
    obtain ⟨t, s, ht, rfl, rfl, hs, hss, X3, rfl⟩ := hrel
    rcases Nat.lt_or_ge t idx.length with hlt | hge
    · obtain ⟨rfl, hl⟩ := HQ.out (by omega)
      obtain ⟨k, hk⟩ := some_of_lt hlt
      have hkl := HIN.out k (List.mem_of_getElem? hk)
      have c0 := HC.out t (k : Int) (by rw [List.getElem?_map, hk]; rfl) 0 _ rfl
      simp only [Nat.mul_one, Nat.add_zero] at c0
      obtain ⟨rfl, hl2⟩ := HQ2.out (by omega)
      obtain ⟨z, hz⟩ := some_of_lt hkl
      have c1 := HC2.out k z hz 0 _ rfl
      simp only [Nat.mul_one, Nat.add_zero] at c1
      have hzs := HSZ.out z (List.mem_of_getElem? hz)
      have w1 : (t : Int) < (idx.length : Int) := by omega
      have w2 : (k : Int) < (xs.length : Int) := by omega
      have hnew : (s ++ z).data.toList = (idx.take (t + 1)).flatMap fun k => (strAt xs k).data.toList := by
        rw [tx_append, hs.out, take_snoc hk, List.flatMap_append, List.flatMap_singleton]
        unfold strAt
        rw [List.getD_eq_getElem?_getD, hz]
        rfl
      have HNEW := Lib.hid hnew
      clear hnew
      clear hz hk hs HC HC2 HQ HQ2
      go_wp2_with fail
      go_roundw
      case rel => exact ⟨t + 1, _, by omega, by go_num, rfl, HNEW, by rw [ByteArray.size_append]; omega, exq⟩
      case measure => simp [intOf]; omega
    · have w1 : ¬ (t : Int) < (idx.length : Int) := by omega
      have hfin := hs.out
      rw [List.take_of_length_le hge] at hfin
      have HFIN := Lib.hid hfin
      clear hfin
      clear hs
      go_wp2_with fail
      go_ret
      exact ⟨_, rfl, HFIN.out, exq⟩
end Go.Proofs.YtkgchngaganokaaGreatDoor

/-
  Sheets: what is lost of the lines of a written sheet is put in again. Plain laws.
-/
namespace Kr
open Go
set_option linter.unusedSimpArgs false
set_option linter.unusedVariables false

/-- A line that loses a byte by a choice, or none. -/
def lostL (x : Nat) (l : List UInt8) : List UInt8 := if 0 < x % 3 then l.set (x / 3 % l.length) 63 else l
/-- Lines that lose bytes by choices, from number n on. -/
def lostFrom (f : Nat → Nat) : Nat → List (List UInt8) → List (List UInt8)
  | _, [] => []
  | n, l :: r => lostL (f n) l :: lostFrom f (n + 1) r
/-- The numbers of the lines that lost one: k lines from number n on. -/
def numsFrom (f : Nat → Nat) : Nat → Nat → List Int
  | _, 0 => []
  | n, k + 1 => (if 0 < f n % 3 then [((n + 1 : Nat) : Int)] else []) ++ numsFrom f (n + 1) k
theorem lostL_len (x : Nat) (l : List UInt8) : (lostL x l).length = l.length := by unfold lostL; split <;> simp
theorem lostFrom_len (f : Nat → Nat) : ∀ (ls : List (List UInt8)) (n : Nat), (lostFrom f n ls).length = ls.length
  | [], _ => rfl
  | l :: r, n => by rw [lostFrom, List.length_cons, List.length_cons, lostFrom_len f r (n + 1)]
theorem lostFrom_get (f : Nat → Nat) : ∀ (ls : List (List UInt8)) (n k : Nat), (lostFrom f n ls)[k]? = (ls[k]?).map (lostL (f (n + k)))
  | [], n, k => by simp [lostFrom]
  | l :: r, n, 0 => by simp [lostFrom]
  | l :: r, n, k + 1 => by rw [lostFrom, List.getElem?_cons_succ, List.getElem?_cons_succ, lostFrom_get f r (n + 1) k, show n + 1 + k = n + (k + 1) by omega]
theorem numsFrom_snoc (f : Nat → Nat) : ∀ (k n : Nat), numsFrom f n (k + 1) = numsFrom f n k ++ if 0 < f (n + k) % 3 then [((n + k + 1 : Nat) : Int)] else []
  | 0, n => by simp [numsFrom]
  | k + 1, n => by
    rw [numsFrom, numsFrom_snoc f k (n + 1), numsFrom, List.append_assoc, show n + 1 + k = n + (k + 1) by omega]
theorem numsFrom_mem (f : Nat → Nat) : ∀ (k n : Nat) (z : Int), z ∈ numsFrom f n k ↔ ∃ j : Nat, n ≤ j ∧ j < n + k ∧ 0 < f j % 3 ∧ z = ((j + 1 : Nat) : Int)
  | 0, n, z => by
    constructor
    · intro h; cases h
    · rintro ⟨j, h1, h2, _⟩; omega
  | k + 1, n, z => by
    rw [numsFrom, List.mem_append, numsFrom_mem f k (n + 1) z]
    constructor
    · rintro (h | ⟨j, h1, h2, h3, h4⟩)
      · split at h
        · rename_i h0
          exact ⟨n, by omega, by omega, h0, List.mem_singleton.1 h⟩
        · cases h
      · exact ⟨j, by omega, by omega, h3, h4⟩
    · rintro ⟨j, h1, h2, h3, h4⟩
      by_cases hj : j = n
      · subst hj
        left
        rw [if_pos h3, h4]
        exact List.mem_singleton.2 rfl
      · exact .inr ⟨j, by omega, by omega, h3, h4⟩
/-- The bytes of lines. -/
theorem line_bytes {kd : Int} {rows : List (List Int)} (h : Written kd rows) {b : List UInt8} (hb : b ∈ linesOf kd rows) (n : Nat) : ∀ c ∈ sealT n b, 32 ≤ c.toNat ∧ c.toNat < 127 ∧ c ≠ 63 := by
  have hd : ∀ c : UInt8, 48 ≤ c.toNat ∧ c.toNat ≤ 57 → 32 ≤ c.toNat ∧ c.toNat < 127 ∧ c ≠ 63 := fun c hc => ⟨by omega, by omega, fun e => by subst e; have : (63 : UInt8).toNat = 63 := rfl; omega⟩
  intro c hc
  unfold sealT at hc
  rcases List.mem_append.1 hc with hc | hc
  · unfold linesOf at hb
    rcases List.mem_cons.1 hb with rfl | hb
    · have h1 := inb_le' h.kind
      have : kd = 1 ∨ kd = 2 ∨ kd = 3 ∨ kd = 4 := by omega
      have hw : ∀ k ∈ [(1 : Int), 2, 3, 4], ∀ c ∈ wordOf k, 32 ≤ c.toNat ∧ c.toNat < 127 ∧ c ≠ 63 := by decide
      exact hw kd (by simp; omega) c hc
    rcases List.mem_append.1 hb with hb | hb
    · obtain ⟨x, hx, rfl⟩ := List.mem_map.1 hb
      rcases rowText_bytes (fun z hz => ((h.nums x hx).2.2 z hz).1) c hc with rfl | e
      · decide
      · exact hd c e
    · obtain rfl := List.mem_singleton.1 hb
      rcases List.mem_append.1 hc with hc | hc
      · have hw : ∀ c ∈ endW, 32 ≤ c.toNat ∧ c.toNat < 127 ∧ c ≠ 63 := by decide
        exact hw c hc
      · exact hd c (digits_bytes (by omega) c hc)
  · rcases List.mem_cons.1 hc with rfl | hc
    · decide
    · have := three_digit (sumT_lt n b) c hc
      unfold digitB at this
      simp at this
      exact hd c this
theorem idx_set {l : List UInt8} {p : Nat} (h : (63 : UInt8) ∉ l) (hp : p < l.length) : (l.set p 63).idxOf 63 = p ∧ (l.set p 63).count 63 = 1 := by
  induction l generalizing p with
  | nil => simp at hp
  | cons b r ih =>
    have h1 : b ≠ 63 := fun e => h (by rw [e]; exact List.mem_cons_self ..)
    have h2 : (63 : UInt8) ∉ r := fun hm => h (List.mem_cons_of_mem _ hm)
    cases p with
    | zero => exact ⟨by simp, by rw [List.set_cons_zero, List.count_cons_self, List.count_eq_zero.2 h2]⟩
    | succ p =>
      obtain ⟨i1, i2⟩ := ih h2 (p := p) (by simp at hp; omega)
      rw [List.set_cons_succ]
      refine ⟨?_, ?_⟩
      · rw [List.idxOf_cons, i1, show (b == 63) = false from beq_eq_false_iff_ne.2 h1]
        rfl
      · rw [List.count_cons_of_ne (by simpa using h1), i2]
/-- What is lost of a line is put in again. -/
theorem put_back {kd : Int} {rows : List (List Int)} (h : Written kd rows) {b : List UInt8} (hb : b ∈ linesOf kd rows) {n p : Nat} (hp : p < (sealT n b).length) : putR n ((sealT n b).set p 63) = some (sealT n b) := by
  have hc := line_bytes h hb n
  obtain ⟨l1, l45⟩ := body_len h hb
  have hsl := seal_len n b
  have hno : (63 : UInt8) ∉ sealT n b := fun hm => (hc 63 hm).2.2 rfl
  obtain ⟨i1, i2⟩ := idx_set hno hp
  obtain ⟨h32, h127, h63⟩ := hc _ (List.getElem_mem hp)
  have hput : ∀ d : Nat, putOk n ((sealT n b).set p 63) p d = (decide (d ≠ 63) && decide (sealT n (bodyOf ((sealT n b).set p (UInt8.ofNat d))) = (sealT n b).set p (UInt8.ofNat d))) := fun d => by
    unfold putOk bodyOf
    rw [List.set_set, List.length_set, List.length_set]
  have hgood : (sealT n b).set p (UInt8.ofNat ((sealT n b)[p]).toNat) = sealT n b := by rw [UInt8.ofNat_toNat, List.set_getElem_self]
  have hr := putR_hit (n := n) (l := (sealT n b).set p 63) (by rw [List.length_set]; omega) (by rw [List.length_set]; omega) (by omega) (c := ((sealT n b)[p]).toNat) h32 h127
    (by
      rw [i1, hput, hgood, body_seal]
      simp only [ne_eq, decide_true, Bool.and_true, decide_not, Bool.not_eq_true', decide_eq_false_iff_not]
      exact fun e => h63 (UInt8.toNat.inj e))
    (fun d hd hd2 => by
      rw [i1, hput]
      have hne : (sealT n b)[p] ≠ UInt8.ofNat d := fun e => by
        have := congrArg UInt8.toNat e
        rw [UInt8.toNat_ofNat_of_lt' (by simp [UInt8.size]; omega)] at this
        omega
      have := seal_set hp (by omega) hne
      simp [this])
  rw [i1, List.set_set, hgood] at hr
  exact hr
theorem lostL_no {x : Nat} {l : List UInt8} (h : (63 : UInt8) ∉ l) (hl : 0 < l.length) : (63 : UInt8) ∈ lostL x l ↔ 0 < x % 3 := by
  unfold lostL
  split
  · rename_i h0
    refine ⟨fun _ => h0, fun _ => ?_⟩
    have hp := Nat.mod_lt (x / 3) hl
    have := (idx_set h hp).2
    exact List.count_pos_iff.1 (by omega)
  · rename_i h0
    exact ⟨fun hm => absurd hm h, fun h1 => absurd h1 h0⟩
theorem seals_snoc (l : List UInt8) : ∀ (a : List (List UInt8)) (n : Nat), sealsFrom n (a ++ [l]) = sealsFrom n a ++ [sealT (n + a.length) l]
  | [], n => rfl
  | b :: r, n => by rw [List.cons_append, sealsFrom, sealsFrom, seals_snoc l r (n + 1), List.length_cons, show n + 1 + r.length = n + (r.length + 1) by omega]; rfl
/-- The first lines are repaired, whatever comes behind them. -/
theorem repair_pre {kd : Int} {rows : List (List Int)} (h : Written kd rows) (f : Nat → Nat) (rest : List (List UInt8)) : ∀ k, k ≤ rows.length + 2 → repairAll 1 ([], []) ((lostFrom f 0 (sealsOf kd rows)).take k ++ rest) = repairAll (k + 1) (((sealsOf kd rows).take k).flatMap (· ++ [10]), numsFrom f 0 k) rest := by
  intro k
  induction k generalizing rest with
  | zero => intro _; rfl
  | succ k ih =>
    intro hk
    obtain ⟨b, hb, hs⟩ := sealsOf_get (kd := kd) (show k < rows.length + 2 by omega)
    have hbm := List.mem_of_getElem? hb
    have hl : (lostFrom f 0 (sealsOf kd rows))[k]? = some (lostL (f k) (sealT (k + 1) b)) := by rw [lostFrom_get, hs, Nat.zero_add]; rfl
    have hno : (63 : UInt8) ∉ sealT (k + 1) b := fun hm => (line_bytes h hbm _ 63 hm).2.2 rfl
    have hpos : 0 < (sealT (k + 1) b).length := by rw [seal_len]; omega
    rw [List.take_add_one, hl, Option.toList_some, List.append_assoc, ih _ (by omega), List.singleton_append, numsFrom_snoc, Nat.zero_add]
    have ht : ((sealsOf kd rows).take (k + 1)).flatMap (· ++ [10]) = ((sealsOf kd rows).take k).flatMap (· ++ [10]) ++ (sealT (k + 1) b ++ [10]) := by
      rw [List.take_add_one, hs, Option.toList_some, List.flatMap_append]
      simp
    rw [ht]
    by_cases h0 : 0 < f k % 3
    · rw [if_pos h0, rep_put ((lostL_no hno hpos).2 h0) (y := sealT (k + 1) b) (by unfold lostL; rw [if_pos h0]; exact put_back h hbm (Nat.mod_lt _ hpos))]
    · have e : lostL (f k) (sealT (k + 1) b) = sealT (k + 1) b := by unfold lostL; rw [if_neg h0]
      rw [if_neg h0, e, rep_keep hno, List.append_nil]
theorem lost_no10 {kd : Int} {rows : List (List Int)} (h : Written kd rows) (f : Nat → Nat) : ∀ l ∈ lostFrom f 0 (sealsOf kd rows), (10 : UInt8) ∉ l := by
  intro l hl
  obtain ⟨k, hk⟩ := List.getElem?_of_mem hl
  rw [lostFrom_get] at hk
  cases hs : (sealsOf kd rows)[k]? with
  | none => rw [hs] at hk; cases hk
  | some y =>
    rw [hs] at hk
    cases hk
    have := h.no10 y (List.mem_of_getElem? hs)
    unfold lostL
    split
    · intro hm
      rcases List.mem_or_eq_of_mem_set hm with hm | hm
      · exact this hm
      · cases hm
    · exact this
theorem lost_lens (f : Nat → Nat) : ∀ (ls : List (List UInt8)) (n : Nat), (lostFrom f n ls).map List.length = ls.map List.length
  | [], _ => rfl
  | l :: r, n => by rw [lostFrom, List.map_cons, List.map_cons, lostL_len, lost_lens f r (n + 1)]
/-- The text with what it lost. -/
def lostText (f : Nat → Nat) (kd : Int) (rows : List (List Int)) : List UInt8 := (lostFrom f 0 (sealsOf kd rows)).flatMap (· ++ [10])
theorem lostText_len (f : Nat → Nat) (kd : Int) (rows : List (List Int)) : (lostText f kd rows).length = (textFrom 1 (linesOf kd rows)).length := by
  unfold lostText
  rw [flat_len2 _ _ (lost_lens f _ 0), sealsOf_text]
/-- What is lost is put in again. -/
theorem repair_lost {kd : Int} {rows : List (List Int)} (h : sheetB kd rows = true) (hl : (textFrom 1 (linesOf kd rows)).length ≤ 1500) (f : Nat → Nat) :
    repairR (lostText f kd rows) = ((textFrom 1 (linesOf kd rows), numsFrom f 0 (rows.length + 2)), 0) := by
  have hw : Written kd rows := ⟨h⟩
  have hlen := lostText_len f kd rows
  have hcut := cut_of_lines _ (lost_no10 hw f)
  have hp := repair_pre hw f [] (rows.length + 2) (Nat.le_refl _)
  rw [List.append_nil, List.take_of_length_le (by rw [lostFrom_len, sealsOf_len]; exact Nat.le_refl _), List.take_of_length_le (by rw [sealsOf_len]; exact Nat.le_refl _)] at hp
  unfold repairR
  rw [if_neg (by omega)]
  unfold lostText
  rw [hcut, if_neg (by simp)]
  dsimp only
  rw [hp, sealsOf_text]
  rfl
/-- One byte more of a line that lost one. -/
theorem repair_more {kd : Int} {rows : List (List Int)} (h : sheetB kd rows = true) (hl : (textFrom 1 (linesOf kd rows)).length ≤ 1500) (f : Nat → Nat) {k q : Nat} (hk : k < rows.length + 2) (h0 : 0 < f k % 3) {l : List UInt8} (hlk : (lostFrom f 0 (sealsOf kd rows))[k]? = some l) (hq : q < l.length) (hq2 : l[q]? ≠ some 63) :
    repairR (((lostFrom f 0 (sealsOf kd rows)).set k (l.set q 63)).flatMap (· ++ [10])) = (([], [((k + 1 : Nat) : Int)]), 113) := by
  have hw : Written kd rows := ⟨h⟩
  have hno := lost_no10 hw f
  have hlen := lostText_len f kd rows
  obtain ⟨b, hb, hs⟩ := sealsOf_get (kd := kd) hk
  have hbm := List.mem_of_getElem? hb
  have hn63 : (63 : UInt8) ∉ sealT (k + 1) b := fun hm => (line_bytes hw hbm _ 63 hm).2.2 rfl
  have hpos : 0 < (sealT (k + 1) b).length := by rw [seal_len]; omega
  have hll : l = lostL (f k) (sealT (k + 1) b) := by rw [lostFrom_get, hs, Nat.zero_add] at hlk; exact (Option.some.inj hlk).symm
  have hcnt : 1 ≤ l.count 63 := by
    have := (lostL_no (x := f k) hn63 hpos).2 h0
    rw [← hll] at this
    exact List.count_pos_iff.2 this
  have hset : (l.set q 63).count 63 = l.count 63 + 1 := by
    have h1 := List.count_set (a := (63 : UInt8)) (b := 63) (l := l) (i := q) hq
    have h2 : l[q] ≠ 63 := fun e => hq2 (by rw [List.getElem?_eq_getElem hq, e])
    rw [h1]
    simp [h2]
  have hsplit : (lostFrom f 0 (sealsOf kd rows)).set k (l.set q 63) = (lostFrom f 0 (sealsOf kd rows)).take k ++ l.set q 63 :: (lostFrom f 0 (sealsOf kd rows)).drop (k + 1) := by
    rw [List.set_eq_take_append_cons_drop, if_pos (List.getElem?_eq_some_iff.1 hlk).1]
  have hno2 : ∀ y ∈ (lostFrom f 0 (sealsOf kd rows)).set k (l.set q 63), (10 : UInt8) ∉ y := by
    intro y hy
    rcases List.mem_or_eq_of_mem_set hy with hy | rfl
    · exact hno y hy
    · intro hm
      rcases List.mem_or_eq_of_mem_set hm with hm | hm
      · exact hno l (List.mem_of_getElem? hlk) hm
      · cases hm
  have hlen2 : (((lostFrom f 0 (sealsOf kd rows)).set k (l.set q 63)).flatMap (· ++ [10])).length = (lostText f kd rows).length := by
    refine flat_len2 _ _ ?_
    rw [List.map_set, List.length_set]
    have hk' : k < ((lostFrom f 0 (sealsOf kd rows)).map List.length).length := by rw [List.length_map]; exact (List.getElem?_eq_some_iff.1 hlk).1
    have he : ((lostFrom f 0 (sealsOf kd rows)).map List.length)[k] = l.length := by
      rw [List.getElem_map, (List.getElem?_eq_some_iff.1 hlk).2]
    rw [← he]
    exact List.set_getElem_self hk'
  unfold repairR
  rw [if_neg (by omega), cut_of_lines _ hno2, if_neg (by simp)]
  dsimp only
  rw [hsplit, repair_pre hw f _ k (by omega), rep_none (List.count_pos_iff.1 (by omega)) (putR_many (by omega))]
end Kr

/-
  Sheets: a text that loses bytes, line by line. Plain laws.
-/
namespace Kr
open Go
set_option linter.unusedSimpArgs false
set_option linter.unusedVariables false

/-- How long the first lines are. -/
def preLen (S : List (List UInt8)) (t : Nat) : Nat := ((S.take t).flatMap (· ++ [10])).length
theorem plen_step {S : List (List UInt8)} {t : Nat} {l : List UInt8} (h : S[t]? = some l) : preLen S (t + 1) = preLen S t + l.length + 1 := by
  unfold preLen
  rw [List.take_add_one, h, Option.toList_some, List.flatMap_append, List.length_append]
  simp
  omega
theorem pre_all (S : List (List UInt8)) : preLen S S.length = (S.flatMap (· ++ [10])).length := by unfold preLen; rw [List.take_length]
theorem pre_line {S : List (List UInt8)} {t : Nat} {l : List UInt8} (h : S[t]? = some l) : ((S.flatMap (· ++ [10])).drop (preLen S t)).take (l.length + 1) = l ++ [10] ∧ preLen S t + l.length + 1 ≤ (S.flatMap (· ++ [10])).length := by
  have e : S.flatMap (· ++ [10]) = (S.take t).flatMap (· ++ [10]) ++ ((l ++ [10]) ++ (S.drop (t + 1)).flatMap (· ++ [10])) := by
    conv => lhs; rw [split_at h]
    rw [List.flatMap_append, List.flatMap_cons]
  unfold preLen
  refine ⟨?_, ?_⟩
  · conv => lhs; rw [e]
    rw [List.drop_append, List.drop_of_length_le (Nat.le_refl _), List.nil_append, Nat.sub_self, List.drop_zero, List.take_append_of_le_length (by simp), List.take_of_length_le (by simp)]
  · have := congrArg List.length e
    simp only [List.length_append, List.length_singleton] at this
    omega
/-- A byte of a line that is another one. -/
theorem flat_set {S : List (List UInt8)} {t q : Nat} {l : List UInt8} (h : S[t]? = some l) (hq : q < l.length) (y : UInt8) : (S.flatMap (· ++ [10])).set (preLen S t + q) y = (S.set t (l.set q y)).flatMap (· ++ [10]) := by
  have e : S.flatMap (· ++ [10]) = (S.take t).flatMap (· ++ [10]) ++ (l ++ ([10] ++ (S.drop (t + 1)).flatMap (· ++ [10]))) := by
    conv => lhs; rw [split_at h]
    rw [List.flatMap_append, List.flatMap_cons, List.append_assoc]
  have e2 : (S.set t (l.set q y)).flatMap (· ++ [10]) = (S.take t).flatMap (· ++ [10]) ++ (l.set q y ++ ([10] ++ (S.drop (t + 1)).flatMap (· ++ [10]))) := by
    rw [List.set_eq_take_append_cons_drop, if_pos (List.getElem?_eq_some_iff.1 h).1, List.flatMap_append, List.flatMap_cons, List.append_assoc]
  rw [e2, e]
  unfold preLen
  rw [List.set_append_right _ _ (by omega), Nat.add_sub_cancel_left, List.set_append_left _ _ hq]
theorem pre_lens {A B : List (List UInt8)} (h : A.map List.length = B.map List.length) (t : Nat) : preLen A t = preLen B t := by
  unfold preLen
  refine flat_len2 _ _ ?_
  rw [List.map_take, List.map_take, h]
/-- The lines when the first t have lost. -/
def midLines (f : Nat → Nat) (S : List (List UInt8)) (t : Nat) : List (List UInt8) := (lostFrom f 0 S).take t ++ S.drop t
theorem mid_lens (f : Nat → Nat) (S : List (List UInt8)) (t : Nat) : (midLines f S t).map List.length = S.map List.length := by
  unfold midLines
  rw [List.map_append, List.map_take, lost_lens, ← List.map_take, ← List.map_append, List.take_append_drop]
theorem mid_at (f : Nat → Nat) {S : List (List UInt8)} {t : Nat} {l : List UInt8} (h : S[t]? = some l) : (midLines f S t)[t]? = some l := by
  have ht := (List.getElem?_eq_some_iff.1 h).1
  have hl : ((lostFrom f 0 S).take t).length = t := by rw [List.length_take, lostFrom_len]; omega
  unfold midLines
  rw [List.getElem?_append_right (by omega), hl, Nat.sub_self, List.getElem?_drop, Nat.add_zero]
  exact h
theorem mid_step (f : Nat → Nat) {S : List (List UInt8)} {t : Nat} {l : List UInt8} (h : S[t]? = some l) : midLines f S (t + 1) = (midLines f S t).set t (lostL (f t) l) := by
  have ht := (List.getElem?_eq_some_iff.1 h).1
  have hl : ((lostFrom f 0 S).take t).length = t := by rw [List.length_take, lostFrom_len]; omega
  have hg : (lostFrom f 0 S)[t]? = some (lostL (f t) l) := by rw [lostFrom_get, h, Nat.zero_add]; rfl
  unfold midLines
  rw [List.take_add_one, hg, Option.toList_some, List.set_append_right _ _ (by omega), hl, Nat.sub_self, List.drop_eq_getElem_cons ht, List.set_cons_zero, List.append_assoc]
  rfl
/-- The text when the first t lines have lost. -/
def midText (f : Nat → Nat) (S : List (List UInt8)) (t : Nat) : List UInt8 := (midLines f S t).flatMap (· ++ [10])
theorem midText_len (f : Nat → Nat) (S : List (List UInt8)) (t : Nat) : (midText f S t).length = (S.flatMap (· ++ [10])).length := flat_len2 _ _ (mid_lens f S t)
theorem midText_zero (f : Nat → Nat) (S : List (List UInt8)) : midText f S 0 = S.flatMap (· ++ [10]) := by unfold midText midLines; simp
theorem midText_keep {f : Nat → Nat} {S : List (List UInt8)} {t : Nat} {l : List UInt8} (h : S[t]? = some l) (h0 : ¬ 0 < f t % 3) : midText f S (t + 1) = midText f S t := by
  unfold midText
  rw [mid_step f h]
  congr 1
  have e : lostL (f t) l = l := by unfold lostL; rw [if_neg h0]
  have hm := mid_at f h
  have hlt := (List.getElem?_eq_some_iff.1 hm).1
  rw [e, ← (List.getElem?_eq_some_iff.1 hm).2]
  exact List.set_getElem_self hlt
theorem midText_lose {f : Nat → Nat} {S : List (List UInt8)} {t : Nat} {l : List UInt8} (h : S[t]? = some l) (h0 : 0 < f t % 3) (hl : 0 < l.length) : midText f S (t + 1) = (midText f S t).set (preLen S t + f t / 3 % l.length) 63 := by
  unfold midText
  rw [mid_step f h, ← pre_lens (mid_lens f S t) t, flat_set (mid_at f h) (Nat.mod_lt _ hl)]
  unfold lostL
  rw [if_pos h0]
theorem midText_all (f : Nat → Nat) (S : List (List UInt8)) : midText f S S.length = (lostFrom f 0 S).flatMap (· ++ [10]) := by
  unfold midText midLines
  rw [List.take_of_length_le (by rw [lostFrom_len]; exact Nat.le_refl _), List.drop_of_length_le (Nat.le_refl _), List.append_nil]
theorem lostL_once {x : Nat} {l : List UInt8} (h : (63 : UInt8) ∉ l) {a b : Nat} (ha : (lostL x l)[a]? = some 63) (hb : (lostL x l)[b]? = some 63) : a = b := by
  unfold lostL at ha hb
  split at ha
  · rename_i h0
    rw [if_pos h0] at hb
    have key : ∀ c, (l.set (x / 3 % l.length) 63)[c]? = some 63 → c = x / 3 % l.length := fun c hc => by
      by_cases e : x / 3 % l.length = c
      · exact e.symm
      · rw [List.getElem?_set_ne e] at hc
        exact absurd (List.mem_of_getElem? hc) h
    rw [key a ha, key b hb]
  · exact absurd (List.mem_of_getElem? ha) h
/-- A byte of a text of lines. -/
theorem flat_byte {S : List (List UInt8)} {t q : Nat} {l : List UInt8} (h : S[t]? = some l) (hq : q < l.length) : (S.flatMap (· ++ [10]))[preLen S t + q]? = l[q]? := by
  have e : S.flatMap (· ++ [10]) = (S.take t).flatMap (· ++ [10]) ++ (l ++ ([10] ++ (S.drop (t + 1)).flatMap (· ++ [10]))) := by
    conv => lhs; rw [split_at h]
    rw [List.flatMap_append, List.flatMap_cons, List.append_assoc]
  rw [e]
  unfold preLen
  rw [List.getElem?_append_right (by omega), Nat.add_sub_cancel_left, List.getElem?_append_left hq]
/-- The last byte of a line that lost one, that is there still. -/
theorem lost_last {kd : Int} {rows : List (List Int)} (h : sheetB kd rows = true) (hl : (textFrom 1 (linesOf kd rows)).length ≤ 1500) (f : Nat → Nat) {k : Nat} (hk : k < rows.length + 2) (h0 : 0 < f k % 3) {l : List UInt8} (hs : (sealsOf kd rows)[k]? = some l) :
    ∃ z1 : Nat, z1 + 1 = preLen (sealsOf kd rows) k + l.length ∧ 1 ≤ z1 ∧ (((lostFrom f 0 (sealsOf kd rows)).flatMap (· ++ [10]))[z1]? = some 63 → repairR (((lostFrom f 0 (sealsOf kd rows)).flatMap (· ++ [10])).set (z1 - 1) 63) = (([], [((k + 1 : Nat) : Int)]), 113))
      ∧ (((lostFrom f 0 (sealsOf kd rows)).flatMap (· ++ [10]))[z1]? ≠ some 63 → repairR (((lostFrom f 0 (sealsOf kd rows)).flatMap (· ++ [10])).set z1 63) = (([], [((k + 1 : Nat) : Int)]), 113)) := by
  have hw : Written kd rows := ⟨h⟩
  obtain ⟨b, hb, hs2⟩ := sealsOf_get (kd := kd) hk
  rw [hs] at hs2
  obtain rfl := Option.some.inj hs2
  have hbm := List.mem_of_getElem? hb
  have hn63 : (63 : UInt8) ∉ sealT (k + 1) b := fun hm => (line_bytes hw hbm _ 63 hm).2.2 rfl
  have hlen := seal_len (k + 1) b
  have hb1 := (body_len hw hbm).1
  have hlk : (lostFrom f 0 (sealsOf kd rows))[k]? = some (lostL (f k) (sealT (k + 1) b)) := by rw [lostFrom_get, hs, Nat.zero_add]; rfl
  have hpl := pre_lens (lost_lens f (sealsOf kd rows) 0) k
  have hll := lostL_len (f k) (sealT (k + 1) b)
  have hfb := fun q hq => flat_byte (q := q) hlk hq
  have hfs := fun q hq => flat_set (q := q) hlk hq 63
  rw [hpl, hll] at hfb hfs
  refine ⟨preLen (sealsOf kd rows) k + (b.length + 3), by omega, by omega, fun h63 => ?_, fun h63 => ?_⟩
  · rw [hfb _ (by omega)] at h63
    rw [show preLen (sealsOf kd rows) k + (b.length + 3) - 1 = preLen (sealsOf kd rows) k + (b.length + 2) by omega, hfs _ (by omega)]
    exact repair_more h hl f hk h0 hlk (by omega) (fun e => by have := lostL_once hn63 h63 e; omega)
  · rw [hfb _ (by omega)] at h63
    rw [hfs _ (by omega)]
    exact repair_more h hl f hk h0 hlk (by omega) h63
end Kr

/-
  What a slice of uint32 reads as: a row of numbers of 32 bits.
-/
namespace Go.Proofs.YtkgchngaganokaaGreatDoor
open Go.RowKit Kr

section
variable {H : Type} {enc : TypeId × Value → H} {w : World} {base : Nat} {spare : Nat → Bool} {held : Bool}

theorem cells_uint32 : (Tryz.prog).cellsOf 25 = 1 := by kernel_rfl
theorem readsAs_u32 {P : Program} {t : TypeId} (ht : P.underlying t = some (.int .u32)) : ReadsAs enc P w base spare held t (fun n : Int => [.int .u32 n]) (fun n => (Lit.int .u32 n).wf = true) := fun _ _ _ h => by
  obtain ⟨n, h1, _, h2⟩ := DataW.trod_int ht h
  exact ⟨n, h1, h2⟩
theorem reads_U32s : ReadsAs enc Tryz.prog w base spare held 41 (fun p : Value × List Int => [p.1]) (fun p => IsRow (fun x : Int => [.int .u32 x]) 1 w p.1 p.2 ∧ ∀ x ∈ p.2, 0 ≤ x ∧ x ≤ 4294967295) := fun fuel cs x h => by
  obtain ⟨p, e, hp, hx⟩ := readsAs_slice Tryz.underlying41 cells_uint32 (by decide) (fun _ => rfl) (readsAs_u32 Tryz.underlying25) fuel cs x h
  exact ⟨p, e, hp, fun y hy => wfU32 (hx y hy)⟩
end
end Go.Proofs.YtkgchngaganokaaGreatDoor

/-
  Sheets: what is put in again, of any text. Plain laws.
-/
namespace Kr
open Go
set_option linter.unusedSimpArgs false
set_option linter.unusedVariables false

/-- Lines and what comes of them. -/
inductive Mended : Nat → List (List UInt8) → List (List UInt8) → Prop
  | nil {n : Nat} : Mended n [] []
  | keep {n : Nat} {x : List UInt8} {r s : List (List UInt8)} : (63 : UInt8) ∉ x → Mended (n + 1) r s → Mended n (x :: r) (x :: s)
  | put {n : Nat} {x y : List UInt8} {r s : List (List UInt8)} : (63 : UInt8) ∈ x → putR n x = some y → Mended (n + 1) r s → Mended n (x :: r) (y :: s)
/-- The numbers of the lines that lost something. -/
def lostNums : Nat → List (List UInt8) → List Int
  | _, [] => []
  | n, x :: r => if 63 ∈ x then (n : Int) :: lostNums (n + 1) r else lostNums (n + 1) r
theorem repair_mended : ∀ {ls : List (List UInt8)} {n : Nat} {st out : List UInt8 × List Int}, repairAll n st ls = .ok out → ∃ ys, Mended n ls ys ∧ out = (st.1 ++ ys.flatMap (· ++ [10]), st.2 ++ lostNums n ls)
  | [], n, st, out, h => by
    cases h
    exact ⟨[], .nil, by simp [lostNums]⟩
  | x :: r, n, st, out, h => by
    by_cases h63 : (63 : UInt8) ∈ x
    · cases hp : putR n x with
      | none => rw [rep_none h63 hp] at h; cases h
      | some y =>
        rw [rep_put h63 hp] at h
        obtain ⟨ys, hm, e⟩ := repair_mended h
        refine ⟨y :: ys, .put h63 hp hm, ?_⟩
        rw [e, lostNums, if_pos h63]
        simp
    · rw [rep_keep h63] at h
      obtain ⟨ys, hm, e⟩ := repair_mended h
      refine ⟨x :: ys, .keep h63 hm, ?_⟩
      rw [e, lostNums, if_neg h63]
      simp
theorem firstN_in {p : Nat → Bool} : ∀ {k lo : Nat}, firstN p lo k < lo + k → lo ≤ firstN p lo k ∧ p (firstN p lo k) = true
  | 0, lo, h => by simp [firstN] at h
  | k + 1, lo, h => by
    unfold firstN at h ⊢
    by_cases hp : p lo = true
    · rw [if_pos hp]; exact ⟨Nat.le_refl _, hp⟩
    · rw [if_neg hp] at h ⊢
      have := firstN_in (p := p) (k := k) (lo := lo + 1) (by omega)
      exact ⟨by omega, this.2⟩
/-- What a line is that was put right. -/
theorem putR_facts {n : Nat} {x y : List UInt8} (h63 : (63 : UInt8) ∈ x) (h : putR n x = some y) : 5 ≤ y.length ∧ y.length ≤ 84 ∧ x.count 63 = 1 ∧ sealT n (bodyOf y) = y ∧ ∃ c : Nat, 32 ≤ c ∧ c < 127 ∧ c ≠ 63 ∧ y = x.set (x.idxOf 63) (UInt8.ofNat c) := by
  unfold putR at h
  by_cases h1 : 5 ≤ x.length ∧ x.length ≤ 84 ∧ x.count 63 ≤ 1
  · rw [if_pos h1] at h
    by_cases h2 : firstN (putOk n x (x.idxOf 63)) 32 95 < 127
    · rw [if_pos h2] at h
      obtain ⟨h3, h4⟩ := firstN_in (p := putOk n x (x.idxOf 63)) (k := 95) (lo := 32) (by omega)
      generalize firstN (putOk n x (x.idxOf 63)) 32 95 = c at h h2 h3 h4
      cases h
      unfold putOk at h4
      simp only [Bool.and_eq_true, decide_eq_true_eq] at h4
      have hc := List.count_pos_iff.2 h63
      refine ⟨by rw [List.length_set]; omega, by rw [List.length_set]; omega, by omega, ?_, c, h3, h2, h4.1, rfl⟩
      unfold bodyOf
      rw [List.length_set]
      exact h4.2
    · rw [if_neg h2] at h; cases h
  · rw [if_neg h1] at h; cases h
theorem put_clean {n : Nat} {x y : List UInt8} (h63 : (63 : UInt8) ∈ x) (h : putR n x = some y) : (63 : UInt8) ∉ y ∧ ∀ k : Nat, y[k]? = x[k]? ∨ x[k]? = some 63 := by
  obtain ⟨_, _, hc, _, c, c1, c2, c3, rfl⟩ := putR_facts h63 h
  have hi := List.idxOf_lt_length_iff.2 h63
  have hcne : UInt8.ofNat c ≠ 63 := fun e => c3 (by have := congrArg UInt8.toNat e; rw [UInt8.toNat_ofNat_of_lt' (by simp [UInt8.size]; omega)] at this; exact this)
  have hget : x[x.idxOf 63] = 63 := by simp
  refine ⟨?_, fun k => ?_⟩
  · rw [← List.count_eq_zero, List.count_set hi, hget, hc]
    simp [hcne]
  · by_cases hk : k = x.idxOf 63
    · right
      rw [hk, List.getElem?_eq_getElem hi, hget]
    · left
      rw [List.getElem?_set_ne (Ne.symm hk)]
theorem Mended.lens {n : Nat} {r s : List (List UInt8)} (h : Mended n r s) : r.map List.length = s.map List.length := by
  induction h with
  | nil => rfl
  | keep _ _ ih => rw [List.map_cons, List.map_cons, ih]
  | put _ hp _ ih => rw [List.map_cons, List.map_cons, ih, putR_len hp]
theorem Mended.get {n : Nat} {r s : List (List UInt8)} (h : Mended n r s) : ∀ {k : Nat} {x : List UInt8}, r[k]? = some x → ∃ y, s[k]? = some y ∧ ((63 : UInt8) ∉ x ∧ y = x ∨ (63 : UInt8) ∈ x ∧ putR (n + k) x = some y) := by
  induction h with
  | nil => intro k x hx; simp at hx
  | keep h1 _ ih =>
    intro k x hx
    cases k with
    | zero => simp at hx; subst hx; exact ⟨_, rfl, .inl ⟨h1, rfl⟩⟩
    | succ k =>
      rw [List.getElem?_cons_succ] at hx
      obtain ⟨y, e, h⟩ := ih hx
      exact ⟨y, by rw [List.getElem?_cons_succ]; exact e, by rw [show ∀ a : Nat, a + (k + 1) = a + 1 + k from fun a => by omega]; exact h⟩
  | put h1 hp _ ih =>
    intro k x hx
    cases k with
    | zero => simp at hx; subst hx; exact ⟨_, rfl, .inr ⟨h1, hp⟩⟩
    | succ k =>
      rw [List.getElem?_cons_succ] at hx
      obtain ⟨y, e, h⟩ := ih hx
      exact ⟨y, by rw [List.getElem?_cons_succ]; exact e, by rw [show ∀ a : Nat, a + (k + 1) = a + 1 + k from fun a => by omega]; exact h⟩
theorem Mended.clean {n : Nat} {r s : List (List UInt8)} (h : Mended n r s) : ∀ y ∈ s, (63 : UInt8) ∉ y := by
  induction h with
  | nil => intro y hy; cases hy
  | keep h1 _ ih =>
    intro y hy
    rcases List.mem_cons.1 hy with rfl | hy
    · exact h1
    · exact ih y hy
  | put h1 hp _ ih =>
    intro y hy
    rcases List.mem_cons.1 hy with rfl | hy
    · exact (put_clean h1 hp).1
    · exact ih y hy
theorem Mended.no10 {n : Nat} {r s : List (List UInt8)} (h : Mended n r s) (hr : ∀ x ∈ r, (10 : UInt8) ∉ x) : ∀ y ∈ s, (10 : UInt8) ∉ y := by
  induction h with
  | nil => intro y hy; cases hy
  | keep h1 _ ih =>
    intro y hy
    rcases List.mem_cons.1 hy with rfl | hy
    · exact hr _ (List.mem_cons_self ..)
    · exact ih (fun x hx => hr x (List.mem_cons_of_mem _ hx)) y hy
  | put h1 hp _ ih =>
    intro y hy
    rcases List.mem_cons.1 hy with rfl | hy
    · obtain ⟨_, _, _, _, c, c1, c2, c3, rfl⟩ := putR_facts h1 hp
      intro hm
      rcases List.mem_or_eq_of_mem_set hm with hm | hm
      · exact hr _ (List.mem_cons_self ..) hm
      · have := congrArg UInt8.toNat hm
        rw [UInt8.toNat_ofNat_of_lt' (by simp [UInt8.size]; omega)] at this
        have h10 : (10 : UInt8).toNat = 10 := rfl
        omega
    · exact ih (fun x hx => hr x (List.mem_cons_of_mem _ hx)) y hy
/-- Byte by byte. -/
theorem Mended.bytes {n : Nat} {r s : List (List UInt8)} (h : Mended n r s) : ∀ i : Nat, (s.flatMap (· ++ [10]))[i]? = (r.flatMap (· ++ [10]))[i]? ∨ (r.flatMap (· ++ [10]))[i]? = some 63 := by
  induction h
  case nil => intro i; exact .inl rfl
  case keep n x r s h1 hr ih =>
    intro i
    rw [List.flatMap_cons, List.flatMap_cons]
    rcases Nat.lt_or_ge i (x ++ [10]).length with hi | hi
    · rw [List.getElem?_append_left hi, List.getElem?_append_left hi]; exact .inl rfl
    · rw [List.getElem?_append_right hi, List.getElem?_append_right hi]; exact ih _
  case put n x y r s h1 hp hr ih =>
    intro i
    have hl := putR_len hp
    rw [List.flatMap_cons, List.flatMap_cons]
    rcases Nat.lt_or_ge i (x ++ [10]).length with hi | hi
    · rw [List.getElem?_append_left (by simp at hi ⊢; omega), List.getElem?_append_left hi]
      rcases Nat.lt_or_ge i x.length with hx | hx
      · rw [List.getElem?_append_left (by omega), List.getElem?_append_left hx]
        exact (put_clean h1 hp).2 i
      · rw [List.getElem?_append_right (by omega), List.getElem?_append_right hx, hl]
        exact .inl rfl
    · rw [List.getElem?_append_right (by simp at hi ⊢; omega), List.getElem?_append_right hi]
      have : i - (y ++ [10]).length = i - (x ++ [10]).length := by simp [hl]
      rw [this]
      exact ih _
theorem lostNums_ge : ∀ (ls : List (List UInt8)) (n : Nat), ∀ z ∈ lostNums n ls, (n : Int) ≤ z
  | [], n, z, h => by cases h
  | x :: r, n, z, h => by
    rw [lostNums] at h
    have ih := lostNums_ge r (n + 1)
    split at h
    · rcases List.mem_cons.1 h with rfl | h
      · exact Int.le_refl _
      · have := ih z h; omega
    · have := ih z h; omega
theorem lostNums_mem : ∀ (ls : List (List UInt8)) (n k : Nat) (x : List UInt8), ls[k]? = some x → (((n + k : Nat) : Int) ∈ lostNums n ls ↔ (63 : UInt8) ∈ x)
  | [], n, k, x, h => by simp at h
  | y :: r, n, 0, x, h => by
    simp at h
    subst h
    rw [lostNums]
    split
    · rename_i h1; exact ⟨fun _ => h1, fun _ => List.mem_cons_self ..⟩
    · rename_i h1
      refine ⟨fun h => ?_, fun h => absurd h h1⟩
      have := lostNums_ge r (n + 1) _ h
      omega
  | y :: r, n, k + 1, x, h => by
    rw [List.getElem?_cons_succ] at h
    have ih := lostNums_mem r (n + 1) k x h
    rw [show n + 1 + k = n + (k + 1) by omega] at ih
    rw [lostNums]
    split
    · rw [List.mem_cons]
      constructor
      · rintro (e | e)
        · omega
        · exact ih.1 e
      · intro e; exact .inr (ih.2 e)
    · exact ih
theorem lostNums_len : ∀ (ls : List (List UInt8)) (n : Nat), (lostNums n ls).length ≤ ls.length
  | [], _ => Nat.le_refl _
  | x :: r, n => by
    have := lostNums_len r (n + 1)
    rw [lostNums]
    split <;> simp <;> omega
/-- Whether a byte is lost in a line, among the first i bytes. -/
def lostAt (t : List UInt8) (i : Nat) (k : Int) : Bool := (List.range i).any fun j => decide (t[j]? = some 63) && decide ((((t.take j).count 10 + 1 : Nat) : Int) = k)
theorem lostAt_step (t : List UInt8) (i : Nat) (k : Int) : lostAt t (i + 1) k = (lostAt t i k || decide (t[i]? = some 63) && decide ((((t.take i).count 10 + 1 : Nat) : Int) = k)) := by
  unfold lostAt
  rw [List.range_succ, List.any_append]
  simp
theorem lostAt_line {ls : List (List UInt8)} (hn : ∀ l ∈ ls, (10 : UInt8) ∉ l) {k : Nat} {x : List UInt8} (hx : ls[k]? = some x) : lostAt (ls.flatMap (· ++ [10])) (ls.flatMap (· ++ [10])).length (((k + 1 : Nat) : Int)) = decide ((63 : UInt8) ∈ x) := by
  rw [Bool.eq_iff_iff]
  unfold lostAt
  rw [List.any_eq_true, decide_eq_true_eq]
  constructor
  · rintro ⟨i, hi, h⟩
    simp only [Bool.and_eq_true, decide_eq_true_eq] at h
    obtain ⟨j, l, m, h1, h2, rfl⟩ := place _ _ (List.mem_range.1 hi)
    obtain ⟨p1, p2, _⟩ := place_parts h1 h2
    rw [p1, count_place hn h1, p2] at h
    obtain rfl : j = k := by omega
    rw [hx] at h1
    obtain rfl := Option.some.inj h1
    rcases Nat.lt_or_ge m x.length with hm | hm
    · rw [List.getElem?_append_left hm] at h
      exact List.mem_of_getElem? h.1
    · rw [List.getElem?_append_right hm] at h
      have : m - x.length = 0 := by omega
      rw [this] at h
      simp at h
  · intro h
    obtain ⟨m, hm⟩ := List.getElem?_of_mem h
    have hml := (List.getElem?_eq_some_iff.1 hm).1
    obtain ⟨p1, p2, _⟩ := place_parts hx (Nat.le_of_lt hml)
    refine ⟨((ls.take k).flatMap (· ++ [10])).length + m, ?_, ?_⟩
    · rw [List.mem_range]
      have : (ls.flatMap (· ++ [10]))[((ls.take k).flatMap (· ++ [10])).length + m]? = some 63 := by rw [p2, List.getElem?_append_left hml]; exact hm
      exact (List.getElem?_eq_some_iff.1 this).1
    · rw [p1, count_place hn hx, p2, List.getElem?_append_left hml, hm]
      simp
/-- What is known of a text that was repaired. -/
theorem repair_ok {t w : List UInt8} {l : List Int} (h : repairR t = ((w, l), 0)) :
    ∃ ls ys, t = ls.flatMap (· ++ [10]) ∧ w = ys.flatMap (· ++ [10]) ∧ Mended 1 ls ys ∧ l = lostNums 1 ls ∧ (∀ x ∈ ls, (10 : UInt8) ∉ x) ∧ (∀ y ∈ ys, (10 : UInt8) ∉ y) ∧ t.length ≤ 1500 ∧ w.length = t.length := by
  unfold repairR at h
  by_cases hl : 1500 < t.length
  · rw [if_pos hl] at h; simp at h
  rw [if_neg hl] at h
  by_cases hc : (cutLines t).2 ≠ []
  · rw [if_pos hc] at h; simp at h
  rw [if_neg hc] at h
  cases hr : repairAll 1 ([], []) (cutLines t).1 with
  | error n => rw [hr] at h; simp at h
  | ok out =>
    rw [hr] at h
    obtain ⟨ys, hm, e⟩ := repair_mended hr
    have hj := cut_join t
    rw [Classical.not_not.1 hc, List.append_nil] at hj
    simp only [Prod.mk.injEq, and_true] at h
    rw [e] at h
    simp only [List.nil_append, Prod.mk.injEq] at h
    obtain ⟨rfl, rfl⟩ := h
    have hn := (cut_no t).1
    refine ⟨(cutLines t).1, ys, hj.symm, rfl, hm, rfl, hn, hm.no10 hn, by omega, ?_⟩
    rw [flat_len2 _ _ (hm.lens).symm]
    exact congrArg List.length hj
/-- What errors there are. -/
theorem repair_bad {t w : List UInt8} {l : List Int} {e : Int} (h : repairR t = ((w, l), e)) (he : e ≠ 0) : w = [] ∧ ((e = 9 ∧ 1500 < t.length) ∨ (e = 111 ∧ t ≠ []) ∨ (e = 113 ∧ l.length = 1)) := by
  unfold repairR at h
  by_cases hl : 1500 < t.length
  · rw [if_pos hl] at h; cases h; exact ⟨rfl, .inl ⟨rfl, hl⟩⟩
  rw [if_neg hl] at h
  by_cases hc : (cutLines t).2 ≠ []
  · rw [if_pos hc] at h
    cases h
    exact ⟨rfl, .inr (.inl ⟨rfl, fun e => hc (by rw [e]; rfl)⟩)⟩
  rw [if_neg hc] at h
  cases hr : repairAll 1 ([], []) (cutLines t).1 with
  | error n => rw [hr] at h; cases h; exact ⟨rfl, .inr (.inr ⟨rfl, rfl⟩)⟩
  | ok out => rw [hr] at h; simp at h; exact absurd h.2.symm he
theorem repairAll_clean : ∀ {ls : List (List UInt8)} {n : Nat} {st : List UInt8 × List Int}, (∀ y ∈ ls, (63 : UInt8) ∉ y) → repairAll n st ls = .ok (st.1 ++ ls.flatMap (· ++ [10]), st.2)
  | [], _, st, _ => by simp [repairAll]
  | x :: r, n, st, h => by
    rw [rep_keep (h x (List.mem_cons_self ..)), repairAll_clean fun y hy => h y (List.mem_cons_of_mem _ hy)]
    simp
/-- What was put right loses nothing any more. -/
theorem repair_again {ls ys : List (List UInt8)} {n : Nat} (hm : Mended n ls ys) (hn : ∀ y ∈ ys, (10 : UInt8) ∉ y) (hl : (ys.flatMap (· ++ [10])).length ≤ 1500) : repairR (ys.flatMap (· ++ [10])) = ((ys.flatMap (· ++ [10]), []), 0) := by
  unfold repairR
  rw [if_neg (by omega), cut_of_lines _ hn, if_neg (by simp)]
  dsimp only
  rw [repairAll_clean hm.clean]
  rfl
/-- The digits of a check number. -/
theorem seal_digits (n : Nat) (b : List UInt8) : (sealT n b)[b.length]? = some 32 ∧ ∃ d1 d2 d3 : Nat, d1 ≤ 9 ∧ d2 ≤ 9 ∧ d3 ≤ 9 ∧ (sealT n b)[b.length + 1]? = some (dig d1) ∧ (sealT n b)[b.length + 2]? = some (dig d2) ∧ (sealT n b)[b.length + 3]? = some (dig d3) ∧ d1 * 100 + d2 * 10 + d3 = sumT n b := by
  have hs := sumT_lt n b
  have hget : ∀ k, (sealT n b)[b.length + k]? = (32 :: three (sumT n b))[k]? := fun k => by
    unfold sealT
    rw [List.getElem?_append_right (by omega), Nat.add_sub_cancel_left]
  refine ⟨hget 0, sumT n b / 100, sumT n b / 10 % 10, sumT n b % 10, by omega, by omega, by omega, hget 1, hget 2, hget 3, by omega⟩
end Kr
