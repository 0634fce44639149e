/-
  Several texts in one: see the heads of its parts.
-/

import Derived.Test.YtcickafaomfbmaaGreatDoorZSBksPl
import Derived.Lib.AtoiTie
import Derived.Lib.ItoaNum
import Derived.Lib.Join
import Derived.Lib.SplitLaws
import Derived.Lib.Bytealg
/-
  Sheets as texts: what is valid, check numbers, lines, what is written, read, and put in again. Plain data and laws.
-/
namespace Kr
set_option linter.unusedSimpArgs false
set_option linter.unusedVariables false

/-- Number k of a row. -/
def nth (x : List Int) (k : Nat) : Int := x.getD k 0
/-- Whether a row comes before another one, by the first two numbers. -/
def shLess (a b : List Int) : Bool := decide (nth a 0 < nth b 0) || (decide (nth a 0 = nth b 0) && decide (nth a 1 < nth b 1))
def colsOf (kd : Int) : Nat := if kd = 3 then 5 else 2
def manyOk (kd : Int) (n : Nat) : Bool := if kd = 1 then decide (1 ≤ n) && decide (n ≤ 11) else if kd = 2 then decide (n ≤ 5) else if kd = 3 then true else decide (n = 6)
def rideRow (i : Nat) (x last : List Int) : Bool := if i = 0 then inb 0 86400000 (nth x 0) && inb 0 86400000 (nth x 1) && decide (nth x 0 ≤ nth x 1) else inb 0 5 (nth x 0) && inb 0 86400000 (nth x 1) && (decide (i = 1) || shLess last x)
def startRow (i : Nat) (x : List Int) : Bool := decide (nth x 0 = (i : Int) + 1) && inb 0 9999 (nth x 1)
def iceRow (i : Nat) (x last : List Int) : Bool := inb 0 7 (nth x 0) && inb 0 11 (nth x 1) && inb 0 2800 (nth x 2) && inb 0 2800 (nth x 3) && decide (nth x 2 ≤ nth x 3) && inb 0 1 (nth x 4) && (decide (i = 0) || shLess last x)
def judgeRow (i : Nat) (x : List Int) : Bool := decide (nth x 0 = (i : Int)) && inb 0 2 (nth x 1)
def shRow (kd : Int) (i : Nat) (x last : List Int) : Bool := if kd = 1 then rideRow i x last else if kd = 2 then startRow i x else if kd = 3 then iceRow i x last else judgeRow i x
/-- The rows from number i on, with the row before them. -/
def rowsOk (kd : Int) : Nat → List Int → List (List Int) → Bool
  | _, _, [] => true
  | i, last, x :: r => decide (x.length = colsOf kd) && shRow kd i x last && rowsOk kd (i + 1) x r
def shLeast (l : List (List Int)) : Int := l.foldl (fun n x => min n (nth x 1)) 2
def lastOk (kd : Int) (l : List (List Int)) : Bool := if kd = 2 then decide ((l.map fun x => nth x 1).Nodup) else if kd = 4 then decide (nth (l.getD 5 []) 1 = shLeast (l.take 5)) else true
/-- Whether a sheet is valid. -/
def sheetB (kd : Int) (l : List (List Int)) : Bool := inb 1 4 kd && (manyOk kd l.length && (rowsOk kd 0 [] l && lastOk kd l))

/-- The bytes, each times its place. -/
def weigh : Nat → List UInt8 → Nat
  | _, [] => 0
  | k, b :: r => k * b.toNat + weigh (k + 1) r
/-- The check number of a line. -/
def sumT (n : Nat) (l : List UInt8) : Nat := (7 * n + weigh 1 l) % 257
def dig (k : Nat) : UInt8 := UInt8.ofNat (48 + k)
def three (k : Nat) : List UInt8 := [dig (k / 100), dig (k / 10 % 10), dig (k % 10)]
/-- A line with its check number. -/
def sealT (n : Nat) (l : List UInt8) : List UInt8 := l ++ 32 :: three (sumT n l)
/-- Lines with their check numbers, from line n on. -/
def textFrom : Nat → List (List UInt8) → List UInt8
  | _, [] => []
  | n, l :: r => sealT n l ++ 10 :: textFrom (n + 1) r
def wordOf (kd : Int) : List UInt8 := if kd = 1 then [114, 105, 100, 101] else if kd = 2 then [115, 116, 97, 114, 116] else if kd = 3 then [105, 99, 101] else if kd = 4 then [106, 117, 100, 103, 101] else []
def rowText (x : List Int) : List UInt8 := Go.Lib.join (x.map Go.Lib.itoa) [44]
def endW : List UInt8 := [101, 110, 100, 32]
def linesOf (kd : Int) (rows : List (List Int)) : List (List UInt8) := wordOf kd :: (rows.map rowText ++ [endW ++ Go.Lib.itoa rows.length])
/-- What is written, with its error. -/
def writeR (kd : Int) (rows : List (List Int)) : List UInt8 × Int :=
  if sheetB kd rows then if 1500 < (textFrom 1 (linesOf kd rows)).length then ([], 9) else (textFrom 1 (linesOf kd rows), 0) else ([], 110)

def digitB (b : UInt8) : Bool := decide (48 ≤ b.toNat) && decide (b.toNat ≤ 57)
/-- A number as it is written. -/
def numOf (s : List UInt8) : Option Nat := match Go.Lib.decNat s with
  | some n => if n ≤ 86400000 ∧ Go.Lib.decDigits n = s then some n else none
  | none => none
def splitC : List UInt8 → List (List UInt8)
  | [] => [[]]
  | b :: r => if b = 44 then [] :: splitC r else match splitC r with
    | [] => [[b]]
    | h :: t => (b :: h) :: t
/-- The numbers of a row. -/
def rowOf (s : List UInt8) : Option (List Int) := match (splitC s).mapM numOf with
  | some l => if l.length ≤ 5 then some (l.map fun n : Nat => (n : Int)) else none
  | none => none
def kindOf (b : List UInt8) : Int := if b = wordOf 1 then 1 else if b = wordOf 2 then 2 else if b = wordOf 3 then 3 else if b = wordOf 4 then 4 else 0
/-- What was read. -/
structure RSt where
  kd : Int
  rows : List (List Int)
  ended : Bool
  deriving DecidableEq, Inhabited
def bodyOf (l : List UInt8) : List UInt8 := l.take (l.length - 4)
def formB (l : List UInt8) : Bool := decide (4 ≤ l.length) && (decide (l.getD (l.length - 4) 0 = 32) && (l.drop (l.length - 3)).all digitB)
def midL (n : Nat) (st : RSt) (body : List UInt8) : Option RSt :=
  if n = 1 then if kindOf body = 0 then none else some { st with kd := kindOf body }
  else if endW.isPrefixOf body then if body.drop 4 = Go.Lib.itoa st.rows.length then some { st with ended := true } else none
  else match rowOf body with
    | none => none
    | some r => if st.rows.length < 100 then some { st with rows := st.rows ++ [r] } else none
/-- One line is taken in, or its error. -/
def takeL (n : Nat) (st : RSt) (l : List UInt8) : Except Int RSt :=
  if st.ended || !formB l then .error 111
  else match midL n st (bodyOf l) with
    | none => .error 111
    | some s => if sealT n (bodyOf l) = l then .ok s else .error 112
/-- The lines of a text, and what stands behind the last line feed. -/
def cutLines : List UInt8 → List (List UInt8) × List UInt8
  | [] => ([], [])
  | b :: r => if b = 10 then ([] :: (cutLines r).1, (cutLines r).2) else match (cutLines r).1 with
    | [] => ([], b :: (cutLines r).2)
    | h :: t => ((b :: h) :: t, (cutLines r).2)
def readAll : Nat → RSt → List (List UInt8) → Except (Nat × Int) RSt
  | _, st, [] => .ok st
  | n, st, l :: r => match takeL n st l with
    | .error e => .error (n, e)
    | .ok s => readAll (n + 1) s r
/-- What is read: a sheet, a line, an error. -/
def readR (t : List UInt8) : (Int × List (List Int)) × Int × Int :=
  if 1500 < t.length then ((0, []), 0, 9)
  else match readAll 1 ⟨0, [], false⟩ (cutLines t).1 with
    | .error (n, e) => ((0, []), n, e)
    | .ok st => if (cutLines t).2 ≠ [] ∨ st.ended = false then ((0, []), (cutLines t).1.length + 1, 111)
      else if sheetB st.kd st.rows then ((st.kd, st.rows), 0, 0) else ((0, []), 0, 110)

/-- Whether a line is right with a byte put in. -/
def putOk (n : Nat) (l : List UInt8) (i c : Nat) : Bool := decide (c ≠ 63) && decide (sealT n ((l.set i (UInt8.ofNat c)).take (l.length - 4)) = l.set i (UInt8.ofNat c))
/-- The first number from lo on, before lo + k, of which something is so; lo + k if there is none. -/
def firstN (p : Nat → Bool) : Nat → Nat → Nat
  | lo, 0 => lo
  | lo, k + 1 => if p lo then lo else firstN p (lo + 1) k
/-- A line with its lost byte put in. -/
def putR (n : Nat) (l : List UInt8) : Option (List UInt8) :=
  if 5 ≤ l.length ∧ l.length ≤ 84 ∧ l.count 63 ≤ 1 then
    if firstN (putOk n l (l.idxOf 63)) 32 95 < 127 then some (l.set (l.idxOf 63) (UInt8.ofNat (firstN (putOk n l (l.idxOf 63)) 32 95))) else none
  else none
/-- Lines with what is lost put in, and the numbers of those lines; or the line of which nothing can be put in. -/
def repairAll : Nat → List UInt8 × List Int → List (List UInt8) → Except Nat (List UInt8 × List Int)
  | _, s, [] => .ok s
  | n, s, l :: r => if 63 ∈ l then match putR n l with
      | none => .error n
      | some y => repairAll (n + 1) (s.1 ++ (y ++ [10]), s.2 ++ [(n : Int)]) r
    else repairAll (n + 1) (s.1 ++ (l ++ [10]), s.2) r
def repairR (t : List UInt8) : (List UInt8 × List Int) × Int :=
  if 1500 < t.length then (([], []), 9)
  else if (cutLines t).2 ≠ [] then (([], []), 111)
  else match repairAll 1 ([], []) (cutLines t).1 with
    | .error n => (([], [(n : Int)]), 113)
    | .ok s => (s, 0)
end Kr

/-
  Sheets as texts: numbers as they are written, pieces between commas, check numbers in three digits. Plain laws.
-/
namespace Kr
open Go.Lib
set_option linter.unusedSimpArgs false
set_option linter.unusedVariables false

theorem decFrom_append : ∀ (l r : List UInt8) (a : Nat), decFrom a (l ++ r) = match decFrom a l with | some n => decFrom n r | none => none
  | [], r, a => rfl
  | b :: l, r, a => by
    simp only [List.cons_append, decFrom]
    cases digitVal b with
    | none => rfl
    | some d => exact decFrom_append l r _
theorem digitVal_dig {k : Nat} (h : k < 10) : digitVal (UInt8.ofNat (48 + k)) = some k := by
  unfold digitVal
  have e : (UInt8.ofNat (48 + k)).toNat = 48 + k := by simp; omega
  rw [e, if_pos (by omega)]
  simp
theorem decFrom_digits (n : Nat) : ∀ a, decFrom a (decDigits n) = some (a * 10 ^ (decDigits n).length + n) := by
  induction n using Nat.strongRecOn with
  | ind n ih =>
    intro a
    rw [decDigits]
    split
    · rename_i h
      simp only [decFrom, digitVal_dig h, List.length_singleton, Nat.pow_one]
    · rename_i h
      rw [decFrom_append, ih (n / 10) (by omega)]
      simp only [decFrom, digitVal_dig (Nat.mod_lt n (by decide : 0 < 10)), List.length_append, List.length_singleton, Nat.pow_succ]
      congr 1
      rw [Nat.add_mul, Nat.mul_assoc]
      omega
theorem digits_ne (n : Nat) : decDigits n ≠ [] := by
  rw [decDigits]
  split <;> simp
theorem decNat_digits (n : Nat) : decNat (decDigits n) = some n := by
  unfold decNat
  rw [if_neg (by simpa using digits_ne n), decFrom_digits]
  simp
theorem digits_len (n k : Nat) (hk : 0 < k) (h : n < 10 ^ k) : (decDigits n).length ≤ k := by
  induction k generalizing n with
  | zero => omega
  | succ k ih =>
    rw [decDigits]
    split
    · simp
    · rename_i h10
      rw [List.length_append, List.length_singleton]
      rcases Nat.eq_zero_or_pos k with h0 | h0
      · subst h0; simp at h; omega
      · have := ih (n / 10) h0 (by rw [Nat.pow_succ] at h; omega)
        omega
theorem dig_is {k : Nat} (h : k < 10) : (UInt8.ofNat (48 + k)).toNat = 48 + k := by simp; omega
theorem digits_all (n : Nat) : ∀ b ∈ decDigits n, 48 ≤ b.toNat ∧ b.toNat ≤ 57 := by
  induction n using Nat.strongRecOn with
  | ind n ih =>
    rw [decDigits]
    split
    · rename_i h
      intro b hb
      obtain rfl := List.mem_singleton.1 hb
      have := dig_is h
      omega
    · intro b hb
      rw [List.mem_append] at hb
      rcases hb with hb | hb
      · exact ih (n / 10) (by omega) b hb
      · obtain rfl := List.mem_singleton.1 hb
        have := dig_is (Nat.mod_lt n (by decide : 0 < 10))
        have := Nat.mod_lt n (by decide : 0 < 10)
        omega
/-- What the parser of the program's text finds of a number. -/
theorem atoiAll_digits {n : Nat} (h : n ≤ 86400000) : atoiAll (decDigits n) = .ok (n : Int) := by
  have hl : (decDigits n).length ≤ 18 := Nat.le_trans (digits_len n 8 (by decide) (by omega)) (by decide)
  have ha := digits_all n
  have hd := decNat_digits n
  rw [atoiAll_short _ hl]
  cases hx : decDigits n with
  | nil => exact absurd hx (digits_ne n)
  | cons b r =>
    rw [hx] at ha hd
    have hb := ha b (List.mem_cons_self ..)
    have h1 : ¬ (b == 45) = true := fun e => by have := beq_iff_eq.1 e; subst this; simp at hb
    have h2 : ¬ (b == 43) = true := fun e => by have := beq_iff_eq.1 e; subst this; simp at hb
    unfold atoi
    dsimp only
    rw [if_neg h1, if_neg h2, hd]
    rfl
theorem itoa_nat (n : Nat) : itoa (n : Int) = decDigits n := by unfold itoa; rw [if_neg (by omega)]; simp
theorem numOf_some {s : List UInt8} {n : Nat} : numOf s = some n ↔ n ≤ 86400000 ∧ s = decDigits n := by
  unfold numOf
  constructor
  · intro h
    cases hd : decNat s with
    | none => rw [hd] at h; cases h
    | some m =>
      rw [hd] at h
      dsimp only at h
      split at h
      · rename_i h2
        cases h
        exact ⟨h2.1, h2.2.symm⟩
      · cases h
  · rintro ⟨h1, rfl⟩
    rw [decNat_digits]
    dsimp only
    rw [if_pos ⟨h1, rfl⟩]
/-- A number that is read, and written again to the same bytes, is one as it is written. -/
theorem numOf_ok {s : List UInt8} {v : Int} (h : atoiAll s = .ok v) (h1 : itoa v = s) (h2 : inb 0 86400000 v = true) : numOf s = some v.toNat := by
  unfold inb at h2
  simp at h2
  rw [numOf_some]
  refine ⟨by omega, ?_⟩
  rw [← h1, ← itoa_nat, Int.toNat_of_nonneg h2.1]
theorem numOf_of {s : List UInt8} {n : Nat} (h : numOf s = some n) : atoiAll s = .ok (n : Int) ∧ itoa (n : Int) = s ∧ inb 0 86400000 (n : Int) = true := by
  obtain ⟨h1, rfl⟩ := numOf_some.1 h
  exact ⟨atoiAll_digits h1, itoa_nat n, by unfold inb; simp; omega⟩
theorem split_miss {s : List UInt8} (h : index s [44] = -1) : splitC s = [s] := by
  induction s with
  | nil => rfl
  | cons b r ih =>
    have hp : ([44] : List UInt8).isPrefixOf (b :: r) = decide (44 = b) := by simp [List.isPrefixOf, Bool.beq_eq_decide_eq]
    rw [index, hp] at h
    by_cases hb : b = 44
    · subst hb
      simp at h
    · rw [if_neg (by simpa using fun e => hb e.symm)] at h
      have hr : index r [44] = -1 := by
        have := index_ge r [44]
        split at h
        · rename_i h3; exact beq_iff_eq.1 h3
        · omega
      rw [splitC, if_neg hb, ih hr]
theorem split_hit {s : List UInt8} {i : Nat} (h : index s [44] = i) : splitC s = s.take i :: splitC (s.drop (i + 1)) := by
  induction s generalizing i with
  | nil => simp [index] at h
  | cons b r ih =>
    have hp : ([44] : List UInt8).isPrefixOf (b :: r) = decide (44 = b) := by simp [List.isPrefixOf, Bool.beq_eq_decide_eq]
    rw [index, hp] at h
    by_cases hb : b = 44
    · subst hb
      simp at h
      obtain rfl : i = 0 := by omega
      simp [splitC]
    · rw [if_neg (by simpa using fun e => hb e.symm)] at h
      split at h
      · omega
      · obtain ⟨j, hj⟩ : ∃ j : Nat, index r [44] = j := ⟨(index r [44]).toNat, by have := index_ge r [44]; rename_i h3; have : index r [44] ≠ -1 := fun e => h3 (by rw [e]; rfl); omega⟩
        have hi : i = j + 1 := by omega
        subst hi
        rw [splitC, if_neg hb, ih hj]
        simp
theorem splitK_splitC : ∀ (k : Nat) (s : List UInt8), count s [44] = k → splitK [44] 0 k s = splitC s
  | 0, s, h => by
    rw [splitK, split_miss]
    by_cases hm : index s [44] = -1
    · exact hm
    · obtain ⟨j, hj⟩ : ∃ j : Nat, index s [44] = j := ⟨(index s [44]).toNat, by have := index_ge s [44]; omega⟩
      rw [count_hit (by simp) hj] at h
      omega
  | k + 1, s, h => by
    by_cases hm : index s [44] = -1
    · rw [count_miss hm] at h; omega
    · obtain ⟨j, hj⟩ : ∃ j : Nat, index s [44] = j := ⟨(index s [44]).toNat, by have := index_ge s [44]; omega⟩
      have hc : count (s.drop (j + 1)) [44] = k := by
        rw [count_hit (by simp) hj] at h
        simp at h
        omega
      rw [splitK, if_neg (by simpa using hm), hj, split_hit hj]
      simp only [Int.toNat_natCast, Nat.add_zero, List.length_singleton]
      rw [splitK_splitC k _ hc]
theorem three_is : ∀ k : Fin 257, (decDigits (1000 + k.val)).drop 1 = three k.val := by
  intro k
  rw [decDigits, dif_neg (by omega), decDigits, dif_neg (by omega), decDigits, dif_neg (by omega), decDigits, dif_pos (by omega)]
  simp only [List.append_assoc, List.cons_append, List.nil_append, List.drop_succ_cons, List.drop_zero]
  unfold three dig
  have h1 : (1000 + k.val) / 10 / 10 % 10 = k.val / 100 := by omega
  have h2 : (1000 + k.val) / 10 % 10 = k.val / 10 % 10 := by omega
  have h3 : (1000 + k.val) % 10 = k.val % 10 := by omega
  rw [h1, h2, h3]
theorem three_itoa {k : Nat} (h : k < 257) : (itoa (1000 + (k : Int))).drop 1 = three k := by
  have e : (1000 + (k : Int)) = ((1000 + k : Nat) : Int) := by omega
  rw [e, itoa_nat]
  exact three_is ⟨k, h⟩
theorem digits_one {k : Nat} (h : k < 10) : decDigits k = [dig k] := by rw [decDigits, dif_pos h]; rfl
theorem sumT_lt (n : Nat) (l : List UInt8) : sumT n l < 257 := Nat.mod_lt _ (by decide)
theorem seal_len (n : Nat) (l : List UInt8) : (sealT n l).length = l.length + 4 := by simp [sealT, three]
theorem weigh_append (l r : List UInt8) : ∀ k, weigh k (l ++ r) = weigh k l + weigh (k + l.length) r := by
  induction l with
  | nil => intro k; simp [weigh]
  | cons b l ih =>
    intro k
    rw [List.cons_append, weigh, weigh, ih]
    simp only [List.length_cons]
    rw [show k + 1 + l.length = k + (l.length + 1) by omega]
    omega
theorem weigh_snoc (l : List UInt8) (b : UInt8) : weigh 1 (l ++ [b]) = weigh 1 l + (l.length + 1) * b.toNat := by
  rw [weigh_append]
  simp only [weigh, Nat.add_zero]
  rw [Nat.add_comm 1]
theorem weigh_leK : ∀ (l : List UInt8) (k : Nat), weigh k l ≤ l.length * (k + l.length) * 255
  | [], k => by simp [weigh]
  | b :: l, k => by
    have h1 := weigh_leK l (k + 1)
    have h2 : b.toNat ≤ 255 := by have := b.toNat_lt; omega
    simp only [weigh, List.length_cons]
    have h3 : k * b.toNat ≤ k * 255 := Nat.mul_le_mul_left _ h2
    calc k * b.toNat + weigh (k + 1) l ≤ k * 255 + l.length * (k + 1 + l.length) * 255 := by omega
      _ ≤ (l.length + 1) * (k + (l.length + 1)) * 255 := by
        rw [← Nat.add_mul]
        refine Nat.mul_le_mul_right _ ?_
        rw [Nat.add_mul, Nat.one_mul, show k + (l.length + 1) = k + 1 + l.length by omega]
        omega
theorem weigh_le (l : List UInt8) : weigh 1 l ≤ l.length * (1 + l.length) * 255 := weigh_leK l 1
end Kr

/-
  Sheets as texts: lines that are cut off a text, one after the other. Plain laws.
-/
namespace Kr
open Go.Lib
set_option linter.unusedSimpArgs false
set_option linter.unusedVariables false

theorem index_one (c : UInt8) : ∀ s : List UInt8, index s [c] = if s.idxOf c < s.length then (s.idxOf c : Int) else -1
  | [] => by simp [index]
  | b :: r => by
    have hp : ([c] : List UInt8).isPrefixOf (b :: r) = (c == b) := by simp [List.isPrefixOf]
    rw [index, hp, index_one c r, List.idxOf_cons]
    by_cases hb : b = c
    · subst hb
      simp
    · have h1 : (c == b) = false := by simpa using fun e => hb e.symm
      have h2 : (b == c) = false := by simpa using hb
      rw [h1, h2]
      simp only [Bool.false_eq_true, if_false, cond_false, List.length_cons]
      by_cases h : r.idxOf c < r.length
      · have h3 : ¬ ((r.idxOf c : Int) == -1) = true := fun e => by have := beq_iff_eq.1 e; omega
        rw [if_pos (show r.idxOf c + 1 < r.length + 1 by omega)]
        simp only [if_pos h]
        rw [if_neg h3]
        omega
      · rw [if_neg (show ¬ r.idxOf c + 1 < r.length + 1 by omega)]
        simp only [if_neg h]
        rfl
theorem indexByte_one (c : UInt8) : ∀ s : List UInt8, indexByte s c = if s.idxOf c < s.length then (s.idxOf c : Int) else -1
  | [] => by simp [indexByte]
  | b :: r => by
    rw [indexByte, indexByte_one c r, List.idxOf_cons]
    by_cases hb : b = c
    · subst hb
      simp
    · have h2 : (b == c) = false := by simpa using hb
      rw [h2]
      simp only [Bool.false_eq_true, if_false, cond_false, List.length_cons]
      by_cases h : r.idxOf c < r.length
      · have h3 : ¬ ((r.idxOf c : Int) == -1) = true := fun e => by have := beq_iff_eq.1 e; omega
        rw [if_pos (show r.idxOf c + 1 < r.length + 1 by omega)]
        simp only [if_pos h]
        rw [if_neg h3]
        omega
      · rw [if_neg (show ¬ r.idxOf c + 1 < r.length + 1 by omega)]
        simp only [if_neg h]
        rfl
theorem cut_hit {s : List UInt8} (h : s.idxOf 10 < s.length) : cutLines s = (s.take (s.idxOf 10) :: (cutLines (s.drop (s.idxOf 10 + 1))).1, (cutLines (s.drop (s.idxOf 10 + 1))).2) := by
  induction s with
  | nil => simp at h
  | cons b r ih =>
    rw [List.idxOf_cons] at h ⊢
    by_cases hb : b = 10
    · subst hb
      simp [cutLines]
    · have h2 : (b == 10) = false := by simpa using hb
      rw [h2] at h ⊢
      simp only [cond_false, List.length_cons] at h ⊢
      rw [cutLines, if_neg hb, ih (by omega)]
      simp
theorem cut_miss {s : List UInt8} (h : ¬ s.idxOf 10 < s.length) : cutLines s = ([], s) := by
  induction s with
  | nil => rfl
  | cons b r ih =>
    rw [List.idxOf_cons] at h
    by_cases hb : b = 10
    · subst hb
      simp at h
    · have h2 : (b == 10) = false := by simpa using hb
      rw [h2] at h
      simp only [cond_false, List.length_cons] at h
      rw [cutLines, if_neg hb, ih (by omega)]
/-- All lines, each with its line feed, and the rest, are the text. -/
theorem cut_join (s : List UInt8) : (cutLines s).1.flatMap (· ++ [10]) ++ (cutLines s).2 = s := by
  induction s with
  | nil => rfl
  | cons b r ih =>
    rw [cutLines]
    by_cases hb : b = 10
    · subst hb
      rw [if_pos rfl]
      simpa using ih
    · rw [if_neg hb]
      cases hc : (cutLines r).1 with
      | nil => rw [hc] at ih; simpa using ih
      | cons h t => rw [hc] at ih; simpa using ih
theorem cut_no (s : List UInt8) : (∀ l ∈ (cutLines s).1, (10 : UInt8) ∉ l) ∧ (10 : UInt8) ∉ (cutLines s).2 := by
  induction s with
  | nil => simp [cutLines]
  | cons b r ih =>
    rw [cutLines]
    by_cases hb : b = 10
    · rw [if_pos hb]
      exact ⟨fun l hl => by rcases List.mem_cons.1 hl with h | h; · subst h; simp
                            · exact ih.1 l h, ih.2⟩
    · rw [if_neg hb]
      have hb' : ¬ (10 : UInt8) = b := fun e => hb e.symm
      cases hc : (cutLines r).1 with
      | nil => exact ⟨by simp, by simp [hb', ih.2]⟩
      | cons h t =>
        rw [hc] at ih
        exact ⟨fun l hl => by
          rcases List.mem_cons.1 hl with h1 | h1
          · subst h1; simp [hb', ih.1 h (List.mem_cons_self ..)]
          · exact ih.1 l (List.mem_cons_of_mem _ h1), ih.2⟩
theorem cut_len (s : List UInt8) : (cutLines s).1.length ≤ s.length ∧ ∀ l ∈ (cutLines s).1, l.length ≤ s.length := by
  induction s with
  | nil => simp [cutLines]
  | cons b r ih =>
    rw [cutLines]
    by_cases hb : b = 10
    · rw [if_pos hb]
      refine ⟨by simp; exact ih.1, fun l hl => ?_⟩
      rcases List.mem_cons.1 hl with h | h
      · subst h; simp
      · have := ih.2 l h; simp; omega
    · rw [if_neg hb]
      cases hc : (cutLines r).1 with
      | nil => simp
      | cons h t =>
        rw [hc] at ih
        simp only [List.length_cons] at ih ⊢
        refine ⟨by have := ih.1; omega, fun l hl => ?_⟩
        rcases List.mem_cons.1 hl with h1 | h1
        · subst h1
          have := ih.2 h (List.mem_cons_self ..)
          simp; omega
        · have := ih.2 l (List.mem_cons_of_mem _ h1)
          omega
/-- Lines that hold no line feed, each with one behind it, are cut as they were put together. -/
theorem cut_of_lines : ∀ ls : List (List UInt8), (∀ l ∈ ls, (10 : UInt8) ∉ l) → cutLines (ls.flatMap (· ++ [10])) = (ls, [])
  | [], _ => rfl
  | l :: ls, h => by
    have ih := cut_of_lines ls fun x hx => h x (List.mem_cons_of_mem _ hx)
    have hl := h l (List.mem_cons_self ..)
    have hg : ∀ (l : List UInt8) (R : List UInt8), (10 : UInt8) ∉ l → cutLines (l ++ 10 :: R) = (l :: (cutLines R).1, (cutLines R).2) := by
      intro l R
      induction l with
      | nil => intro _; simp [cutLines]
      | cons b l ih2 =>
        intro hb
        simp only [List.mem_cons, not_or] at hb
        rw [List.cons_append, cutLines, if_neg (fun e => hb.1 e.symm), ih2 hb.2]
    rw [List.flatMap_cons, List.append_assoc, List.singleton_append, hg l _ hl, ih]

/-- The two ways to cut at a comma. -/
theorem splitC_idx (s : List UInt8) : splitC s = if s.idxOf 44 < s.length then s.take (s.idxOf 44) :: splitC (s.drop (s.idxOf 44 + 1)) else [s] := by
  have h := index_one 44 s
  by_cases hi : s.idxOf 44 < s.length
  · rw [if_pos hi] at h ⊢
    exact split_hit h
  · rw [if_neg hi] at h ⊢
    exact split_miss h
theorem splitC_ne (s : List UInt8) : splitC s ≠ [] := by
  rw [splitC_idx]
  split <;> simp
theorem splitC_len (s : List UInt8) : (splitC s).length ≤ s.length + 1 ∧ ∀ p ∈ splitC s, p.length ≤ s.length := by
  induction s with
  | nil => simp [splitC]
  | cons b r ih =>
    rw [splitC]
    by_cases hb : b = 44
    · rw [if_pos hb]
      refine ⟨by simp; omega, fun p hp => ?_⟩
      rcases List.mem_cons.1 hp with h | h
      · subst h; simp
      · have := ih.2 p h; simp; omega
    · rw [if_neg hb]
      cases hc : splitC r with
      | nil => exact absurd hc (splitC_ne r)
      | cons h t =>
        rw [hc] at ih
        simp only [List.length_cons] at ih ⊢
        refine ⟨by omega, fun p hp => ?_⟩
        rcases List.mem_cons.1 hp with h1 | h1
        · subst h1
          have := ih.2 h (List.mem_cons_self ..)
          simp; omega
        · have := ih.2 p (List.mem_cons_of_mem _ h1)
          omega
end Kr
