/-
  Several texts in one: see the heads of its parts.
-/

import Derived.Test.YtcickafaomfbmaaGreatDoorZSBksYaZ
import Derived.Test.YtcickafaomfbmaaGreatDoorZSBksVs
import Derived.Test.YtcickafaomfbmaaGreatDoorZSBksVeX
import Derived.Test.YtcickafaomfbmaaGreatDoorZSBksIsT
import Derived.Test.YtcickafaomfbmaaGreatDoorZSBksVdT
import Derived.Test.YtcickafaomfbmaaGreatDoorZSBksVjL
import Derived.Lib.AtoiAllCases
/-
  Walks of package sheet: the iterator over the lines of a text.
-/
namespace Kr
set_option linter.unusedVariables false
/-- Lines with their numbers, from number n on. -/
def numL : Nat → List (List UInt8) → List (Nat × ByteArray)
  | _, [] => []
  | n, l :: r => (n, ⟨l.toArray⟩) :: numL (n + 1) r
theorem numL_len : ∀ (L : List (List UInt8)) (n : Nat), (numL n L).length = L.length
  | [], _ => rfl
  | l :: r, n => by unfold numL; rw [List.length_cons, numL_len r, List.length_cons]
theorem numL_get : ∀ (L : List (List UInt8)) (n k : Nat) (l : List UInt8), L[k]? = some l → (numL n L)[k]? = some (n + k, ⟨l.toArray⟩)
  | [], _, k, l, h => by simp at h
  | a :: r, n, 0, l, h => by
    simp at h
    subst h
    rfl
  | a :: r, n, k + 1, l, h => by
    rw [List.getElem?_cons_succ] at h
    unfold numL
    rw [List.getElem?_cons_succ, numL_get r (n + 1) k l h, show n + 1 + k = n + (k + 1) by omega]
end Kr
namespace Go.Proofs.YtcickafaomfbmaaGreatDoor
open Go.RowKit Kr
set_option linter.unusedSimpArgs false
set_option linter.unusedVariables false

/-- What the iterator hands out. -/
def encL (x : Nat × ByteArray) : Array Value := #[.int .i64 (x.1 : Int), .string x.2]
/-- With what it panics at the end. -/
def finL (s : List UInt8) : Option Value := if (cutLines s).2 = [] then none else some (wrongV (((cutLines s).1.length + 1 : Nat) : Int) 111)

attribute [local go_sem] Oper.semAt_some
set_option maxRecDepth 100000 in
set_option maxHeartbeats 4000000 in
theorem sheet_lines_1_pan (n bT : Nat) (s : ByteArray) (w0 : World) (hs : s.size ≤ 1500) (hw : LibAt w0) (hb0 : w0.heap.size ≤ bT) :
    SeqPan bT 9 n Tryz.prog 71 #[.pointer (some ⟨bT, 0, none⟩)] encL (numL 1 (cutLines s.data.toList).1) (finL s.data.toList) w0 (.string s) := by
  intro l J Jx Jp W hbx hJE hJA hY hJ0
  have hJA2 := fun k (A B : World) (h : J k A) (hE : A.Exts B) => hJA k A B none h ⟨hE.below.os, hE.below.tape, hE.below.output, hE.below.size, fun i hi _ => hE.below.block i hi⟩ (fun r e => by cases e)
  have hJS := fun k (A : World) (v : Value) (h : J k A) => hJA k A _ (some bT) h (grownBy_put A bT 0 v) (fun r e => by cases e; rfl)
  have hfin0 : (cutLines s.data.toList).2 = [] → finL s.data.toList = none := fun h => by unfold finL; rw [if_pos h]
  have hfin1 : (cutLines s.data.toList).2 ≠ [] → finL s.data.toList = some (wrongV (((cutLines s.data.toList).1.length + 1 : Nat) : Int) 111) := fun h => by unfold finL; rw [if_neg h]
  obtain ⟨F, hF⟩ : ∃ F, finL s.data.toList = F := ⟨_, rfl⟩
  rw [hF] at hfin0 hfin1 ⊢
  have hcs := cut_len s.data.toList
  rw [tx_len] at hcs
  have hL0 : cutLines s.data.toList = ((cutLines s.data.toList).1.drop 0, (cutLines s.data.toList).2) := rfl
  have hget := fun k x (h : (cutLines s.data.toList).1[k]? = some x) => numL_get _ 1 k x h
  rw [numL_len]
  generalize numL 1 (cutLines s.data.toList).1 = XS at *
  generalize (cutLines s.data.toList).1 = L at *
  generalize (cutLines s.data.toList).2 = T at *
  have hLn : L.length ≤ 1500 := by omega
  have hE0 := hJE 0 W hJ0
  obtain ⟨X0, rfl⟩ := hE0
  have HBX := Lib.hid hbx
  clear hbx
  have HJE := Lib.hid hJE
  clear hJE
  have HJA := Lib.hid hJA2
  clear hJA2
  have HJS := Lib.hid hJS
  clear hJS
  have HF0 := Lib.hid hfin0
  clear hfin0
  have HF1 := Lib.hid hfin1
  clear hfin1
  have HGET := Lib.hid hget
  clear hget
  have HL0 := Lib.hid hL0
  clear hL0
  have HW := Lib.hid hw
  clear hw
  have HY := Lib.hid hY
  clear hY
  have HJ0 := Lib.hid hJ0
  clear hJ0
  clear hJA hcs hF
  show CallsIn Fence.wide n Tryz.prog 71 #[.func (.yield l) #[] #[], .pointer (some ⟨bT, 0, none⟩)] _ _
  refine callsIn_of_wp Tryz.func71 rfl trivial ?_ rfl
  simp only [Tryz.ntmps71, List.size_toArray, List.length_cons, List.length_nil, Nat.reduceAdd, Nat.reduceSub, Array.replicate_succ, Array.replicate_zero, List.push_toArray, List.append_toArray, List.nil_append, List.cons_append]
  gi_wp2
  gi_loopw [3, 4, 5, 6] (fun nn _ _ _ wr => ∃ (k : Nat) (r : ByteArray), k ≤ L.length ∧ nn = .int .i64 ((k : Int) + 1) ∧ r.size ≤ 1500 ∧ Hid (cutLines r.data.toList = (L.drop k, T)) ∧ w0.Exts wr ∧ Hid (LaysAs wr bT (.cells #[.string r] 9 (0, 0))) ∧ Hid (J k wr)) (fun nn _ _ _ _ => L.length + 2 - (intOf nn).toNat)
  case atStart => exact ⟨0, s, Nat.zero_le _, rfl, hs, HL0, exq, HBX, HJ0⟩
  case round =>
    obtain ⟨k, r, hk, rfl, hr, HC, hE, HB, HJ⟩ := hrel
    obtain ⟨X, rfl⟩ := hE
    have a0 := LaysAs.cell HB.out 0 _ rfl
    have na := Lays.of_cell a0
    have fz := laysAs_frz (i := 0) HB.out
    rcases Nat.eq_zero_or_pos r.size with h0 | h0
    · have hr0 : r = ⟨#[]⟩ := tx_inj (List.eq_nil_of_length_eq_zero (by rw [tx_len]; exact h0))
      subst hr0
      have hc2 : cutLines ([] : List UInt8) = (L.drop k, T) := HC.out
      have hd : L.drop k = [] := (congrArg Prod.fst hc2).symm
      have hT : T = [] := (congrArg Prod.snd hc2).symm
      have hkn : k = L.length := by have := List.drop_eq_nil_iff.1 hd; omega
      have hfin := HF0.out hT
      have hJ2 := HJ.out
      rw [hkn] at hJ2
      have HFIN := Lib.hid hfin
      clear hfin
      have HJ2 := Lib.hid hJ2
      clear hJ2
      clear hc2 hd hT hkn HC
      gi_wp2
      go_end0
      exact .inl ⟨HFIN.out, ⟨_, rfl⟩, HJ2.out⟩
    have hne : r.toList.isEmpty = false := by
      rw [Lib.toList_data]
      cases hl : r.data.toList with
      | nil =>
        have h8 : r.size = 0 := by rw [← tx_len, hl]; rfl
        omega
      | cons a b => rfl
    have hcut := fun (W : World) (hE : w0.Exts W) => Cut_any r W (by omega) (HW.out.mono hE)
    by_cases hix : r.data.toList.idxOf 10 < r.size
    rotate_left
    · have hc2 := HC.out
      rw [cut_miss (by rw [tx_len]; exact hix)] at hc2
      have hd : L.drop k = [] := (congrArg Prod.fst hc2).symm
      have hT : T = r.data.toList := (congrArg Prod.snd hc2).symm
      have hkn : k = L.length := by have := List.drop_eq_nil_iff.1 hd; omega
      have hfin := HF1.out (by
        rw [hT]
        intro e
        have := congrArg List.length e
        rw [tx_len] at this
        have h9 : ([] : List UInt8).length = 0 := rfl
        omega)
      have hdec : decide (r.data.toList.idxOf 10 < r.size) = false := decide_eq_false hix
      rw [hdec] at hcut
      have hJ2 := fun (W : World) (hE : (World.ext _ X).Exts W) => HJA.out k _ W HJ.out hE
      rw [hkn] at hJ2
      rw [← hkn, show ((k + 1 : Nat) : Int) = (k : Int) + 1 by omega] at hfin
      have HFIN := Lib.hid hfin
      clear hfin
      have HJ2 := Lib.hid hJ2
      clear hJ2
      have HCUT := Lib.hid hcut
      clear hcut
      clear hc2 hd hT hkn HC hix hdec
      gi_wp2_with (refine ⟨trivial, fun e => (by cases e), ?_⟩; gi_at_call 72; refine (callsIn_wide.2 (HCUT.out _ exq)).mono ?_; rintro e w' ⟨a, b, rfl, -, X2, rfl⟩)
      refine ⟨rfl, .inr (.inr (.inr ⟨_, HFIN.out, rfl, HJ2.out _ exq⟩))⟩
    have hdec : decide (r.data.toList.idxOf 10 < r.size) = true := decide_eq_true hix
    rw [hdec] at hcut
    have hc2 := HC.out
    rw [cut_hit (by rw [tx_len]; exact hix)] at hc2
    have hd1 := congrArg Prod.fst hc2
    have hd2 := congrArg Prod.snd hc2
    dsimp only at hd1 hd2
    have hkl : k < L.length := by
      rcases Nat.lt_or_ge k L.length with h | h
      · exact h
      · rw [List.drop_eq_nil_of_le h] at hd1; cases hd1
    rw [List.drop_eq_getElem_cons hkl] at hd1
    injection hd1 with hd3 hd4
    have hx := HGET.out k _ (List.getElem?_eq_getElem hkl)
    rw [← hd3] at hx
    have hdr : (r.data.toList.drop (r.data.toList.idxOf 10 + 1)).length ≤ 1500 := by rw [List.length_drop, tx_len]; omega
    have hcn : cutLines (r.data.toList.drop (r.data.toList.idxOf 10 + 1)) = (L.drop (k + 1), T) := Prod.ext hd4 hd2
    have HCUT := Lib.hid hcut
    clear hcut
    have HX := Lib.hid hx
    clear hx
    have HDR := Lib.hid hdr
    clear hdr
    have HCN := Lib.hid hcn
    clear hcn
    have HIX := Lib.hid hix
    clear hix
    clear hc2 hd2 hd3 hd4 hdec HC
    gi_wp2_with (refine ⟨trivial, fun e => (by cases e), ?_⟩; gi_at_call 72; refine (callsIn_wide.2 (HCUT.out _ exq)).mono ?_; rintro e w' ⟨a, b, rfl, hab, X2, rfl⟩; obtain ⟨hab1, hab2⟩ := hab HIX.out; obtain rfl : a = ⟨(r.data.toList.take (r.data.toList.idxOf 10)).toArray⟩ := tx_inj (by rw [hab1]); clear hab hab1; have HAB := Lib.hid hab2; clear hab2; obtain ⟨fn, tmps, assign, body, hy, hR⟩ := HY.out k _ _ HX.out (HJA.out k _ _ HJ.out ⟨X2, rfl⟩); dsimp only [encL] at hy; rw [show ((1 + k : Nat) : Int) = (k : Int) + 1 by omega] at hy)
    refine ⟨fun e => (by cases e), hR.mono ?_⟩
    clear hR hy
    rintro e W3 (⟨rfl, hJ3, hk3⟩ | ⟨rfl, hJx3⟩ | ⟨ch, rfl, hJp⟩)
    · have hE3 := HJE.out _ _ hJ3
      have hB3 := hk3 _ (HB.out.exts ⟨X2, rfl⟩)
      obtain ⟨X3, rfl⟩ := hE3
      have b0 := LaysAs.cell hB3 0 _ rfl
      have nb := Lays.of_cell b0
      have fb := laysAs_frz (i := 0) hB3
      have hJ4 := HJS.out _ _ (.string b) hJ3
      have HJ4 := Lib.hid hJ4
      clear hJ4
      have HB3 := Lib.hid hB3
      clear hB3
      clear hk3 a0 na fz HB HJ hJ3
      gi_wp2
      go_roundw
      case rel => exact ⟨k + 1, b, by omega, by go_num, by rw [← tx_len, HAB.out]; exact HDR.out, Lib.hid (by rw [HAB.out]; exact HCN.out), World.Exts.setCell exq hb0 _, Lib.hid (LaysAs.set (cs := [.string r]) HB3.out (i := 0) (.string b)), HJ4⟩
      case measure => simp [intOf]; omega
    · --[D
      gi_wp2
      refine bodyPost_ret (results_none rfl _ _ _) rfl ?_
      exact .inr (.inl ⟨⟨_, rfl⟩, k, hJx3⟩)
    · --[E
      exact ⟨rfl, .inr (.inr (.inl ⟨ch, rfl, hJp⟩))⟩
end Go.Proofs.YtcickafaomfbmaaGreatDoor

/-
  Walks of package sheet and its reference: check numbers of lines, lines with their check numbers, numbers with commas.
-/
namespace Kr
set_option linter.unusedVariables false
/-- What Sum returns. -/
def sumR (n : Int) (l : List UInt8) : Int × Int := if inb 1 102 n = true ∧ l.length ≤ 80 then (((sumT n.toNat l : Nat) : Int), 0) else (0, 2)
end Kr
namespace Go.Proofs.YtcickafaomfbmaaGreatDoor
open Go.RowKit Kr
set_option linter.unusedSimpArgs false
set_option linter.unusedVariables false

set_option maxHeartbeats 1000000 in
theorem sheet_sealed_any (n : Nat) (s : ByteArray) (w : World) (hn : n ≤ 5000) (hs : s.size ≤ 6000) (hw : LibAt w) :
    Calls Tryz.prog 32 #[.int .i64 (n : Int), .string s] w fun e w' => ∃ r, e = .returned (.string r) ∧ r.data.toList = sealT n s.data.toList ∧ w.Exts w' := by
  have hk := sumT_lt n s.data.toList
  obtain ⟨k, hkk⟩ : ∃ k, sumT n s.data.toList = k := ⟨_, rfl⟩
  have hsum := fun (W : World) => sheet_sum_any n s W (by omega) hs
  rw [hkk] at hsum hk
  have hit := fun (W : World) (hE : w.Exts W) => Itoa_any (1000 + (k : Int)) (by omega) (by omega) W (hw.mono hE)
  have h3 := three_itoa hk
  have hl4 : (Lib.itoa (1000 + (k : Int))).length = 4 := by
    have h := congrArg List.length h3
    rw [List.length_drop] at h
    simp [three] at h
    omega
  have HSUM := Lib.hid hsum
  clear hsum
  have HIT := Lib.hid hit
  clear hit
  have H3 := Lib.hid h3
  clear h3
  have HL4 := Lib.hid hl4
  clear hl4
  have HK := Lib.hid hkk
  clear hkk
  clear hw
  go_enter Tryz.func32, Tryz.ntmps32
  go_wp2_with (first
    | (go_at_call 70; refine (HSUM.out _).mono ?_; rintro e w' ⟨rfl, X2, rfl⟩)
    | (go_at_call 31; refine (HIT.out _ exq).mono ?_; rintro e w' ⟨r, rfl, hr, X3, rfl⟩; have hr4 : r.size = 4 := (by rw [← tx_len, hr]; exact HL4.out); have HR := Lib.hid hr; clear hr))
  go_ret
  refine ⟨_, rfl, ?_, exq⟩
  rw [tx_append, tx_append, Lib.extract_data, HR.out]
  have hd := H3.out
  have h4 := HL4.out
  unfold sealT
  rw [HK.out, ← hd, List.append_assoc]
  congr 1
  show [32] ++ _ = _
  rw [List.singleton_append]
  congr 1
  exact List.take_of_length_le (by rw [List.length_drop, h4]; omega)

theorem sheet_Sum_any (n : Int) (s : ByteArray) (w : World) :
    Calls Tryz.prog 50 #[.int .i64 n, .string s] w fun e w' => e = .returned (.tuple #[.int .i64 (sumR n s.data.toList).1, .int .i64 (sumR n s.data.toList).2]) ∧ w.Exts w' := by
  have hb : inAll 1 102 [n] = inb 1 102 n := by simp [inAll]
  cases h1 : inb 1 102 n
  · have hv : sumR n s.data.toList = (0, 2) := by unfold sumR; rw [if_neg (by rw [h1]; simp)]
    rw [h1] at hb
    rw [hv]
    have HB := Lib.hid hb
    clear hb
    clear hv
    go_enter Tryz.func50, Tryz.ntmps50
    go_wp2_with (go_at_call 56; refine (sheet_in_any 1 102 _ [n] _ (row_int1 _ _ _ (by simp))).mono ?_; rintro e w' ⟨rfl, X2, rfl⟩; rw [HB.out])
    refine bodyPost_ret (v := .tuple #[.int .i64 0, .int .i64 2]) (by simp [results, Tryz.results50, go_sem]) rfl ?_
    exact ⟨rfl, exq⟩
  · have hn : 1 ≤ n ∧ n ≤ 102 := by unfold inb at h1; simp at h1; exact h1
    obtain ⟨m, rfl⟩ := Int.eq_ofNat_of_zero_le (show 0 ≤ n by omega)
    rw [h1] at hb
    rcases Nat.lt_or_ge 80 s.size with h8 | h8
    · have hv : sumR (m : Int) s.data.toList = (0, 2) := by unfold sumR; rw [if_neg (by rw [tx_len]; omega)]
      rw [hv]
      have HB := Lib.hid hb
      clear hb
      clear hv
      go_enter Tryz.func50, Tryz.ntmps50
      go_wp2_with (go_at_call 56; refine (sheet_in_any 1 102 _ [(m : Int)] _ (row_int1 _ _ _ (by simp))).mono ?_; rintro e w' ⟨rfl, X2, rfl⟩; rw [HB.out])
      refine bodyPost_ret (v := .tuple #[.int .i64 0, .int .i64 2]) (by simp [results, Tryz.results50, go_sem]) rfl ?_
      exact ⟨rfl, exq⟩
    · have hv : sumR (m : Int) s.data.toList = (((sumT m s.data.toList : Nat) : Int), 0) := by unfold sumR; rw [if_pos ⟨h1, by rw [tx_len]; omega⟩]; rfl
      rw [hv]
      have h8i : ¬ (80 : Int) < (s.size : Int) := by omega
      have hsum := fun (W : World) => sheet_sum_any m s W (by omega) (by omega)
      have HB := Lib.hid hb
      clear hb
      have HSUM := Lib.hid hsum
      clear hsum
      clear hv
      go_enter Tryz.func50, Tryz.ntmps50
      go_wp2_with (first
        | (go_at_call 56; refine (sheet_in_any 1 102 _ [(m : Int)] _ (row_int1 _ _ _ (by simp))).mono ?_; rintro e w' ⟨rfl, X2, rfl⟩; rw [HB.out])
        | (go_at_call 70; refine (HSUM.out _).mono ?_; rintro e w' ⟨rfl, X3, rfl⟩))
      refine bodyPost_ret (v := .tuple #[.int .i64 ((sumT m s.data.toList : Nat) : Int), .int .i64 0]) (by simp [results, Tryz.results50, go_sem]) rfl ?_
      exact ⟨rfl, exq⟩

end Go.Proofs.YtcickafaomfbmaaGreatDoor

/-
  Walks of package sheet: the reader's number; whether all bytes are digits.
-/
namespace Go.Proofs.YtcickafaomfbmaaGreatDoor
open Go.RowKit Kr Go.Proofs
set_option linter.unusedSimpArgs false
set_option linter.unusedVariables false

theorem reader_take_1_any (x : Nat) (W : World) : Calls Tryz.prog 74 #[.int .i32 (x : Int)] W fun e w' => e = .returned (.bool (decide (x < 48) || decide (57 < x))) ∧ W.Exts w' := by
  rcases Nat.lt_or_ge x 48 with h1 | h1
  · have h1i : (x : Int) < 48 := by omega
    rw [decide_eq_true h1, Bool.true_or]
    go_enter Tryz.func74, Tryz.ntmps74
    go_wp2_with fail
    go_ret
    exact ⟨rfl, exq⟩
  · have h1i : ¬ (x : Int) < 48 := by omega
    rw [decide_eq_false (by omega : ¬ x < 48), Bool.false_or]
    rcases Nat.lt_or_ge 57 x with h2 | h2
    · have h2i : (57 : Int) < (x : Int) := by omega
      rw [decide_eq_true h2]
      go_enter Tryz.func74, Tryz.ntmps74
      go_wp2_with fail
      go_ret
      exact ⟨rfl, exq⟩
    · have h2i : ¬ (57 : Int) < (x : Int) := by omega
      rw [decide_eq_false (by omega : ¬ 57 < x)]
      go_enter Tryz.func74, Tryz.ntmps74
      go_wp2_with fail
      go_ret
      exact ⟨rfl, exq⟩
theorem ContainsFunc_digits (s : ByteArray) (w : World) : Calls Tryz.prog 73 #[.string s, .func (.func 74) #[] #[]] w fun e w' => e = .returned (.bool (!s.data.toList.all digitB)) ∧ w.Exts w' :=
  (Any.strings_ContainsFunc_grows Tryz.laysGw17 74 #[] (fun _ _ => by kernel_rfl) (fun r => decide (r < 48) || decide (57 < r)) s w
    (fun W x hx hb => (show Calls Tryz.prog 74 #[.int .i32 (x : Int)] W _ from (reader_take_1_any x W).mono fun e w' ⟨he, hE⟩ => ⟨he, hE.below⟩))).mono
    fun e w' ⟨he, hb⟩ => ⟨by rw [he, idxFunc_all], .of hb⟩

/-- What the reader's number answers. -/
def NumIs (w : World) (n : Int) (x : Option Nat) (e : Ending) (w' : World) : Prop :=
  w.Exts w' ∧ match x with
    | some m => e = .returned (.int .i64 (m : Int))
    | none => e = .panicked [{ v := wrongV n 111, recovered := false }]
theorem NumIs.some {w w' : World} {n : Int} {x : Option Nat} {m : Nat} (h : x = some m) (hE : w.Exts w') : NumIs w n x (.returned (.int .i64 (m : Int))) w' := by
  subst h
  exact ⟨hE, rfl⟩
theorem NumIs.none {w w' : World} {n : Int} {x : Option Nat} (h : x = none) (hE : w.Exts w') : NumIs w n x (.panicked [{ v := wrongV n 111, recovered := false }]) w' := by
  subst h
  exact ⟨hE, rfl⟩

/-- What is known of the calls of the region. -/
def numKv (p s q : Value) (c : Nat) : Option Value := if c = 1 then some p else if c = 7 then some s else if c = 14 then some q else none
def NumPhi (kv : Nat → Option Value) (z : Int) (c : Nat) (v : Value) (W : World) : Prop :=
  (∀ u, kv c = some u → v = u) ∧ (c = 13 → IsRow (fun x : Int => [.int .i64 x]) 1 W v [z])
theorem NumPhi.mono {kv : Nat → Option Value} {z : Int} {c : Nat} {v : Value} {W W' : World} (h : NumPhi kv z c v W) (hE : W.Exts W') : NumPhi kv z c v W' :=
  ⟨h.1, fun e => (h.2 e).mono hE⟩

set_option maxRecDepth 4000 in
set_option maxHeartbeats 4000000 in
theorem reader_number_any (br : Nat) (n : Int) (s : ByteArray) (w : World) (hw : LibAt w) (hs : s.size ≤ 2000) (hc : w.cell? ⟨br, 0, none⟩ = some (.int .i64 n)) :
    Calls Tryz.prog 79 #[.pointer (some ⟨br, 0, none⟩), .string s] w (NumIs w n (numOf s.data.toList)) := by
  obtain ⟨x, hx⟩ : ∃ x, numOf s.data.toList = x := ⟨_, rfl⟩
  rw [hx]
  have lb := Lays.of_cell hc
  have hno := fun (W : World) (hE : w.Exts W) => place_must_no br n 111 W (hE.cell hc)
  have HNO := Lib.hid hno
  clear hno
  by_cases hok : ∃ v, Lib.atoiAll s.data.toList = .ok v
  rotate_left
  · have hat : ∀ W : World, w.Exts W → Calls Tryz.prog 117 #[.string s] W fun e w' => ∃ (v : Int) (t : TypeId) (u : Value), e = .returned (.tuple #[.int .i64 v, .iface t u]) ∧ W.Exts w' := fun W hE => (Atoi_any s (by omega) W (hw.mono hE)).mono fun e w' ⟨h1, h2⟩ => by
      rcases h2 with ⟨v, h3, _⟩ | ⟨_, v, t, u, h3⟩
      · exact absurd ⟨v, h3⟩ hok
      · exact ⟨v, t, u, h3, h1⟩
    have hnone : x = none := by
      cases x with
      | none => rfl
      | some m => exact absurd ⟨_, (numOf_of hx).1⟩ hok
    have HAT := Lib.hid hat
    clear hat
    have HNONE := Lib.hid hnone
    clear hnone
    clear hok hx hw
    go_enter Tryz.func79, Tryz.ntmps79
    go_wp2_with (go_at_call 117; refine (HAT.out _ exq).mono ?_; rintro e w' ⟨v, t, u, rfl, X2, rfl⟩)
    refine wp_region_ext_tail 16 (by kernel_rfl) (by kernel_rfl) ?_
    simp only [List.take_succ_cons, List.take_zero, List.drop_succ_cons, List.drop_zero]
    repeat (go_big_quiet_step (fail))
    refine wpQuiet_nil ?_
    rintro _ ⟨X, rfl⟩
    go_wp2_with (go_at_call 36; refine (HNO.out _ exq).mono ?_; rintro e w' ⟨rfl, X3, rfl⟩)
    exact ⟨rfl, NumIs.none HNONE.out exq⟩
  obtain ⟨v, hv⟩ := hok
  have hvb := Lib.atoiAll_bounds hv
  have hat : ∀ W : World, w.Exts W → Calls Tryz.prog 117 #[.string s] W fun e w' => e = .returned (.tuple #[.int .i64 v, .nilIface]) ∧ W.Exts w' := fun W hE => (Atoi_any s (by omega) W (hw.mono hE)).mono fun e w' ⟨h1, h2⟩ => by
    rcases h2 with ⟨v', h3, h4⟩ | ⟨h3, _⟩
    · rw [hv] at h3
      cases h3
      exact ⟨h4, h1⟩
    · exact absurd hv (h3 v)
  obtain ⟨tb, htb, hit⟩ : ∃ tb : ByteArray, tb.data.toList = Lib.itoa v ∧ ∀ W : World, w.Exts W → Calls Tryz.prog 31 #[.int .i64 v] W fun e w' => e = .returned (.string tb) ∧ W.Exts w' := by
    refine ⟨⟨(Lib.itoa v).toArray⟩, rfl, fun W hE => (Itoa_any v hvb.1 hvb.2 W (hw.mono hE)).mono ?_⟩
    rintro e w' ⟨r, rfl, hr, hE⟩
    obtain rfl : r = ⟨(Lib.itoa v).toArray⟩ := tx_inj hr
    exact ⟨rfl, hE⟩
  have HAT := Lib.hid hat
  clear hat
  have HIT := Lib.hid hit
  clear hit
  by_cases heq : tb = s
  rotate_left
  · have hne : (tb.toList == s.toList) = false := by
      rw [beq_eq_false_iff_ne, Lib.toList_data, Lib.toList_data]
      exact fun e => heq (tx_inj e)
    have hnone : x = none := by
      cases x with
      | none => rfl
      | some m =>
        obtain ⟨h1, h2, _⟩ := numOf_of hx
        rw [hv] at h1
        cases h1
        exact absurd (tx_inj (htb.trans h2)) heq
    have HNONE := Lib.hid hnone
    clear hnone
    clear hx hw heq hv hvb htb
    go_enter Tryz.func79, Tryz.ntmps79
    go_wp2_with (go_at_call 117; refine (HAT.out _ exq).mono ?_; rintro e w' ⟨rfl, X2, rfl⟩)
    refine wp_region_ext_tail 16 (by kernel_rfl) (by kernel_rfl) ?_
    simp only [List.take_succ_cons, List.take_zero, List.drop_succ_cons, List.drop_zero]
    repeat (go_big_quiet_step ((go_at_call 31; exact Calls.in_ext (HIT.out _ exq))))
    refine wpQuiet_nil ?_
    rintro _ ⟨X, rfl⟩
    go_wp2_with (go_at_call 36; refine (HNO.out _ exq).mono ?_; rintro e w' ⟨rfl, X3, rfl⟩)
    exact ⟨rfl, NumIs.none HNONE.out exq⟩
  have hb : inAll 0 86400000 [v] = inb 0 86400000 v := by simp [inAll]
  have hsome : inb 0 86400000 v = true → x = some v.toNat ∧ ((v.toNat : Nat) : Int) = v := fun h => ⟨by rw [← hx]; exact numOf_ok hv (by rw [← htb, heq]) h, Int.toNat_of_nonneg (by unfold inb at h; simp at h; omega)⟩
  have hnone : inb 0 86400000 v = false → x = none := fun h => by
    cases x with
    | none => rfl
    | some m =>
      obtain ⟨h1, _, h3⟩ := numOf_of hx
      rw [hv] at h1
      cases h1
      rw [h] at h3
      cases h3
  clear hx hw hv hvb htb
  subst heq
  obtain ⟨q, hq⟩ : ∃ q, inb 0 86400000 v = q := ⟨_, rfl⟩
  rw [hq] at hb hsome hnone
  have HB := Lib.hid hb
  clear hb
  have HSOME := Lib.hid hsome
  clear hsome
  have HNONE := Lib.hid hnone
  clear hnone
  clear hq
  go_enter Tryz.func79, Tryz.ntmps79
  go_wp2_with (go_at_call 117; refine (HAT.out _ exq).mono ?_; rintro e w' ⟨rfl, X2, rfl⟩)
  refine wp_region_callsS 16 (fun i => i == 1 || i == 7 || i == 13 || i == 14) (fun c u W => NumPhi (numKv (.pointer (some ⟨br, 0, none⟩)) (.string tb) (.bool q)) v c u W) (fun c => numKv (.pointer (some ⟨br, 0, none⟩)) (.string tb) (.bool q) c) (by kernel_rfl) (fun ν => by kernel_rfl) (by kernel_rfl) (by kernel_rfl) (by kernel_rfl) (by kernel_rfl) (by kernel_rfl) ?mono ?known ?_
  rotate_left 2
  apply Exists.intro
  refine ⟨fun ν hkn => ?want, fun ν hkn L hL => ?walk, fun c oc hc hU ν hkn hwt W hE hΦ => ?calls, fun ν hkn W hE hΦ => ?tail⟩
  case walk =>
    repeat (first
      | (refine modTo_free rfl ?_; go_big_quiet_step (fail))
      | (refine modTo_call rfl (hkn _ _ rfl) ?_; go_big_quiet_step (fail))
      | (refine modTo_call rfl rfl ?_; go_big_quiet_step (fail)))
    refine modTo_end ?_
    exact hL
  case mono => exact fun c v W W' h hE => h.mono hE
  case known => exact fun c v W u h hk => h.1 u hk
  case want =>
    intro i oi hi hU
    simp at hU
    rcases hU with ((rfl | rfl) | rfl) | rfl
    all_goals
      simp only [List.getElem?_cons_succ, List.getElem?_cons_zero, Option.some.injEq] at hi
      subst hi
      exact .inl rfl
  case calls =>
    have hwW : w.Exts W := World.Exts.trans exq hE
    simp at hU
    rcases hU with ((rfl | rfl) | rfl) | rfl
    · simp only [List.getElem?_cons_succ, List.getElem?_cons_zero, Option.some.injEq] at hc
      subst hc
      exact .inr ⟨.pointer (some ⟨br, 0, none⟩), W, by kernel_rfl, World.Exts.refl _, ⟨fun u h => (by cases h; rfl), fun e => (by cases e)⟩⟩
    · simp only [List.getElem?_cons_succ, List.getElem?_cons_zero, Option.some.injEq] at hc
      subst hc
      refine Oper.gives_fn rfl rfl rfl (enters_of Tryz.func31 (by kernel_rfl) rfl) ?_ rfl
      refine (HIT.out W hwW).mono ?_
      rintro e W' ⟨rfl, h3⟩
      exact ⟨_, rfl, h3, ⟨fun u hu => (by cases hu; rfl), fun e => (by cases e)⟩⟩
    · simp only [List.getElem?_cons_succ, List.getElem?_cons_zero, Option.some.injEq] at hc
      subst hc
      exact .inr ⟨.slice (some ⟨W.heap.size, 0, none⟩) 1 1, W.alloc (.cells #[.int .i64 v] 3), by kernel_rfl, exq, ⟨fun u h => (by cases h), fun _ => (row_lit (enc := fun x : Int => [.int .i64 x]) (k := 1) W #[.int .i64 v] 3 [v] _ 1 rfl rfl rfl (fun _ _ => rfl) (by simp)).2⟩⟩
    · simp only [List.getElem?_cons_succ, List.getElem?_cons_zero, Option.some.injEq] at hc
      subst hc
      have hrw := (hΦ 13 rfl ⟨⟨13, .data⟩, by simp, rfl, rfl⟩).2 rfl
      refine Oper.gives_fn (xs := [.const (.int .i64 0), .const (.int .i64 86400000), .tmp 25]) rfl rfl rfl (enters_of Tryz.func56 (by kernel_rfl) rfl) ?_ rfl
      refine (sheet_in_any 0 86400000 (ν 13) [v] W hrw).mono ?_
      rintro e W' ⟨rfl, h3⟩
      exact ⟨_, rfl, h3, ⟨fun u hu => (by cases hu; rw [HB.out]), fun e => (by cases e)⟩⟩
  case tail =>
    have hwW : w.Exts W := World.Exts.trans exq hE
    simp only [List.drop_succ_cons, List.drop_zero]
    clear hΦ hkn
    cases q
    · have hn := HNONE.out rfl
      have HN := Lib.hid hn
      clear hn
      go_wp2_with (go_at_call 36; refine (HNO.out _ hwW).mono ?_; rintro e w' ⟨rfl, X3, rfl⟩)
      exact ⟨rfl, NumIs.none HN.out (hwW.trans ⟨X3, rfl⟩)⟩
    · obtain ⟨hn, hm⟩ := HSOME.out rfl
      have HN := Lib.hid hn
      clear hn
      have HM := Lib.hid hm
      clear hm
      go_wp2_with (go_at_call 36; refine (place_must_ok _ _ _).mono ?_; rintro e w' ⟨rfl, X3, rfl⟩)
      go_ret
      exact HM.out ▸ NumIs.some HN.out (hwW.trans ⟨X3, rfl⟩)
end Go.Proofs.YtcickafaomfbmaaGreatDoor
