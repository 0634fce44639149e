/-
  Several texts in one: see the heads of its parts.
-/
import Derived.Test.YtiidkbjckbkjgaaGreatDoorVdT
import Derived.Test.YtiidkbjckbkjgaaGreatDoorVeX
import Derived.Test.YtiidkbjckbkjgaaGreatDoorSa
import Derived.Test.YtiidkbjckbkjgaaGreatDoorBt
import Derived.Test.YtiidkbjckbkjgaaGreatDoorVaC

/-
  Walks of the reference of sheets: great sheets, the kind of a word, the parts of a line.
-/
namespace Kr
set_option linter.unusedVariables false
/-- Whether a sheet is great. -/
def greatS (l : List (List Int)) : Bool := decide (150 < l.length) || l.any fun x => decide (10 < x.length)
theorem greatS_false {l : List (List Int)} (h : greatS l = false) : l.length ≤ 150 ∧ ∀ x ∈ l, x.length ≤ 10 := by
  unfold greatS at h
  simp only [Bool.or_eq_false_iff, decide_eq_false_iff_not, List.any_eq_false, decide_eq_true_eq] at h
  exact ⟨by omega, fun x hx => by have := h.2 x hx; omega⟩
end Kr
namespace Go.Proofs.YtiidkbjckbkjgaaGreatDoor
open Go.RowKit Kr
set_option linter.unusedSimpArgs false
set_option linter.unusedVariables false

set_option maxHeartbeats 2000000 in
theorem r11_Great_any (kd : Int) (ps : List (List Int × Value)) (v : Value) (w : World) (h : ListsAt w v ps) :
    Calls Tryz.prog 5 #[.agg #[.int .u8 kd, v]] w fun e w' => e = .returned (.bool (greatS (ps.map Prod.fst))) ∧ w.Exts w' := by
  obtain ⟨q, cap, hv⟩ := h.row.len
  subst hv
  rcases Nat.lt_or_ge 150 ps.length with h1 | h1
  · have hg : greatS (ps.map Prod.fst) = true := by unfold greatS; rw [List.length_map, decide_eq_true h1]; rfl
    have h1i : (150 : Int) < (ps.length : Int) := by omega
    rw [hg]
    clear h hg
    go_enter Tryz.func5, Tryz.ntmps5
    go_wp2_with fail
    go_ret
    exact ⟨rfl, exq⟩
  have h1i : ¬ (150 : Int) < (ps.length : Int) := by omega
  have hg : greatS (ps.map Prod.fst) = (ps.map Prod.fst).any fun x => decide (10 < x.length) := by unfold greatS; rw [List.length_map, decide_eq_false (by omega)]; rfl
  rw [hg]
  have hrow : ∀ k, k < ps.length → ∃ b o, q = some ⟨b, o, none⟩ ∧ ∃ x p cx, (ps.map Prod.fst)[k]? = some x ∧ w.cell? ⟨b, o + k, none⟩ = some (.slice p x.length cx) := fun k hk => by
    obtain ⟨b, o, c, e⟩ := lists_base h (by omega)
    cases e
    obtain ⟨p, b', o', cap', e, hm, hp, hc⟩ := h.row.ex
    cases e
    obtain ⟨e, _⟩ := hp (by omega)
    cases e
    obtain ⟨⟨x, xv⟩, hx⟩ := some_of_lt hk
    obtain ⟨qx, cx, hxv⟩ := (h.mem _ (List.mem_of_getElem? hx)).len
    have hd := hc k _ hx 0 _ rfl
    dsimp only at hxv
    subst hxv
    exact ⟨b, o, rfl, x, qx, cx, by rw [List.getElem?_map, hx]; rfl, by simpa using hd⟩
  obtain ⟨L, hL⟩ : ∃ l, ps.map Prod.fst = l := ⟨_, rfl⟩
  have hLn : L.length = ps.length := by rw [← hL, List.length_map]
  rw [hL]
  rw [hL] at hrow
  have HROW := Lib.hid hrow
  clear hrow
  have HLN := Lib.hid hLn
  clear hLn
  clear h hg hL
  go_enter Tryz.func5, Tryz.ntmps5
  go_wp2_with fail
  go_loopw [3] (fun i wr => ∃ k : Nat, k ≤ ps.length ∧ i = .int .i64 k ∧ Hid (∀ (j : Nat) x, j < k → L[j]? = some x → x.length ≤ 10) ∧ (w.alloc (.cells #[.int .u8 kd, .slice q ps.length cap] 24)).Exts wr) (fun i _ => ps.length - (intOf i).toNat)
  case atStart => exact ⟨0, by omega, rfl, Lib.hid fun j x hj => absurd hj (Nat.not_lt_zero _), exq⟩
  case round =>
    obtain ⟨k, hk, rfl, hrk, X3, rfl⟩ := hrel
    rcases Nat.lt_or_ge k ps.length with hlt | hge
    · obtain ⟨b, o, rfl, x, p, cx, hx, e⟩ := HROW.out k hlt
      have lb := Lays.of_cell e
      have w1 : (k : Int) < (ps.length : Int) := by omega
      obtain ⟨nx, hnx⟩ : ∃ m, x.length = m := ⟨_, rfl⟩
      rw [hnx] at e
      have HX := Lib.hid hx
      clear hx
      have HNX := Lib.hid hnx
      clear hnx
      rcases Nat.lt_or_ge 10 nx with hne | hne
      · have hf : (L.any fun x => decide (10 < x.length)) = true := List.any_eq_true.2 ⟨x, List.mem_of_getElem? HX.out, by rw [HNX.out]; simpa using hne⟩
        have hni : (10 : Int) < (nx : Int) := by omega
        have HF := Lib.hid hf
        clear hf
        clear hrk hne
        go_wp2_with fail
        go_ret
        exact ⟨by rw [HF.out]; rfl, exq⟩
      · have hok : ∀ (j : Nat) (z : List Int), j < k + 1 → L[j]? = some z → z.length ≤ 10 := fun j z hj hz => by
          rcases Nat.lt_or_ge j k with h | h
          · exact hrk.out j z h hz
          · have : j = k := by omega
            subst this
            rw [HX.out] at hz
            cases hz
            rw [HNX.out]
            exact hne
        have hni : ¬ (10 : Int) < (nx : Int) := by omega
        have HOK := Lib.hid hok
        clear hok
        clear hrk hne
        go_wp2_with fail
        go_roundw
        case rel => exact ⟨k + 1, by omega, by go_num, HOK, exq⟩
        case measure => simp [intOf]; omega
    · have hf : (L.any fun x => decide (10 < x.length)) = false := by
        rw [List.any_eq_false]
        intro x hx
        obtain ⟨j, hj⟩ := List.mem_iff_getElem?.1 hx
        have h2 := hrk.out j x (by have := (List.getElem?_eq_some_iff.1 hj).1; have := HLN.out; omega) hj
        simpa using h2
      have hnl : ¬ k < ps.length := by omega
      have HF := Lib.hid hf
      clear hf
      clear hrk
      go_wp2_with fail
      go_ret
      exact ⟨by rw [HF.out]; rfl, exq⟩

/-- The words of kinds, as they are laid. -/
structure WordsAt (w : World) : Prop where
  c0 : w.cell? ⟨1, 0, none⟩ = some (.string ⟨#[]⟩)
  c1 : w.cell? ⟨1, 1, none⟩ = some (.string ⟨#[114, 105, 100, 101]⟩)
  c2 : w.cell? ⟨1, 2, none⟩ = some (.string ⟨#[115, 116, 97, 114, 116]⟩)
  c3 : w.cell? ⟨1, 3, none⟩ = some (.string ⟨#[105, 99, 101]⟩)
  c4 : w.cell? ⟨1, 4, none⟩ = some (.string ⟨#[106, 117, 100, 103, 101]⟩)
theorem WordsAt.mono {w w' : World} (h : WordsAt w) (hE : w.Exts w') : WordsAt w' := ⟨hE.cell h.c0, hE.cell h.c1, hE.cell h.c2, hE.cell h.c3, hE.cell h.c4⟩
/-- The word of a kind as a string. -/
def wordB (kd : Int) : ByteArray := ⟨(wordOf kd).toArray⟩
theorem WordsAt.at {w : World} (h : WordsAt w) (k : Nat) (hk : k < 5) : w.cell? ⟨1, k, none⟩ = some (.string (wordB k)) := by
  obtain rfl | rfl | rfl | rfl | rfl : k = 0 ∨ k = 1 ∨ k = 2 ∨ k = 3 ∨ k = 4 := by omega
  · exact h.c0
  · exact h.c1
  · exact h.c2
  · exact h.c3
  · exact h.c4
theorem word_eq (k : Nat) (s : ByteArray) : ((wordB k).toList == s.toList) = decide (s.data.toList = wordOf k) := by
  rw [Lib.toList_data, Lib.toList_data, Bool.eq_iff_iff, beq_iff_eq, decide_eq_true_eq]
  exact eq_comm
theorem kindOf_first {b : List UInt8} {k : Nat} (hk : 1 ≤ k ∧ k < 5) (h : b = wordOf (k : Int)) : kindOf b = k := by
  subst h
  obtain rfl | rfl | rfl | rfl : k = 1 ∨ k = 2 ∨ k = 3 ∨ k = 4 := by omega
  all_goals rfl
theorem kindOf_none {b : List UInt8} (h : ∀ k : Nat, 1 ≤ k → k < 5 → b ≠ wordOf (k : Int)) : kindOf b = 0 := by
  unfold kindOf
  rw [if_neg (show ¬ b = wordOf 1 from h 1 (by decide) (by decide)), if_neg (show ¬ b = wordOf 2 from h 2 (by decide) (by decide)), if_neg (show ¬ b = wordOf 3 from h 3 (by decide) (by decide)), if_neg (show ¬ b = wordOf 4 from h 4 (by decide) (by decide))]

set_option maxHeartbeats 2000000 in
theorem r11_kind_any (s : ByteArray) (w : World) (hw : WordsAt w) :
    Calls Tryz.prog 40 #[.string s] w fun e w' => e = .returned (.int .u8 (kindOf s.data.toList)) ∧ w.Exts w' := by
  have hwa := fun (k : Nat) (hk : k < 5) => hw.at k hk
  have lg := Lays.of_cell hw.c0
  have HWA := Lib.hid hwa
  clear hwa
  clear hw
  go_enter Tryz.func40, Tryz.ntmps40
  go_wp2_with fail
  go_loopw [3] (fun i wr => ∃ k : Nat, 1 ≤ k ∧ k ≤ 5 ∧ i = .int .i64 k ∧ Hid (∀ j : Nat, 1 ≤ j → j < k → s.data.toList ≠ wordOf (j : Int)) ∧ w.Exts wr) (fun i _ => 5 - (intOf i).toNat)
  case atStart => exact ⟨1, by omega, by omega, rfl, Lib.hid fun j h1 h2 => by omega, exq⟩
  case round =>
    obtain ⟨k, hk1, hk, rfl, hrk, X3, rfl⟩ := hrel
    rcases Nat.lt_or_ge k 5 with hlt | hge
    · have e := HWA.out k hlt
      have heq := word_eq k s
      have hfst := fun h => kindOf_first (b := s.data.toList) ⟨hk1, hlt⟩ h
      generalize wordB (k : Int) = u at e heq
      have w1 : (k : Int) < 5 := by omega
      by_cases hs : s.data.toList = wordOf (k : Int)
      · rw [decide_eq_true hs] at heq
        have hv := hfst hs
        have HV := Lib.hid hv
        clear hv
        clear hs hfst hrk
        go_wp2_with fail
        go_ret
        exact ⟨by rw [HV.out]; first | rfl | (simp; omega), exq⟩
      · rw [decide_eq_false hs] at heq
        have hok : ∀ j : Nat, 1 ≤ j → j < k + 1 → s.data.toList ≠ wordOf (j : Int) := fun j h1 h2 => by
          rcases Nat.lt_or_ge j k with h | h
          · exact hrk.out j h1 h
          · have : j = k := by omega
            subst this
            exact hs
        have HOK := Lib.hid hok
        clear hok
        clear hs hfst hrk
        go_wp2_with fail
        go_roundw
        case rel => exact ⟨k + 1, by omega, by omega, by go_num, HOK, exq⟩
        case measure => simp [intOf]; omega
    · have hv := kindOf_none (b := s.data.toList) fun j h1 h2 => hrk.out j h1 (by omega)
      obtain rfl : k = 5 := by omega
      have HV := Lib.hid hv
      clear hv
      clear hrk
      go_wp2_with fail
      go_ret
      exact ⟨by rw [HV.out]; rfl, exq⟩
end Go.Proofs.YtiidkbjckbkjgaaGreatDoor

/-
  Walks of the reference of sheets: the parts of a line.
-/
namespace Kr
set_option linter.unusedVariables false
theorem formB_short {l : List UInt8} (h : l.length < 4) : formB l = false := by unfold formB; rw [decide_eq_false (by omega)]; rfl
theorem formB_is {l : List UInt8} {m : Nat} {y0 y1 y2 y3 : UInt8} (h : l.length = m + 4) (h0 : l[m]? = some y0) (h1 : l[m + 1]? = some y1) (h2 : l[m + 2]? = some y2) (h3 : l[m + 3]? = some y3) : formB l = (decide (y0 = 32) && (digitB y1 && (digitB y2 && digitB y3))) := by
  unfold formB
  rw [decide_eq_true (by omega), Bool.true_and, h, show m + 4 - 4 = m by omega, show m + 4 - 3 = m + 1 by omega, List.getD_eq_getElem?_getD, h0]
  have hd : l.drop (m + 1) = [y1, y2, y3] := by
    obtain ⟨e1, rfl⟩ := List.getElem?_eq_some_iff.1 h1
    obtain ⟨e2, rfl⟩ := List.getElem?_eq_some_iff.1 h2
    obtain ⟨e3, rfl⟩ := List.getElem?_eq_some_iff.1 h3
    rw [List.drop_eq_getElem_cons e1, List.drop_eq_getElem_cons e2, List.drop_eq_getElem_cons e3, List.drop_eq_nil_of_le (by omega)]
  rw [hd]
  simp
end Kr
namespace Go.Proofs.YtiidkbjckbkjgaaGreatDoor
open Go.RowKit Kr
set_option linter.unusedSimpArgs false
set_option linter.unusedVariables false

set_option maxHeartbeats 2000000 in
theorem r11_parted_any (s : ByteArray) (w : World) (hs : s.size ≤ 100000) :
    Calls Tryz.prog 39 #[.string s] w fun e w' => ∃ a b, e = .returned (.tuple #[.string a, .string b, .bool (formB s.data.toList)]) ∧ (formB s.data.toList = true → a.data.toList = bodyOf s.data.toList ∧ b.data.toList = s.data.toList.drop (s.size - 3)) ∧ w.Exts w' := by
  rcases Nat.lt_or_ge s.size 4 with h4 | h4
  · have hf := formB_short (l := s.data.toList) (by rw [tx_len]; exact h4)
    rw [hf]
    have h4i : (s.size : Int) - 4 < 0 := by omega
    clear hf
    go_enter Tryz.func39, Tryz.ntmps39
    go_wp2_with fail
    refine bodyPost_ret (v := .tuple #[.string ⟨#[]⟩, .string ⟨#[]⟩, .bool false]) (by simp [results, Tryz.results39, go_sem]) rfl ?_
    exact ⟨_, _, rfl, fun h => (by cases h), exq⟩
  · obtain ⟨m, hm⟩ : ∃ m, s.size = m + 4 := ⟨s.size - 4, by omega⟩
    have g0 := tx_get (s := s) (k := m) (by omega)
    have g1 := tx_get (s := s) (k := m + 1) (by omega)
    have g2 := tx_get (s := s) (k := m + 2) (by omega)
    have g3 := tx_get (s := s) (k := m + 3) (by omega)
    have hb0 : s[m]'(by omega) = s[m]'(by omega) := rfl
    obtain ⟨y0, e0⟩ : ∃ y, s[m]'(by omega) = y := ⟨_, rfl⟩
    obtain ⟨y1, e1⟩ : ∃ y, s[m + 1]'(by omega) = y := ⟨_, rfl⟩
    obtain ⟨y2, e2⟩ : ∃ y, s[m + 2]'(by omega) = y := ⟨_, rfl⟩
    obtain ⟨y3, e3⟩ : ∃ y, s[m + 3]'(by omega) = y := ⟨_, rfl⟩
    rw [e0] at g0
    rw [e1] at g1
    rw [e2] at g2
    rw [e3] at g3
    have hf := formB_is (by rw [tx_len]; exact hm) g0 g1 g2 g3
    rw [hf, hm, show m + 4 - 3 = m + 1 by omega]
    have hbod : bodyOf s.data.toList = s.data.toList.take m := by unfold bodyOf; rw [tx_len, hm]; rfl
    have hk : decide (y0 = 32) = (((y0.toNat : Nat) : Int) == 32) := by
      rw [Bool.eq_iff_iff, decide_eq_true_eq, beq_iff_eq]
      constructor
      · rintro rfl; rfl
      · intro h
        have h2 : y0.toNat = (32 : UInt8).toNat := by have : (32 : UInt8).toNat = 32 := rfl; omega
        exact UInt8.toNat.inj h2
    rw [hk, hbod]
    have hx1 : (s.extract 0 m).data.toList = s.data.toList.take m := by rw [Lib.extract_data]; simp
    have hx2 : (s.extract (m + 1) (m + 4)).data.toList = s.data.toList.drop (m + 1) := by
      rw [Lib.extract_data]
      exact List.take_of_length_le (by rw [List.length_drop, tx_len]; omega)
    have hdg := fun (y : UInt8) (W : World) => r11_digit_any y W
    have HX1 := Lib.hid hx1
    clear hx1
    have HX2 := Lib.hid hx2
    clear hx2
    have HDG := Lib.hid hdg
    clear hdg
    clear hf hk hbod g0 g1 g2 g3 h4 hb0
    cases hd0 : (((y0.toNat : Nat) : Int) == 32)
    · have hn0 : (((y0.toNat : Nat) : Int) != 32) = true := by rw [bne, hd0]; rfl
      have hn1 : ¬ ((y0.toNat : Nat) : Int) = 32 := by simpa using hd0
      go_enter Tryz.func39, Tryz.ntmps39
      go_wp2_with fail
      refine bodyPost_ret (v := .tuple #[.string ⟨#[]⟩, .string ⟨#[]⟩, .bool false]) (by simp [results, Tryz.results39, go_sem]) rfl ?_
      exact ⟨_, _, rfl, fun h => (by cases h), exq⟩
    have hn1 : ((y0.toNat : Nat) : Int) = 32 := by simpa using hd0
    cases hd1 : digitB y1
    · --[B
      go_enter Tryz.func39, Tryz.ntmps39
      go_wp2_with (go_at_call 76; refine (HDG.out _ _).mono ?_; rintro e w' ⟨rfl, X2, rfl⟩; rw [hd1])
      refine bodyPost_ret (v := .tuple #[.string ⟨#[]⟩, .string ⟨#[]⟩, .bool false]) (by simp [results, Tryz.results39, go_sem]) rfl ?_
      exact ⟨_, _, rfl, fun h => (by cases h), exq⟩
    cases hd2 : digitB y2
    · --[C
      go_enter Tryz.func39, Tryz.ntmps39
      go_wp2_with (go_at_call 76; refine (HDG.out _ _).mono ?_; rintro e w' ⟨rfl, X2, rfl⟩; first | rw [hd1] | rw [hd2])
      refine bodyPost_ret (v := .tuple #[.string ⟨#[]⟩, .string ⟨#[]⟩, .bool false]) (by simp [results, Tryz.results39, go_sem]) rfl ?_
      exact ⟨_, _, rfl, fun h => (by cases h), exq⟩
    cases hd3 : digitB y3
    · --[D
      go_enter Tryz.func39, Tryz.ntmps39
      go_wp2_with (go_at_call 76; refine (HDG.out _ _).mono ?_; rintro e w' ⟨rfl, X2, rfl⟩; first | rw [hd1] | rw [hd2] | rw [hd3])
      refine bodyPost_ret (v := .tuple #[.string ⟨#[]⟩, .string ⟨#[]⟩, .bool false]) (by simp [results, Tryz.results39, go_sem]) rfl ?_
      exact ⟨_, _, rfl, fun h => (by cases h), exq⟩
    go_enter Tryz.func39, Tryz.ntmps39
    go_wp2_with (go_at_call 76; refine (HDG.out _ _).mono ?_; rintro e w' ⟨rfl, X2, rfl⟩; first | rw [hd1] | rw [hd2] | rw [hd3])
    refine wp_region_ext (by kernel_rfl) (by kernel_rfl) ?_
    repeat (go_big_quiet_step (fail))
    refine wpQuiet_nil ?_
    rintro _ ⟨X, rfl⟩
    go_wp2_with fail
    refine bodyPost_ret (v := .tuple #[.string (s.extract 0 m), .string (s.extract (m + 1) (m + 4)), .bool true]) (by simp [results, Tryz.results39, go_sem]) rfl ?_
    exact ⟨_, _, rfl, fun _ => ⟨HX1.out, HX2.out⟩, exq⟩
end Go.Proofs.YtiidkbjckbkjgaaGreatDoor

/-
  Sheets as texts: what is read, line by line. Plain.
-/
namespace Kr
set_option linter.unusedVariables false
open Go

/-- What is read from line m on, with what was read ahead of it. -/
def readFrom (m : Nat) (st : RSt) (s : List UInt8) : (Int × List (List Int)) × Int × Int :=
  match readAll m st (cutLines s).1 with
  | .error (n, e) => ((0, []), n, e)
  | .ok st => if (cutLines s).2 ≠ [] ∨ st.ended = false then ((0, []), ((m + (cutLines s).1.length : Nat) : Int), 111)
    else if sheetB st.kd st.rows then ((st.kd, st.rows), 0, 0) else ((0, []), 0, 110)
theorem readR_long {t : List UInt8} (h : 1500 < t.length) : readR t = ((0, []), 0, 9) := by unfold readR; rw [if_pos h]
theorem readR_from {t : List UInt8} (h : ¬ 1500 < t.length) : readR t = readFrom 1 ⟨0, [], false⟩ (t.drop 0) := by
  unfold readR readFrom
  rw [if_neg h, List.drop_zero]
  cases readAll 1 ⟨0, [], false⟩ (cutLines t).1 with
  | error p => rfl
  | ok st =>
    dsimp only
    rw [Nat.add_comm 1]
    rfl
theorem rf_rest {m : Nat} {st : RSt} {s : List UInt8} (h0 : 0 < s.length) (h : (10 : UInt8) ∉ s) : readFrom m st s = ((0, []), (m : Int), 111) := by
  unfold readFrom
  rw [cut_miss (fun e => h (List.idxOf_lt_length_iff.1 e))]
  have : s ≠ [] := fun e => by subst e; simp at h0
  simp [readAll, this]
theorem rf_end {m : Nat} {st : RSt} : readFrom m st [] = if st.ended = false then ((0, []), (m : Int), 111) else if sheetB st.kd st.rows then ((st.kd, st.rows), 0, 0) else ((0, []), 0, 110) := by
  unfold readFrom
  simp [cutLines, readAll]
theorem rf_err {m : Nat} {st : RSt} {s : List UInt8} {i : Nat} {l : List UInt8} {e : Int} (h : s.idxOf 10 < s.length) (hl : s.take (s.idxOf 10) = l) (ht : takeL m st l = .error e) : readFrom m st s = ((0, []), (m : Int), e) := by
  unfold readFrom
  rw [cut_hit h, hl, readAll, ht]
theorem rf_ok {m : Nat} {st st' : RSt} {s : List UInt8} {l : List UInt8} (h : s.idxOf 10 < s.length) (hl : s.take (s.idxOf 10) = l) (ht : takeL m st l = .ok st') : readFrom m st s = readFrom (m + 1) st' (s.drop (s.idxOf 10 + 1)) := by
  unfold readFrom
  rw [cut_hit h, hl, readAll, ht]
  dsimp only
  cases readAll (m + 1) st' (cutLines (s.drop (s.idxOf 10 + 1))).1 with
  | error p => rfl
  | ok st =>
    dsimp only
    rw [List.length_cons, show m + 1 + (cutLines (s.drop (s.idxOf 10 + 1))).1.length = m + ((cutLines (s.drop (s.idxOf 10 + 1))).1.length + 1) by omega]

section
variable {m : Nat} {st : RSt} {l : List UInt8}
theorem take_ended (h : st.ended = true) : takeL m st l = .error 111 := by
  unfold takeL
  rw [h]
  rfl
theorem take_form (h : formB l = false) : takeL m st l = .error 111 := by
  unfold takeL
  rw [h]
  simp
theorem take_mid (he : st.ended = false) (h : formB l = true) (hm : midL m st (bodyOf l) = none) : takeL m st l = .error 111 := by
  unfold takeL
  rw [h, he, hm]
  rfl
theorem form_facts (h : formB l = true) : 4 ≤ l.length ∧ l[l.length - 4]? = some 32 := by
  unfold formB at h
  simp only [Bool.and_eq_true, decide_eq_true_eq] at h
  refine ⟨h.1, ?_⟩
  have h2 := h.2.1
  rw [List.getD_eq_getElem?_getD, List.getElem?_eq_getElem (by omega)] at h2
  rw [List.getElem?_eq_getElem (by omega)]
  exact congrArg some h2
/-- Whether the check number is right. -/
def sealB (m : Nat) (l : List UInt8) : Bool := decide (l.drop (l.length - 3) = three (sumT m (bodyOf l)))
theorem sealB_iff (h : formB l = true) : sealB m l = true ↔ sealT m (bodyOf l) = l := by
  obtain ⟨h4, h32⟩ := form_facts h
  obtain ⟨z, hz⟩ : ∃ z, l.length = z + 4 := ⟨l.length - 4, by omega⟩
  have h1 := seal_iff (n := m) hz
  unfold sealB bodyOf
  rw [hz] at h32 ⊢
  simp only [Nat.add_sub_cancel] at h32 ⊢
  rw [h1, decide_eq_true_eq, show z + 4 - 3 = z + 1 by omega]
  exact ⟨fun e => ⟨h32, e⟩, fun e => e.2⟩
theorem take_seal {s : RSt} (he : st.ended = false) (h : formB l = true) (hm : midL m st (bodyOf l) = some s) (hs : sealB m l = false) : takeL m st l = .error 112 := by
  unfold takeL
  rw [h, he, hm]
  have : ¬ sealT m (bodyOf l) = l := fun e => by rw [(sealB_iff h).2 e] at hs; cases hs
  simp [this]
theorem take_ok {s : RSt} (he : st.ended = false) (h : formB l = true) (hm : midL m st (bodyOf l) = some s) (hs : sealB m l = true) : takeL m st l = .ok s := by
  unfold takeL
  rw [h, he, hm]
  simp [(sealB_iff h).1 hs]
theorem mid_kind {b : List UInt8} : midL 1 st b = if kindOf b = 0 then none else some { st with kd := kindOf b } := by
  unfold midL
  rw [if_pos rfl]
theorem mid_end {b : List UInt8} (h1 : m ≠ 1) (h : b.take 4 = endW) (h4 : 4 ≤ b.length) : midL m st b = if b = endW ++ Lib.itoa st.rows.length then some { st with ended := true } else none := by
  have hp : endW.isPrefixOf b = true := by
    rw [List.isPrefixOf_iff_prefix]
    exact ⟨b.drop 4, by rw [← h, List.take_append_drop]⟩
  unfold midL
  rw [if_neg h1, if_pos hp]
  have he : b.drop 4 = Lib.itoa st.rows.length ↔ b = endW ++ Lib.itoa st.rows.length := by
    constructor
    · intro e
      rw [← e, ← h, List.take_append_drop]
    · intro e
      rw [e]
      rfl
  by_cases e : b.drop 4 = Lib.itoa st.rows.length
  · rw [if_pos e, if_pos (he.1 e)]
  · rw [if_neg e, if_neg (fun x => e (he.2 x))]
theorem mid_row {b : List UInt8} (h1 : m ≠ 1) (h : ¬ (4 ≤ b.length ∧ b.take 4 = endW)) : midL m st b = match rowOf b with
    | none => none
    | some r => if st.rows.length < 100 then some { st with rows := st.rows ++ [r] } else none := by
  have hp : ¬ endW.isPrefixOf b = true := fun e => by
    rw [List.isPrefixOf_iff_prefix] at e
    obtain ⟨r, rfl⟩ := e
    exact h ⟨by rw [List.length_append]; have : endW.length = 4 := rfl; omega, rfl⟩
  unfold midL
  rw [if_neg h1, if_neg hp]
  cases rowOf b <;> rfl
end
end Kr

/-
  Walks of the reference of sheets: the lines of a sheet, their text, what is written.
-/
namespace Go.Proofs.YtiidkbjckbkjgaaGreatDoor
open Go.RowKit Kr
set_option linter.unusedSimpArgs false
set_option linter.unusedVariables false

theorem elem_str : ElemOf Tryz.prog 62 9 (.string ⟨#[]⟩) 1 16 := ⟨Tryz.underlying62, by kernel_rfl, rfl, by decide, by decide⟩
/-- Lines as strings, where they lie. -/
def StrsAt (w : World) (v : Value) (ls : List (List UInt8)) : Prop :=
  ∃ xs : List ByteArray, xs.map (·.data.toList) = ls ∧ IsRow (fun x : ByteArray => [.string x]) 1 w v xs
def LinesIs (w : World) (ls : List (List UInt8)) (e : Ending) (w' : World) : Prop := w.Exts w' ∧ ∃ v, e = .returned v ∧ StrsAt w' v ls

set_option maxRecDepth 4000 in
set_option maxHeartbeats 8000000 in
theorem r11_Lines_any (kd : Int) (ps : List (List Int × Value)) (v : Value) (w : World) (h : ListsAt w v ps) (hn : ps.length ≤ 1000) (hw : WordsAt w) (hk : inb 1 4 kd = true) (hnum : ∀ x ∈ ps.map Prod.fst, x.length ≤ 5 ∧ ∀ z ∈ x, 0 ≤ z ∧ z ≤ 86400000) :
    Calls Tryz.prog 32 #[.agg #[.int .u8 kd, v]] w (LinesIs w (linesOf kd (ps.map Prod.fst))) := by
  obtain ⟨q, cap, hv⟩ := h.row.len
  subst hv
  have hrow : ∀ k, k < ps.length → ∃ b o, q = some ⟨b, o, none⟩ ∧ ∃ x p cx, (ps.map Prod.fst)[k]? = some x ∧ w.cell? ⟨b, o + k, none⟩ = some (.slice p x.length cx) ∧ x.length ≤ 5 ∧ ∀ j, j < x.length → ∃ bx ox, p = some ⟨bx, ox, none⟩ ∧ w.cell? ⟨bx, ox + j, none⟩ = some (.int .i64 (nth x j)) ∧ 0 ≤ nth x j ∧ nth x j ≤ 86400000 := fun k hk => by
    obtain ⟨b, o, c, e⟩ := lists_base h (by omega)
    cases e
    obtain ⟨p, b', o', cap', e, hm, hp, hc⟩ := h.row.ex
    cases e
    obtain ⟨e, _⟩ := hp (by omega)
    cases e
    obtain ⟨⟨x, xv⟩, hx⟩ := some_of_lt hk
    have hr := h.mem _ (List.mem_of_getElem? hx)
    dsimp only at hr
    obtain ⟨qx, bx, ox, cx, hxv, hmx, hq, _⟩ := hr.ex
    have hd := hc k _ hx 0 _ rfl
    subst hxv
    have hmem : x ∈ ps.map Prod.fst := List.mem_map_of_mem (List.mem_of_getElem? hx)
    refine ⟨b, o, rfl, x, qx, cx, by rw [List.getElem?_map, hx]; rfl, by simpa using hd, (hnum x hmem).1, fun j hj => ?_⟩
    obtain ⟨rfl, _⟩ := hq (by omega)
    refine ⟨bx, ox, rfl, row_nth hr j hj, ?_⟩
    have := nth_get hj
    exact (hnum x hmem).2 _ (List.mem_of_getElem? this)
  obtain ⟨L, hL⟩ : ∃ l, ps.map Prod.fst = l := ⟨_, rfl⟩
  have hLn : L.length = ps.length := by rw [← hL, List.length_map]
  rw [hL]
  rw [hL] at hrow
  obtain ⟨kn, rfl⟩ : ∃ kn : Nat, kd = (kn : Int) := Int.eq_ofNat_of_zero_le (by unfold inb at hk; simp at hk; omega)
  have hk5 : kn < 5 := by unfold inb at hk; simp at hk; omega
  have c1 := hw.at kn hk5
  have hwd : (wordB (kn : Int)).data.toList = wordOf kn := rfl
  have lg := Lays.of_cell c1
  have k5 : (kn : Int) < 5 := by omega
  generalize wordB (kn : Int) = wb at c1 hwd
  have HROW := Lib.hid hrow
  clear hrow
  have HLN := Lib.hid hLn
  clear hLn
  have HWD := Lib.hid hwd
  clear hwd
  clear h hL hw hk
  go_enter Tryz.func32, Tryz.ntmps32
  go_wp2_with fail
  have hlit := World.ownsRow_lit (base := w.heap.size + 1) (e := 9) (size := 1) (w.alloc (.cells #[.int .u8 kn, .slice q ps.length cap] 24)) #[.string wb] 1 (by simp) (by decide) rfl
  have HLIT := Lib.hid hlit
  clear hlit
  go_loopw [3, 4, 5, 6] (fun o i _ _ wr => ∃ (k : Nat) (ys : List ByteArray) (v : Value), k ≤ ps.length ∧ i = .int .i64 k ∧ o = v ∧ Hid (ys.map (·.data.toList) = wordOf kn :: (L.take k).map rowText) ∧ Hid (wr.ownsRow (w.heap.size + 1) 9 1 v ys.length (ys.flatMap fun x => [.string x])) ∧ (w.alloc (.cells #[.int .u8 kn, .slice q ps.length cap] 24)).Exts wr) (fun _ i _ _ _ => ps.length - (intOf i).toNat)
  case atStart => exact ⟨0, [wb], _, by omega, rfl, rfl, Lib.hid (by rw [List.take_zero, List.map_cons, HWD.out]; rfl), Lib.hid (by simpa using HLIT.out), exq⟩
  case round =>
    obtain ⟨k, ys, v, hk, rfl, rfl, hys, hown, X3, rfl⟩ := hrel
    obtain ⟨qv, cv, hv⟩ := owns_len hown.out
    subst hv
    have hyl : ys.length = k + 1 := by
      have := congrArg List.length hys.out
      rw [List.length_map, List.length_cons, List.length_map, List.length_take, HLN.out] at this
      omega
    have HYL := Lib.hid hyl
    clear hyl
    rcases Nat.lt_or_ge k ps.length with hlt | hge
    · obtain ⟨b, o, rfl, x, p, cx, hx, e, hx5, hcs⟩ := HROW.out k hlt
      have lb := Lays.of_cell e
      have w1 : (k : Int) < (ps.length : Int) := by omega
      obtain ⟨nx, hnx⟩ : ∃ m, x.length = m := ⟨_, rfl⟩
      rw [hnx] at e hx5 hcs
      have HX := Lib.hid hx
      clear hx
      have HNX := Lib.hid hnx
      clear hnx
      have HCS := Lib.hid hcs
      clear hcs
      go_wp2_with fail
      go_loopw [5, 6] (fun a j wr => ∃ (m : Nat) (r : ByteArray), m ≤ nx ∧ j = .int .i64 m ∧ a = .string r ∧ Hid (r.data.toList = rowText (x.take m)) ∧ r.size ≤ 9 * m ∧ (World.ext _ X3).Exts wr) (fun _ j _ => nx - (intOf j).toNat)
      case atStart => exact ⟨0, ⟨#[]⟩, by omega, rfl, rfl, Lib.hid (by rw [List.take_zero]; rfl), by decide, exq⟩
      case round =>
        obtain ⟨m, r, hm, rfl, rfl, hr, hrs, X4, rfl⟩ := hrel
        rcases Nat.lt_or_ge m nx with hml | hml
        · obtain ⟨bx, ox, rfl, ec, hz0, hz9⟩ := HCS.out m hml
          have lx := Lays.of_cell ec
          have m1 : (m : Int) < (nx : Int) := by omega
          have htk : x.take (m + 1) = x.take m ++ [nth x m] := by rw [List.take_add_one, nth_get (by rw [HNX.out]; exact hml)]; rfl
          have hlen : (x.take m).length = m := by rw [List.length_take, HNX.out]; omega
          have hnu := fun W => r11_number_any (nth x m).toNat (by omega) W
          rw [Int.toNat_of_nonneg hz0] at hnu
          have hit := itoa_pos hz0
          have hif := itoa_few hz0 hz9
          rw [hit] at hif
          have hre : ∀ u : ByteArray, u.data.toList = Lib.decDigits (nth x m).toNat → (r ++ u).data.toList = rowText (x.take (m + 1)) ∨ 0 < m := fun u hu => by
            rcases Nat.eq_zero_or_pos m with h0 | h0
            · subst h0
              rw [tx_append, hr.out, hu, htk, ← hit]
              left
              rw [show x.take 0 = [] from rfl, List.nil_append, rowText_one]
              rfl
            · exact .inr h0
          have hre2 : ∀ u : ByteArray, u.data.toList = Lib.decDigits (nth x m).toNat → 0 < m → (r ++ (⟨#[44]⟩ : ByteArray) ++ u).data.toList = rowText (x.take (m + 1)) := fun u hu h0 => by
            rw [tx_append, tx_append, hr.out, hu, htk, ← hit, rowText_snoc _ _ (by rw [hlen]; exact h0)]
          have hus : ∀ u : ByteArray, u.data.toList = Lib.decDigits (nth x m).toNat → u.size ≤ 8 := fun u hu => by rw [← tx_len, hu]; exact hif
          generalize nth x m = z at ec hz0 hz9 hnu hre hre2 hus
          have HNUM := Lib.hid hnu
          clear hnu
          have HRE := Lib.hid hre
          clear hre
          have HRE2 := Lib.hid hre2
          clear hre2
          have HUS := Lib.hid hus
          clear hus
          clear hr htk hlen hit hif
          rcases Nat.eq_zero_or_pos m with h0 | h0
          · subst h0
            rw [Nat.add_zero] at ec
            go_wp2_with (go_at_call 41; refine (HNUM.out _).mono ?_; rintro e w' ⟨u, rfl, hu, X5, rfl⟩; have hu8 := HUS.out u hu; have HU := Lib.hid ((HRE.out u hu).resolve_right (by omega)); clear hu)
            go_roundw
            case rel => exact ⟨1, _, by omega, by first | rfl | go_num, rfl, HU, by rw [ByteArray.size_append]; omega, exq⟩
            case measure => simp [intOf]; omega
          · have h0i : (0 : Int) < (m : Int) := by omega
            go_wp2_with (go_at_call 41; refine (HNUM.out _).mono ?_; rintro e w' ⟨u, rfl, hu, X5, rfl⟩; have hu8 := HUS.out u hu; have HU := Lib.hid (HRE2.out u hu h0); clear hu)
            go_roundw
            case rel => exact ⟨m + 1, _, by omega, by go_num, rfl, HU, by rw [ByteArray.size_append, ByteArray.size_append, show (⟨#[44]⟩ : ByteArray).size = 1 from rfl]; omega, exq⟩
            case measure => simp [intOf]; omega
        · have hmm : m = nx := by omega
          subst hmm
          have hrx : r.data.toList = rowText x := by rw [hr.out, List.take_of_length_le (by rw [HNX.out]; omega)]
          have hnew : (ys ++ [r]).map (·.data.toList) = wordOf kn :: (L.take (k + 1)).map rowText := by
            rw [List.map_append, hys.out, List.take_add_one, HX.out]
            simp [hrx]
          have HNEW := Lib.hid hnew
          clear hnew
          clear hr hrx
          go_wp2_with (at_builtin; refine wpList_append1W (.tmp 44) (.tmp 46) elem_str rfl rfl rfl (ownsRow_exts hown.out exq) [.string r] _ (by simp) rfl rfl ?h1 ?h2 ?h4 ?h3 ?_)
          case h1 => intro u hu; simp at hu; subst hu; rfl
          case h2 => have := HYL.out; omega
          case h3 => exact Nat.le_trans (by simp) (World.Exts.size (a := w.alloc (.cells #[.int .u8 kn, .slice (some ⟨b, o, none⟩) ps.length cap] 24)) exq)
          case h4 => decide
          intro v' w' hown' happ
          have hE := happ.exts (w.alloc (.cells #[.int .u8 kn, .slice (some ⟨b, o, none⟩) ps.length cap] 24)) exq (by simp)
          have HO3 := Lib.hid hown'
          clear hown'
          have HE := Lib.hid hE
          clear hE
          clear happ
          go_wp2_with fail
          go_roundw
          case rel => exact ⟨k + 1, ys ++ [r], v', by omega, by go_num, rfl, HNEW, Lib.hid (by rw [List.length_append, List.flatMap_append]; exact HO3.out), HE.out⟩
          case measure => simp [intOf]; omega
    · have hkl : k = ps.length := by omega
      have w1 : ¬ (k : Int) < (ps.length : Int) := by omega
      have hnum2 := fun W => r11_number_any ps.length (by omega) W
      have hfin : ∀ u : ByteArray, u.data.toList = Lib.decDigits ps.length → (ys ++ [(⟨#[101, 110, 100, 32]⟩ : ByteArray) ++ u]).map (·.data.toList) = linesOf kn L := fun u hu => by
        rw [List.map_append, hys.out, List.take_of_length_le (by rw [HLN.out]; omega)]
        unfold linesOf
        rw [List.map_cons, List.map_nil, tx_append, hu, HLN.out, itoa_pos (by omega), Int.toNat_natCast]
        rfl
      have hd8 := digits_few 8 ps.length (by decide) (by omega)
      have HNUM := Lib.hid hnum2
      clear hnum2
      have HFIN := Lib.hid hfin
      clear hfin
      have HD8 := Lib.hid hd8
      clear hd8
      subst hkl
      go_wp2_with (first
        | (go_at_call 41; refine (HNUM.out _).mono ?_; rintro e w' ⟨u, rfl, hu, X5, rfl⟩; have hu8 : u.size ≤ 8 := (by rw [← tx_len, hu]; exact HD8.out); have HU := Lib.hid (HFIN.out u hu); clear hu)
        | (at_builtin; refine wpList_append1W (.tmp 48) (.tmp 54) elem_str rfl rfl rfl (ownsRow_exts hown.out exq) [.string _] _ (by simp) rfl rfl ?i1 ?i2 ?i4 ?i3 ?_))
      case i1 => intro u hu; simp at hu; subst hu; rfl
      case i2 => have := HYL.out; omega
      case i3 => exact Nat.le_trans (by simp) (World.Exts.size (a := w.alloc (.cells #[.int .u8 kn, .slice q ps.length cap] 24)) exq)
      case i4 => decide
      intro v' w' hown' happ
      have hE := happ.exts w exq (by simp)
      have hri := IsRow.of_owns (enc := fun x : ByteArray => [.string x]) (ys := ys ++ [(⟨#[101, 110, 100, 32]⟩ : ByteArray) ++ u]) (by rw [List.length_append, List.flatMap_append]; exact hown') (fun _ _ => rfl)
      have HRI := Lib.hid hri
      clear hri
      have HE := Lib.hid hE
      clear hE
      clear happ hown'
      go_wp2_with fail
      refine bodyPost_ret (v := v') (by simp [results, Tryz.results32, go_sem]) rfl ?_
      exact ⟨HE.out, v', rfl, _, HU.out, HRI.out⟩
end Go.Proofs.YtiidkbjckbkjgaaGreatDoor

/-
  Walks of the reference of sheets: a text, what is written, whether a sheet is valid.
-/
namespace Kr
set_option linter.unusedVariables false
open Go
theorem lens_few (l : List Int) (h : ∀ z ∈ l, 0 ≤ z ∧ z ≤ 86400000) : Lib.lens (l.map Lib.itoa) ≤ 8 * l.length := by
  induction l with
  | nil => simp [Lib.lens]
  | cons z l ih =>
    have h1 := itoa_few (h z (List.mem_cons_self ..)).1 (h z (List.mem_cons_self ..)).2
    have h2 := ih fun y hy => h y (List.mem_cons_of_mem _ hy)
    simp [Lib.lens] at h2 ⊢
    omega
theorem rowText_few {x : List Int} (h5 : x.length ≤ 5) (h : ∀ z ∈ x, 0 ≤ z ∧ z ≤ 86400000) : (rowText x).length ≤ 50 := by
  have h2 := lens_few x h
  unfold rowText
  cases x with
  | nil => simp [Lib.join_nil]
  | cons y r =>
    rw [List.map_cons, Lib.join_length, List.length_map]
    rw [List.map_cons, List.length_cons] at h2
    simp at h5 ⊢
    omega
theorem lines_few {kd : Int} {l : List (List Int)} (hl : l.length ≤ 1000) (hnum : ∀ x ∈ l, x.length ≤ 5 ∧ ∀ z ∈ x, 0 ≤ z ∧ z ≤ 86400000) : ∀ s ∈ linesOf kd l, s.length ≤ 50 := by
  intro s hs
  unfold linesOf at hs
  rcases List.mem_cons.1 hs with rfl | hs
  · unfold wordOf
    repeat' split
    all_goals decide
  · rcases List.mem_append.1 hs with hs | hs
    · obtain ⟨x, hx, rfl⟩ := List.mem_map.1 hs
      exact rowText_few (hnum x hx).1 (hnum x hx).2
    · obtain rfl := List.mem_singleton.1 hs
      have := itoa_few (z := (l.length : Int)) (by omega) (by omega)
      rw [List.length_append]
      have h4 : endW.length = 4 := rfl
      omega
theorem lines_len (kd : Int) (l : List (List Int)) : (linesOf kd l).length = l.length + 2 := by unfold linesOf; simp
end Kr
namespace Go.Proofs.YtiidkbjckbkjgaaGreatDoor
open Go.RowKit Kr
set_option linter.unusedSimpArgs false
set_option linter.unusedVariables false
def TextIs (w : World) (t : List UInt8) (e : Ending) (w' : World) : Prop := w.Exts w' ∧ ∃ r, e = .returned (.string r) ∧ r.data.toList = t
def WriteIs (w : World) (t : List UInt8 × Int) (e : Ending) (w' : World) : Prop := w.Exts w' ∧ ∃ r, e = .returned (.tuple #[.string r, .int .i64 t.2]) ∧ r.data.toList = t.1
theorem digits_is (k : Nat) (h : k < 257) : ∃ tb : ByteArray, tb.data.toList = three k ∧ tb.size = 3 ∧ ∀ W, Calls Tryz.prog 43 #[.int .i64 (k : Int)] W fun e w' => e = .returned (.string tb) ∧ W.Exts w' := by
  refine ⟨⟨(three k).toArray⟩, rfl, rfl, fun W => (r11_digits_any k h W).mono ?_⟩
  rintro e w' ⟨r, rfl, hr, hE⟩
  obtain rfl : r = ⟨(three k).toArray⟩ := tx_inj hr
  exact ⟨rfl, hE⟩

set_option maxRecDepth 4000 in
set_option maxHeartbeats 8000000 in
theorem r11_Text_any (xs : List ByteArray) (v : Value) (w : World) (h : IsRow (fun x : ByteArray => [.string x]) 1 w v xs) (hn : xs.length ≤ 990) (hxs : ∀ x ∈ xs, x.size ≤ 100) :
    Calls Tryz.prog 31 #[v] w (TextIs w (textFrom 1 (xs.map (·.data.toList)))) := by
  obtain ⟨q, cap, hv⟩ := h.len
  subst hv
  have hrow : ∀ k, k < xs.length → ∃ b o, q = some ⟨b, o, none⟩ ∧ ∃ x, xs[k]? = some x ∧ w.cell? ⟨b, o + k, none⟩ = some (.string x) ∧ x.size ≤ 100 := fun k hk => by
    obtain ⟨p, b, o, c, e, hm, hp, hc⟩ := h.ex
    cases e
    obtain ⟨rfl, _⟩ := hp (by omega)
    obtain ⟨x, hx⟩ := some_of_lt hk
    have hd := hc k _ hx 0 _ rfl
    exact ⟨b, o, rfl, x, hx, by simpa using hd, hxs _ (List.mem_of_getElem? hx)⟩
  have HROW := Lib.hid hrow
  clear hrow
  clear h
  go_enter Tryz.func31, Tryz.ntmps31
  go_wp2_with fail
  go_loopw [3, 4] (fun a i wr => ∃ (k : Nat) (r : ByteArray), k ≤ xs.length ∧ i = .int .i64 k ∧ a = .string r ∧ Hid (r.data.toList = textFrom 1 ((xs.take k).map (·.data.toList))) ∧ r.size ≤ 200 * k ∧ w.Exts wr) (fun _ i _ => xs.length - (intOf i).toNat)
  case atStart => exact ⟨0, ⟨#[]⟩, by omega, rfl, rfl, Lib.hid (by rw [List.take_zero]; rfl), by decide, exq⟩
  case round =>
    obtain ⟨k, r, hk, rfl, rfl, hr, hrs, X3, rfl⟩ := hrel
    rcases Nat.lt_or_ge k xs.length with hlt | hge
    · obtain ⟨b, o, rfl, x, hx, e, hx1⟩ := HROW.out k hlt
      have lb := Lays.of_cell e
      have w1 : (k : Int) < (xs.length : Int) := by omega
      have hsm : sumT (k + 1) x.data.toList < 257 := Nat.mod_lt _ (by decide)
      have hsum : ∀ W : World, Calls Tryz.prog 26 #[.int .i64 ((k : Int) + 1), .string x] W fun e w' => e = .returned (.int .i64 ((sumT (k + 1) x.data.toList : Nat) : Int)) ∧ W.Exts w' := fun W => r11_sum_any (k + 1) x W (by omega) (by omega)
      obtain ⟨tb, htb, htb3, hdg⟩ := digits_is _ hsm
      have hnew : (r ++ (x ++ (⟨#[32]⟩ : ByteArray) ++ tb ++ (⟨#[10]⟩ : ByteArray))).data.toList = textFrom 1 ((xs.take (k + 1)).map (·.data.toList)) := by
        rw [List.take_add_one, hx, Option.toList_some, List.map_append, List.map_cons, List.map_nil, textFrom_snoc, ← hr.out, tx_append, tx_append, tx_append, tx_append, htb, List.length_map, List.length_take, Nat.min_eq_left (by omega), Nat.add_comm 1 k]
        simp [sealT]
      generalize sumT (k + 1) x.data.toList = sm at hsum hdg
      have HSUM := Lib.hid hsum
      clear hsum
      have HDG := Lib.hid hdg
      clear hdg
      have HNEW := Lib.hid hnew
      clear hnew
      clear hr htb hsm hx
      go_wp2_with fail
      refine wp_region_ext (by kernel_rfl) (by kernel_rfl) ?_
      repeat (go_big_quiet_step (first | (go_at_call 26; exact Calls.in_ext (HSUM.out _)) | (go_at_call 43; exact Calls.in_ext (HDG.out _))))
      refine wpQuiet_nil ?_
      rintro _ ⟨X, rfl⟩
      go_wp2_with fail
      go_roundw
      case rel => exact ⟨k + 1, _, by omega, by go_num, rfl, HNEW, by have h32 : (⟨#[32]⟩ : ByteArray).size = 1 := rfl; have h10 : (⟨#[10]⟩ : ByteArray).size = 1 := rfl; rw [ByteArray.size_append, ByteArray.size_append, ByteArray.size_append, ByteArray.size_append, htb3, h32, h10]; omega, exq⟩
      case measure => simp [intOf]; omega
    · have w1 : ¬ (k : Int) < (xs.length : Int) := by omega
      have hfin : r.data.toList = textFrom 1 (xs.map (·.data.toList)) := by rw [hr.out, List.take_of_length_le hge]
      have HFIN := Lib.hid hfin
      clear hfin
      clear hr
      go_wp2_with fail
      refine bodyPost_ret (v := .string r) (by simp [results, Tryz.results31, go_sem]) rfl ?_
      exact ⟨exq, r, rfl, HFIN.out⟩

set_option maxHeartbeats 4000000 in
theorem r11_Check_any (kd : Int) (ps : List (List Int × Value)) (v : Value) (w : World) (h : ListsAt w v ps) (hn : ps.length ≤ 1000) (hc : ColsAt w) (hk : 0 ≤ kd ∧ kd ≤ 255) :
    Calls Tryz.prog 12 #[.agg #[.int .u8 kd, v]] w fun e w' => e = .returned (.int .i64 (if sheetB kd (ps.map Prod.fst) then 0 else 110)) ∧ w.Exts w' := by
  obtain ⟨q, cap, hv⟩ := h.row.len
  subst hv
  have h1 := fun (W : World) (hE : w.Exts W) => r11_Sheet_any kd ps _ W (h.mono hE) hn (hc.mono hE) hk
  have H1 := Lib.hid h1
  clear h1
  clear h hc
  cases hb : sheetB kd (ps.map Prod.fst)
  all_goals
    have HB := Lib.hid hb
    clear hb
    go_enter Tryz.func12, Tryz.ntmps12
    go_wp2_with (go_at_call 20; refine (H1.out _ exq).mono ?_; rintro e w' ⟨rfl, X2, rfl⟩; rw [HB.out])
  · refine bodyPost_ret (v := .int .i64 110) (by simp [results, Tryz.results12, go_sem]) rfl ?_
    exact ⟨rfl, exq⟩
  · refine bodyPost_ret (v := .int .i64 0) (by simp [results, Tryz.results12, go_sem]) rfl ?_
    exact ⟨rfl, exq⟩

set_option maxHeartbeats 4000000 in
theorem r11_Write_any (kd : Int) (ps : List (List Int × Value)) (v : Value) (w : World) (h : ListsAt w v ps) (hn : ps.length ≤ 900) (hc : ColsAt w) (hw : WordsAt w) (hk : 0 ≤ kd ∧ kd ≤ 255) :
    Calls Tryz.prog 10 #[.agg #[.int .u8 kd, v]] w (WriteIs w (writeR kd (ps.map Prod.fst))) := by
  obtain ⟨q, cap, hv⟩ := h.row.len
  subst hv
  have h1 := fun (W : World) (hE : w.Exts W) => r11_Sheet_any kd ps _ W (h.mono hE) (by omega) (hc.mono hE) hk
  have H1 := Lib.hid h1
  clear h1
  cases hb : sheetB kd (ps.map Prod.fst)
  · have hR : writeR kd (ps.map Prod.fst) = ([], 110) := by unfold writeR; rw [hb]; rfl
    rw [hR]
    have HB := Lib.hid hb
    clear hb
    clear h hc hw hR
    go_enter Tryz.func10, Tryz.ntmps10
    go_wp2_with (go_at_call 20; refine (H1.out _ exq).mono ?_; rintro e w' ⟨rfl, X2, rfl⟩; rw [HB.out])
    refine bodyPost_ret (v := .tuple #[.string ⟨#[]⟩, .int .i64 110]) (by simp [results, Tryz.results10, go_sem]) rfl ?_
    exact ⟨exq, _, rfl, rfl⟩
  have hnum := sheetB_nums hb (by rw [List.length_map]; omega)
  have hin : inb 1 4 kd = true := by unfold sheetB at hb; simp only [Bool.and_eq_true] at hb; exact hb.1
  have h2 := fun (W : World) (hE : w.Exts W) => r11_Lines_any kd ps _ W (h.mono hE) (by omega) (hw.mono hE) hin hnum
  have hfew := lines_few (kd := kd) (by rw [List.length_map]; omega) hnum
  have hll := lines_len kd (ps.map Prod.fst)
  rw [List.length_map] at hll
  have h3 : ∀ (W : World) (v' : Value), StrsAt W v' (linesOf kd (ps.map Prod.fst)) → Calls Tryz.prog 31 #[v'] W (TextIs W (textFrom 1 (linesOf kd (ps.map Prod.fst)))) := fun W v' ⟨xs, hxs, hr⟩ => by
    rw [← hxs]
    refine r11_Text_any xs v' W hr ?_ fun x hx => ?_
    · have := congrArg List.length hxs
      rw [List.length_map] at this
      omega
    · have := hfew x.data.toList (by rw [← hxs]; exact List.mem_map_of_mem hx)
      rw [tx_len] at this
      omega
  have hR : writeR kd (ps.map Prod.fst) = if 1500 < (textFrom 1 (linesOf kd (ps.map Prod.fst))).length then ([], 9) else (textFrom 1 (linesOf kd (ps.map Prod.fst)), 0) := by unfold writeR; rw [hb]; rfl
  rw [hR]
  generalize textFrom 1 (linesOf kd (ps.map Prod.fst)) = T at h3
  generalize linesOf kd (ps.map Prod.fst) = LL at h2 h3
  have HB := Lib.hid hb
  clear hb
  have H2 := Lib.hid h2
  clear h2
  have H3 := Lib.hid h3
  clear h3
  clear h hc hw hR hnum hin hfew hll
  rcases Nat.lt_or_ge 1500 T.length with ht | ht
  · rw [if_pos ht]
    go_enter Tryz.func10, Tryz.ntmps10
    go_wp2_with (first
      | (go_at_call 20; refine (H1.out _ exq).mono ?_; rintro e w' ⟨rfl, X2, rfl⟩; rw [HB.out])
      | (go_at_call 32; refine (H2.out _ exq).mono ?_; rintro e w' ⟨⟨X3, rfl⟩, vl, rfl, hvl⟩; have HVL := Lib.hid hvl; clear hvl)
      | (go_at_call 31; refine (H3.out _ _ HVL.out).mono ?_; rintro e w' ⟨⟨X4, rfl⟩, r, rfl, hr⟩; have w1 : (1500 : Int) < (r.size : Int) := (by rw [← tx_len, hr]; omega); clear hr))
    refine bodyPost_ret (v := .tuple #[.string ⟨#[]⟩, .int .i64 9]) (by simp [results, Tryz.results10, go_sem]) rfl ?_
    exact ⟨exq, _, rfl, rfl⟩
  · rw [if_neg (by omega)]
    go_enter Tryz.func10, Tryz.ntmps10
    go_wp2_with (first
      | (go_at_call 20; refine (H1.out _ exq).mono ?_; rintro e w' ⟨rfl, X2, rfl⟩; rw [HB.out])
      | (go_at_call 32; refine (H2.out _ exq).mono ?_; rintro e w' ⟨⟨X3, rfl⟩, vl, rfl, hvl⟩; have HVL := Lib.hid hvl; clear hvl)
      | (go_at_call 31; refine (H3.out _ _ HVL.out).mono ?_; rintro e w' ⟨⟨X4, rfl⟩, r, rfl, hr⟩; have w1 : ¬ (1500 : Int) < (r.size : Int) := (by rw [← tx_len, hr]; omega); have HR := Lib.hid hr; clear hr))
    refine bodyPost_ret (v := .tuple #[.string r, .int .i64 0]) (by simp [results, Tryz.results10, go_sem]) rfl ?_
    exact ⟨exq, r, rfl, HR.out⟩
end Go.Proofs.YtiidkbjckbkjgaaGreatDoor

/-
  Sheets as texts: the numbers of a row, piece by piece. Plain laws.
-/
namespace Kr
open Go.Lib
set_option linter.unusedSimpArgs false
set_option linter.unusedVariables false

/-- The numbers of a row, when some were read. -/
def rowFrom (done : List Int) (s : List UInt8) : Option (List Int) := match (splitC s).mapM numOf with
  | some l => if done.length + l.length ≤ 5 then some (done ++ l.map fun n : Nat => (n : Int)) else none
  | none => none
theorem rowOf_from (s : List UInt8) : rowOf s = rowFrom [] s := by
  unfold rowOf rowFrom
  cases (splitC s).mapM numOf with
  | none => rfl
  | some l => simp
theorem mapM_len {α β : Type} {f : α → Option β} : ∀ {l : List α} {ys : List β}, l.mapM f = some ys → ys.length = l.length
  | [], ys, h => by simp at h; subst h; rfl
  | a :: l, ys, h => by
    rw [List.mapM_cons] at h
    cases ha : f a with
    | none => rw [ha] at h; cases h
    | some b =>
      rw [ha] at h
      cases hl : l.mapM f with
      | none => rw [hl] at h; cases h
      | some bs =>
        rw [hl] at h
        cases h
        rw [List.length_cons, List.length_cons, mapM_len hl]
theorem mapM_cons_some {α β : Type} {f : α → Option β} {a : α} {l : List α} {b : β} (h : f a = some b) : (a :: l).mapM f = (l.mapM f).map (b :: ·) := by
  rw [List.mapM_cons, h]
  cases l.mapM f <;> rfl
theorem mapM_cons_none {α β : Type} {f : α → Option β} {a : α} {l : List α} (h : f a = none) : (a :: l).mapM f = none := by
  rw [List.mapM_cons, h]
  rfl
/-- A piece that is no number. -/
theorem rowFrom_bad {done : List Int} {s : List UInt8} (h : numOf (s.take (s.idxOf 44)) = none) : rowFrom done s = none := by
  unfold rowFrom
  rw [splitC_idx]
  by_cases hi : s.idxOf 44 < s.length
  · rw [if_pos hi, mapM_cons_none h]
  · rw [List.take_of_length_le (by omega)] at h
    rw [if_neg hi, mapM_cons_none h]
theorem rowFrom_full {done : List Int} {s : List UInt8} (h : 5 ≤ done.length) : rowFrom done s = none := by
  unfold rowFrom
  cases hm : (splitC s).mapM numOf with
  | none => rfl
  | some l =>
    have h1 := mapM_len hm
    have h2 : 0 < (splitC s).length := List.length_pos_iff.2 (splitC_ne s)
    dsimp only
    rw [if_neg (by omega)]
theorem rowFrom_step {done : List Int} {s : List UInt8} {n : Nat} (hi : s.idxOf 44 < s.length) (h : numOf (s.take (s.idxOf 44)) = some n) : rowFrom done s = rowFrom (done ++ [(n : Int)]) (s.drop (s.idxOf 44 + 1)) := by
  unfold rowFrom
  rw [splitC_idx, if_pos hi, mapM_cons_some h]
  cases (splitC (s.drop (s.idxOf 44 + 1))).mapM numOf with
  | none => rfl
  | some l =>
    simp only [Option.map_some, List.length_cons, List.length_append, List.length_nil, List.map_cons, List.append_assoc, List.singleton_append]
    congr 1
    rw [Nat.add_assoc, Nat.add_comm 1]
theorem rowFrom_last {done : List Int} {s : List UInt8} {n : Nat} (hi : ¬ s.idxOf 44 < s.length) (h : numOf (s.take (s.idxOf 44)) = some n) (hd : done.length < 5) : rowFrom done s = some (done ++ [(n : Int)]) := by
  rw [List.take_of_length_le (by omega)] at h
  unfold rowFrom
  rw [splitC_idx, if_neg hi, mapM_cons_some h]
  simp only [List.mapM_nil, pure, Option.map_some]
  rw [if_pos (by simp; omega)]
  rfl
theorem decFrom_ge : ∀ {l : List UInt8} {a n : Nat}, decFrom a l = some n → a ≤ n
  | [], a, n, h => by simp only [decFrom, Option.some.injEq] at h; omega
  | b :: r, a, n, h => by
    simp only [decFrom] at h
    cases hd : digitVal b with
    | none => rw [hd] at h; cases h
    | some d =>
      rw [hd] at h
      have := decFrom_ge h
      omega
theorem digitVal_of {b : UInt8} (h : digitB b = true) : digitVal b = some (b.toNat - 48) := by
  unfold digitB at h
  simp at h
  unfold digitVal
  rw [if_pos h]
theorem decFrom_bad {l : List UInt8} {b : UInt8} (hb : digitB b = false) : ∀ {a k : Nat}, l[k]? = some b → decFrom a l = none := by
  induction l with
  | nil => intro a k h; simp at h
  | cons c r ih =>
    intro a k h
    simp only [decFrom]
    cases hd : digitVal c with
    | none => rfl
    | some d =>
      cases k with
      | zero =>
        simp at h
        subst h
        unfold digitVal at hd
        unfold digitB at hb
        simp at hb
        split at hd
        · rename_i hx; omega
        · cases hd
      | succ k => exact ih (by simpa using h)
theorem numOf_bad {s : List UInt8} {b : UInt8} {k : Nat} (hb : digitB b = false) (hk : s[k]? = some b) : numOf s = none := by
  unfold numOf decNat
  cases s with
  | nil => simp at hk
  | cons c r =>
    rw [List.isEmpty_cons, if_neg (by simp), decFrom_bad hb hk]
theorem numOf_big {s : List UInt8} {x k : Nat} (h : decFrom 0 (s.take k) = some x) (hx : 86400000 < x) : numOf s = none := by
  cases hn : numOf s with
  | none => rfl
  | some n =>
    obtain ⟨h1, rfl⟩ := numOf_some.1 hn
    have h2 := decNat_digits n
    unfold decNat at h2
    split at h2
    · cases h2
    · rw [← List.take_append_drop k (decDigits n), decFrom_append, h] at h2
      have := decFrom_ge h2
      omega
theorem numOf_whole {s : List UInt8} {x : Nat} (h : decFrom 0 s = some x) (h0 : s ≠ []) (hx : x ≤ 86400000) : numOf s = if decDigits x = s then some x else none := by
  unfold numOf decNat
  rw [if_neg (by simpa using h0), h]
  dsimp only
  by_cases he : decDigits x = s
  · rw [if_pos ⟨hx, he⟩, if_pos he]
  · rw [if_neg (fun h => he h.2), if_neg he]
theorem decFrom_step {s : List UInt8} {k x : Nat} {b : UInt8} (h : decFrom 0 (s.take k) = some x) (hk : s[k]? = some b) (hb : digitB b = true) : decFrom 0 (s.take (k + 1)) = some (10 * x + (b.toNat - 48)) := by
  rw [decFrom_take s k 0 x b _ h hk (digitVal_of hb)]
  congr 1
  omega
end Kr
