/-
  Walks of the reference of sheets: the numbers of a row.
-/
import Derived.Test.YtiidkbjckbkjgaaGreatDoorVnP
import Derived.Test.YtiidkbjckbkjgaaGreatDoorVnP
import Derived.Test.YtiidkbjckbkjgaaGreatDoorIuQ
import Derived.Test.YtiidkbjckbkjgaaGreatDoorSa
import Derived.Test.YtiidkbjckbkjgaaGreatDoorBt
namespace Go.Proofs.YtiidkbjckbkjgaaGreatDoor
open Go.RowKit Kr
set_option linter.unusedSimpArgs false
set_option linter.unusedVariables false

theorem not_of_lt_idx {c : UInt8} : ∀ {l : List UInt8} {i : Nat}, i < l.idxOf c → l[i]? ≠ some c
  | [], i, h => by simp
  | b :: l, i, h => by
    rw [List.idxOf_cons] at h
    by_cases hb : b = c
    · subst hb
      simp at h
    · have h2 : (b == c) = false := by simpa using hb
      rw [h2] at h
      simp only [cond_false] at h
      cases i with
      | zero => simpa using hb
      | succ i => rw [List.getElem?_cons_succ]; exact not_of_lt_idx (by omega)
theorem idx_ge {l : List UInt8} {f k : Nat} (h : ∀ j, f ≤ j → j < k → l[j]? ≠ some 44) (hk : k ≤ l.length) (hf : f ≤ k) : k - f ≤ (l.drop f).idxOf 44 := by
  rcases Nat.lt_or_ge ((l.drop f).idxOf 44) (k - f) with h1 | h1
  · have h2 : (l.drop f).idxOf 44 < (l.drop f).length := by rw [List.length_drop]; omega
    have h3 := List.getElem_idxOf h2
    refine absurd ?_ (h (f + (l.drop f).idxOf 44) (by omega) (by omega))
    rw [← List.getElem?_drop, List.getElem?_eq_getElem h2, h3]
  · exact h1
theorem idx_eq {l : List UInt8} {f k : Nat} (h : ∀ j, f ≤ j → j < k → l[j]? ≠ some 44) (hf : f ≤ k) (hk : l[k]? = some 44) : (l.drop f).idxOf 44 = k - f := by
  have hkl := (List.getElem?_eq_some_iff.1 hk).1
  have h1 := idx_ge h (by omega) hf
  rcases Nat.eq_or_lt_of_le h1 with h2 | h2
  · exact h2.symm
  · have h3 : (l.drop f)[k - f]? = some 44 := by rw [List.getElem?_drop, show f + (k - f) = k by omega]; exact hk
    obtain ⟨h4, h5⟩ := List.getElem?_eq_some_iff.1 h3
    have h6 : (l.drop f).idxOf 44 ≤ k - f := by
      rcases Nat.lt_or_ge (k - f) ((l.drop f).idxOf 44) with h | h
      · exact absurd h3 (not_of_lt_idx h)
      · exact h
    omega

/-- What parses a row gives. -/
def RowIs (w : World) (R : Option (List Int)) (e : Ending) (w' : World) : Prop :=
  w.Exts w' ∧ ((R = none ∧ e = .returned (.tuple #[.slice none 0 0, .bool false])) ∨ (∃ l v, R = some l ∧ e = .returned (.tuple #[v, .bool true]) ∧ w'.ownsRow w.heap.size 3 1 v l.length (l.flatMap fun x => [.int .i64 x])))

set_option maxRecDepth 4000 in
set_option maxHeartbeats 8000000 in
theorem r11_row_any (s : ByteArray) (w : World) (hs : s.size ≤ 5000) :
    Calls Tryz.prog 42 #[.string s] w (RowIs w (rowOf s.data.toList)) := by
  obtain ⟨R, hR⟩ : ∃ r, rowOf s.data.toList = r := ⟨_, rfl⟩
  have hR0 : R = rowFrom [] (s.data.toList.drop 0) := by rw [← hR, rowOf_from]; rfl
  rw [hR]
  have HR0 := Lib.hid hR0
  clear hR0
  clear hR
  go_enter Tryz.func42, Tryz.ntmps42
  go_wp2_with fail
  go_loopw [4, 5, 6, 7, 8, 9] (fun o f i _ _ _ wr => ∃ (k fr : Nat) (done : List Int) (v : Value), fr ≤ k ∧ k ≤ s.size + 1 ∧ done.length ≤ 5 ∧ i = .int .i64 k ∧ f = .int .i64 fr ∧ o = v ∧ Hid ((k ≤ s.size ∧ R = rowFrom done (s.data.toList.drop fr) ∧ ∀ j, fr ≤ j → j < k → s.data.toList[j]? ≠ some 44) ∨ (k = s.size + 1 ∧ R = some done)) ∧ Hid (wr.ownsRow w.heap.size 3 1 v done.length (done.flatMap fun x => [.int .i64 x])) ∧ w.Exts wr) (fun _ _ i _ _ _ _ => s.size + 1 - (intOf i).toNat)
  case atStart => exact ⟨0, 0, [], .slice none 0 0, Nat.le_refl _, by omega, by simp, rfl, rfl, rfl, Lib.hid (.inl ⟨by omega, HR0.out, fun j h1 h2 => by omega⟩), Lib.hid (World.ownsRow_nil ..), exq⟩
  case round =>
    obtain ⟨k, fr, done, v, hfk, hk, hd5, rfl, rfl, rfl, hrk, hown, X3, rfl⟩ := hrel
    obtain ⟨qv, cv, hv⟩ := owns_len hown.out
    subst hv
    rcases hrk.out with ⟨hks, hRR, hno⟩ | ⟨hk2, hRd⟩
    rotate_left
    · subst hk2
      have w1 : ¬ (((s.size + 1 : Nat) : Int) ≤ (s.size : Int)) := by omega
      have HRD := Lib.hid hRd
      clear hRd
      clear hrk
      go_wp2_with fail
      refine bodyPost_ret (v := .tuple #[.slice qv done.length cv, .bool true]) (by simp [results, Tryz.results42, go_sem]) rfl ?_
      exact ⟨exq, .inr ⟨done, _, HRD.out, rfl, hown.out⟩⟩
    have w0 : (k : Int) ≤ (s.size : Int) := by omega
    have hcase : (∃ hlt : k < s.size, (s[k]'hlt) ≠ 44) ∨ ((∃ hlt : k < s.size, (s[k]'hlt) = 44) ∨ k = s.size) := by
      rcases Nat.lt_or_ge k s.size with h | h
      · by_cases h2 : s[k]'h = 44
        · exact .inr (.inl ⟨h, h2⟩)
        · exact .inl ⟨h, h2⟩
      · exact .inr (.inr (by omega))
    rcases hcase with ⟨hlt, hne⟩ | hcase
    · have hno2 : ∀ j, fr ≤ j → j < k + 1 → s.data.toList[j]? ≠ some 44 := fun j h1 h2 => by
        rcases Nat.lt_or_ge j k with h | h
        · exact hno j h1 h
        · have : j = k := by omega
          subst this
          rw [tx_get hlt]
          exact fun e => hne (Option.some.inj e)
      have hy : ((((s[k]'hlt).toNat : Nat) : Int) != 44) = true := by
        simp only [bne_iff_ne, ne_eq]
        intro e
        exact hne (UInt8.toNat.inj (by have : (44 : UInt8).toNat = 44 := rfl; omega))
      have hy2 : ¬ (((s[k]'hlt).toNat : Nat) : Int) = 44 := by simpa using hy
      have w1 : (k : Int) < (s.size : Int) := by omega
      obtain ⟨y, ey⟩ : ∃ y, s[k]'hlt = y := ⟨_, rfl⟩
      rw [ey] at hy hy2
      have HRR := Lib.hid hRR
      clear hRR
      have HNO2 := Lib.hid hno2
      clear hno2
      clear hno hrk hne
      go_wp2_with fail
      go_roundw
      case rel => exact ⟨k + 1, fr, done, _, by omega, by omega, hd5, by go_num, rfl, rfl, Lib.hid (.inl ⟨by omega, HRR.out, HNO2.out⟩), Lib.hid hown.out, exq⟩
      case measure => simp [intOf]; omega
    have hpl : s.data.toList.length = s.size := tx_len s
    obtain ⟨p, hp⟩ : ∃ p, s.extract fr k = p := ⟨_, rfl⟩
    have hpd : p.data.toList = (s.data.toList.drop fr).take ((s.data.toList.drop fr).idxOf 44) := by
      rw [← hp, Lib.extract_data]
      rcases hcase with ⟨hlt, he⟩ | he
      · rw [idx_eq hno hfk (by rw [tx_get hlt, he])]
      · have h1 := idx_ge hno (by omega) hfk
        rw [List.take_of_length_le (by rw [List.length_drop]; omega), List.take_of_length_le (by rw [List.length_drop]; omega)]
    have hps : p.size = k - fr := by
      rw [← tx_len, ← hp, Lib.extract_data, List.length_take, List.length_drop]
      omega
    have hnx : ∀ n : Nat, numOf p.data.toList = some n → done.length < 5 → (k + 1 ≤ s.size + 1) ∧ ((k + 1 ≤ s.size ∧ R = rowFrom (done ++ [(n : Int)]) (s.data.toList.drop (k + 1)) ∧ ∀ j, k + 1 ≤ j → j < k + 1 → s.data.toList[j]? ≠ some 44) ∨ (k + 1 = s.size + 1 ∧ R = some (done ++ [(n : Int)]))) := fun n hn h5 => by
      refine ⟨by omega, ?_⟩
      rw [hpd] at hn
      rcases hcase with ⟨hlt, he⟩ | he
      · have hi := idx_eq hno hfk (by rw [tx_get hlt, he])
        refine .inl ⟨by omega, ?_, fun j h1 h2 => by omega⟩
        rw [hRR, rowFrom_step (by rw [hi, List.length_drop]; omega) hn, hi, List.drop_drop, show fr + (k - fr + 1) = k + 1 by omega]
      · have h1 := idx_ge hno (by omega) hfk
        exact .inr ⟨by omega, by rw [hRR, rowFrom_last (by rw [List.length_drop]; omega) hn h5]⟩
    have hbad : numOf p.data.toList = none → R = none := fun hn => by rw [hRR]; exact rowFrom_bad (by rw [← hpd]; exact hn)
    have hfull : 5 ≤ done.length → R = none := fun h => by rw [hRR]; exact rowFrom_full h
    have hguard : (k < s.size → ∃ h : k < s.size, (s[k]'h) = 44) := fun h => by
      rcases hcase with ⟨hlt, he⟩ | he
      · exact ⟨hlt, he⟩
      · omega
    have HPD := Lib.hid hpd
    clear hpd
    have HNX := Lib.hid hnx
    clear hnx
    have HBAD := Lib.hid hbad
    clear hbad
    have HFULL := Lib.hid hfull
    clear hfull
    have hns : numOf p.data.toList = numOf p.data.toList := rfl
    have fr0 : (0 : Int) ≤ (fr : Int) := by omega
    have fk0 : (fr : Int) ≤ (k : Int) := by omega
    clear hRR hno hrk hpl hguard hns
    rcases hcase with ⟨hlt, he⟩ | he
    · have w1 : (k : Int) < (s.size : Int) := by omega
      have e44 : s[k]'hlt = 44 := he
      clear he
      go_wp2_with fail
      go_loopw [8, 9] (fun a j wr => ∃ (m : Nat) (x : Int), m ≤ p.size ∧ j = .int .i64 m ∧ a = .int .i64 x ∧ 0 ≤ x ∧ x ≤ 1000000000 ∧ Hid (Lib.decFrom 0 (p.data.toList.take m) = some x.toNat) ∧ (World.ext _ X3).Exts wr) (fun _ j _ => p.size - (intOf j).toNat)
      case atStart => exact ⟨0, 0, by omega, rfl, rfl, by omega, by omega, Lib.hid (by rw [List.take_zero]; rfl), exq⟩
      case round =>
        obtain ⟨m, x, hm, rfl, rfl, hx0, hx9, hdf, X4, rfl⟩ := hrel
        rcases Nat.lt_or_ge m p.size with hml | hml
        · have m1 : (m : Int) < (p.size : Int) := by omega
          have gy := tx_get hml
          obtain ⟨y, ey⟩ : ∃ y, p[m]'hml = y := ⟨_, rfl⟩
          rw [ey] at gy
          cases hdy : digitB y
          · have hb := HBAD.out (numOf_bad hdy gy)
            have HB := Lib.hid hb
            clear hb
            clear hdf gy
            go_wp2_with (go_at_call 76; refine (r11_digit_any y _).mono ?_; rintro e w' ⟨rfl, X5, rfl⟩; rw [hdy])
            refine bodyPost_ret (v := .tuple #[.slice none 0 0, .bool false]) (by simp [results, Tryz.results42, go_sem]) rfl ?_
            exact ⟨exq, .inl ⟨HB.out, rfl⟩⟩
          rcases Int.lt_or_le 86400000 x with hx8 | hx8
          · have hb := HBAD.out (numOf_big hdf.out (by omega))
            have HB := Lib.hid hb
            clear hb
            clear hdf gy
            go_wp2_with (go_at_call 76; refine (r11_digit_any y _).mono ?_; rintro e w' ⟨rfl, X5, rfl⟩; rw [hdy])
            refine bodyPost_ret (v := .tuple #[.slice none 0 0, .bool false]) (by simp [results, Tryz.results42, go_sem]) rfl ?_
            exact ⟨exq, .inl ⟨HB.out, rfl⟩⟩
          · have hst := decFrom_step hdf.out gy hdy
            have x8 : ¬ (86400000 : Int) < x := by omega
            have hd2 := hdy
            unfold digitB at hd2
            simp only [Bool.and_eq_true, decide_eq_true_eq] at hd2
            obtain ⟨z, hz⟩ : ∃ z : Int, ((y.toNat : Nat) : Int) = z := ⟨_, rfl⟩
            obtain ⟨z1, z2⟩ := hd2
            have hzi : 48 ≤ z := by omega
            have hzj : z ≤ 57 := by omega
            have hrg : (10 * x + (z - 48)).toNat = 10 * x.toNat + (y.toNat - 48) := by omega
            rw [← hrg] at hst
            clear z1 z2 hrg
            have HST := Lib.hid hst
            clear hst
            clear hdf gy
            have hdig := fun (W : World) => r11_digit_any y W
            rw [hz, hdy] at hdig
            go_wp2_with (go_at_call 76; refine (hdig _).mono ?_; rintro e w' ⟨rfl, X5, rfl⟩)
            go_roundw
            case rel => exact ⟨m + 1, 10 * x + (z - 48), by omega, by go_num, by first | rfl | simp, by omega, by omega, HST, exq⟩
            case measure => simp [intOf]; omega
        · have hmm : m = p.size := by omega
          have hdf2 := hdf.out
          rw [hmm, ← tx_len, List.take_length] at hdf2
          have hdf3 : Lib.decFrom 0 (p.data.toList.take p.size) = some x.toNat := by rw [← tx_len, List.take_length]; exact hdf2
          subst hmm
          clear hdf
          rcases Nat.eq_zero_or_pos p.size with hp0 | hp0
          · have hb := HBAD.out (by
              have : p.data.toList = [] := List.eq_nil_of_length_eq_zero (by rw [tx_len]; exact hp0)
              rw [this]
              rfl)
            have p0 : ((p.size : Int) == 0) = true := by rw [beq_iff_eq]; omega
            have HB := Lib.hid hb
            clear hb
            clear hdf2 hdf3
            go_wp2_with fail
            refine bodyPost_ret (v := .tuple #[.slice none 0 0, .bool false]) (by simp [results, Tryz.results42, go_sem]) rfl ?_
            exact ⟨exq, .inl ⟨HB.out, rfl⟩⟩
          have p0 : ((p.size : Int) == 0) = false := by rw [beq_eq_false_iff_ne]; omega
          have p1 : ¬ (p.size : Int) = 0 := by omega
          rcases Int.lt_or_le 86400000 x with hx8 | hx8
          · have hb := HBAD.out (numOf_big hdf3 (by omega))
            have HB := Lib.hid hb
            clear hb
            clear hdf2 hdf3
            go_wp2_with fail
            refine bodyPost_ret (v := .tuple #[.slice none 0 0, .bool false]) (by simp [results, Tryz.results42, go_sem]) rfl ?_
            exact ⟨exq, .inl ⟨HB.out, rfl⟩⟩
          have x8 : ¬ (86400000 : Int) < x := by omega
          have hwh := numOf_whole hdf2 (fun e => by rw [← tx_len, e] at hp0; exact absurd hp0 (Nat.lt_irrefl 0)) (by omega)
          obtain ⟨xn, hxn⟩ := Int.eq_ofNat_of_zero_le hx0
          have hnum := fun (W : World) => r11_number_any x.toNat (by omega) W
          rw [Int.toNat_of_nonneg hx0] at hnum
          have HNUM := Lib.hid hnum
          clear hnum
          clear hxn xn
          by_cases hq : Lib.decDigits x.toNat = p.data.toList
          rotate_left
          · have hb := HBAD.out (by rw [hwh, if_neg hq])
            have HB := Lib.hid hb
            clear hb
            have HQ := Lib.hid hq
            clear hq
            clear hdf2 hdf3 hwh
            go_wp2_with (go_at_call 41; refine (HNUM.out _).mono ?_; rintro e w' ⟨r, rfl, hr, X5, rfl⟩; have hne : (r.toList == p.toList) = false := (by rw [Lib.toList_data, Lib.toList_data, hr]; simpa using HQ.out); clear hr)
            refine bodyPost_ret (v := .tuple #[.slice none 0 0, .bool false]) (by simp [results, Tryz.results42, go_sem]) rfl ?_
            exact ⟨exq, .inl ⟨HB.out, rfl⟩⟩
          rw [if_pos hq] at hwh
          rcases Nat.lt_or_ge done.length 5 with h5 | h5
          rotate_left
          · have hb := HFULL.out h5
            have d5 : ((done.length : Int) == 5) = true := by simp; omega
            have HB := Lib.hid hb
            clear hb
            have HQ := Lib.hid hq
            clear hq
            clear hdf2 hdf3 hwh
            go_wp2_with (go_at_call 41; refine (HNUM.out _).mono ?_; rintro e w' ⟨r, rfl, hr, X5, rfl⟩; obtain rfl : r = p := tx_inj (hr.trans HQ.out); clear hr)
            refine bodyPost_ret (v := .tuple #[.slice none 0 0, .bool false]) (by simp [results, Tryz.results42, go_sem]) rfl ?_
            exact ⟨exq, .inl ⟨HB.out, rfl⟩⟩
          obtain ⟨hn1, hn2⟩ := HNX.out x.toNat hwh h5
          rw [Int.toNat_of_nonneg hx0] at hn2
          have d5 : ((done.length : Int) == 5) = false := by simp; omega
          have d6 : ¬ (done.length : Int) = 5 := by omega
          have HN2 := Lib.hid hn2
          clear hn2
          have HQ := Lib.hid hq
          clear hq
          clear hdf2 hdf3 hwh
          go_wp2_with (first
            | (go_at_call 41; refine (HNUM.out _).mono ?_; rintro e w' ⟨r, rfl, hr, X5, rfl⟩; obtain rfl : r = p := tx_inj (hr.trans HQ.out); clear hr)
            | (at_builtin; refine wpList_append1W (.tmp 71) (.tmp 73) elem_int rfl rfl rfl (ownsRow_exts hown.out exq) [.int .i64 x] _ (by simp) rfl rfl ?h1 ?h2 ?h4 ?h3 ?_))
          case h1 => intro u hu; simp at hu; subst hu; rfl
          case h2 => omega
          case h4 => decide
          case h3 => exact World.Exts.size exq
          intro v' w' hown' happ
          have hE := happ.exts w exq (Nat.le_refl _)
          have HO3 := Lib.hid hown'
          clear hown'
          have HE := Lib.hid hE
          clear hE
          clear happ
          go_wp2_with fail
          go_roundw
          case rel => exact ⟨k + 1, k + 1, done ++ [x], v', by omega, hn1, by simp; omega, by go_num, by go_num, rfl, HN2, Lib.hid (by rw [List.length_append, List.flatMap_append]; exact HO3.out), HE.out⟩
          case measure => simp [intOf]; omega
    · have w1 : ¬ (k : Int) < (s.size : Int) := by omega
      have w2 : ¬ k < s.size := by omega
      clear he
      go_wp2_with fail
      go_loopw [8, 9] (fun a j wr => ∃ (m : Nat) (x : Int), m ≤ p.size ∧ j = .int .i64 m ∧ a = .int .i64 x ∧ 0 ≤ x ∧ x ≤ 1000000000 ∧ Hid (Lib.decFrom 0 (p.data.toList.take m) = some x.toNat) ∧ (World.ext _ X3).Exts wr) (fun _ j _ => p.size - (intOf j).toNat)
      case atStart => exact ⟨0, 0, by omega, rfl, rfl, by omega, by omega, Lib.hid (by rw [List.take_zero]; rfl), exq⟩
      case round =>
        obtain ⟨m, x, hm, rfl, rfl, hx0, hx9, hdf, X4, rfl⟩ := hrel
        rcases Nat.lt_or_ge m p.size with hml | hml
        · have m1 : (m : Int) < (p.size : Int) := by omega
          have gy := tx_get hml
          obtain ⟨y, ey⟩ : ∃ y, p[m]'hml = y := ⟨_, rfl⟩
          rw [ey] at gy
          cases hdy : digitB y
          · have hb := HBAD.out (numOf_bad hdy gy)
            have HB := Lib.hid hb
            clear hb
            clear hdf gy
            go_wp2_with (go_at_call 76; refine (r11_digit_any y _).mono ?_; rintro e w' ⟨rfl, X5, rfl⟩; rw [hdy])
            refine bodyPost_ret (v := .tuple #[.slice none 0 0, .bool false]) (by simp [results, Tryz.results42, go_sem]) rfl ?_
            exact ⟨exq, .inl ⟨HB.out, rfl⟩⟩
          rcases Int.lt_or_le 86400000 x with hx8 | hx8
          · have hb := HBAD.out (numOf_big hdf.out (by omega))
            have HB := Lib.hid hb
            clear hb
            clear hdf gy
            go_wp2_with (go_at_call 76; refine (r11_digit_any y _).mono ?_; rintro e w' ⟨rfl, X5, rfl⟩; rw [hdy])
            refine bodyPost_ret (v := .tuple #[.slice none 0 0, .bool false]) (by simp [results, Tryz.results42, go_sem]) rfl ?_
            exact ⟨exq, .inl ⟨HB.out, rfl⟩⟩
          · have hst := decFrom_step hdf.out gy hdy
            have x8 : ¬ (86400000 : Int) < x := by omega
            have hd2 := hdy
            unfold digitB at hd2
            simp only [Bool.and_eq_true, decide_eq_true_eq] at hd2
            obtain ⟨z, hz⟩ : ∃ z : Int, ((y.toNat : Nat) : Int) = z := ⟨_, rfl⟩
            obtain ⟨z1, z2⟩ := hd2
            have hzi : 48 ≤ z := by omega
            have hzj : z ≤ 57 := by omega
            have hrg : (10 * x + (z - 48)).toNat = 10 * x.toNat + (y.toNat - 48) := by omega
            rw [← hrg] at hst
            clear z1 z2 hrg
            have HST := Lib.hid hst
            clear hst
            clear hdf gy
            have hdig := fun (W : World) => r11_digit_any y W
            rw [hz, hdy] at hdig
            go_wp2_with (go_at_call 76; refine (hdig _).mono ?_; rintro e w' ⟨rfl, X5, rfl⟩)
            go_roundw
            case rel => exact ⟨m + 1, 10 * x + (z - 48), by omega, by go_num, by first | rfl | simp, by omega, by omega, HST, exq⟩
            case measure => simp [intOf]; omega
        · have hmm : m = p.size := by omega
          have hdf2 := hdf.out
          rw [hmm, ← tx_len, List.take_length] at hdf2
          have hdf3 : Lib.decFrom 0 (p.data.toList.take p.size) = some x.toNat := by rw [← tx_len, List.take_length]; exact hdf2
          subst hmm
          clear hdf
          rcases Nat.eq_zero_or_pos p.size with hp0 | hp0
          · have hb := HBAD.out (by
              have : p.data.toList = [] := List.eq_nil_of_length_eq_zero (by rw [tx_len]; exact hp0)
              rw [this]
              rfl)
            have p0 : ((p.size : Int) == 0) = true := by rw [beq_iff_eq]; omega
            have HB := Lib.hid hb
            clear hb
            clear hdf2 hdf3
            go_wp2_with fail
            refine bodyPost_ret (v := .tuple #[.slice none 0 0, .bool false]) (by simp [results, Tryz.results42, go_sem]) rfl ?_
            exact ⟨exq, .inl ⟨HB.out, rfl⟩⟩
          have p0 : ((p.size : Int) == 0) = false := by rw [beq_eq_false_iff_ne]; omega
          have p1 : ¬ (p.size : Int) = 0 := by omega
          rcases Int.lt_or_le 86400000 x with hx8 | hx8
          · have hb := HBAD.out (numOf_big hdf3 (by omega))
            have HB := Lib.hid hb
            clear hb
            clear hdf2 hdf3
            go_wp2_with fail
            refine bodyPost_ret (v := .tuple #[.slice none 0 0, .bool false]) (by simp [results, Tryz.results42, go_sem]) rfl ?_
            exact ⟨exq, .inl ⟨HB.out, rfl⟩⟩
          have x8 : ¬ (86400000 : Int) < x := by omega
          have hwh := numOf_whole hdf2 (fun e => by rw [← tx_len, e] at hp0; exact absurd hp0 (Nat.lt_irrefl 0)) (by omega)
          obtain ⟨xn, hxn⟩ := Int.eq_ofNat_of_zero_le hx0
          have hnum := fun (W : World) => r11_number_any x.toNat (by omega) W
          rw [Int.toNat_of_nonneg hx0] at hnum
          have HNUM := Lib.hid hnum
          clear hnum
          clear hxn xn
          by_cases hq : Lib.decDigits x.toNat = p.data.toList
          rotate_left
          · have hb := HBAD.out (by rw [hwh, if_neg hq])
            have HB := Lib.hid hb
            clear hb
            have HQ := Lib.hid hq
            clear hq
            clear hdf2 hdf3 hwh
            go_wp2_with (go_at_call 41; refine (HNUM.out _).mono ?_; rintro e w' ⟨r, rfl, hr, X5, rfl⟩; have hne : (r.toList == p.toList) = false := (by rw [Lib.toList_data, Lib.toList_data, hr]; simpa using HQ.out); clear hr)
            refine bodyPost_ret (v := .tuple #[.slice none 0 0, .bool false]) (by simp [results, Tryz.results42, go_sem]) rfl ?_
            exact ⟨exq, .inl ⟨HB.out, rfl⟩⟩
          rw [if_pos hq] at hwh
          rcases Nat.lt_or_ge done.length 5 with h5 | h5
          rotate_left
          · have hb := HFULL.out h5
            have d5 : ((done.length : Int) == 5) = true := by simp; omega
            have HB := Lib.hid hb
            clear hb
            have HQ := Lib.hid hq
            clear hq
            clear hdf2 hdf3 hwh
            go_wp2_with (go_at_call 41; refine (HNUM.out _).mono ?_; rintro e w' ⟨r, rfl, hr, X5, rfl⟩; obtain rfl : r = p := tx_inj (hr.trans HQ.out); clear hr)
            refine bodyPost_ret (v := .tuple #[.slice none 0 0, .bool false]) (by simp [results, Tryz.results42, go_sem]) rfl ?_
            exact ⟨exq, .inl ⟨HB.out, rfl⟩⟩
          obtain ⟨hn1, hn2⟩ := HNX.out x.toNat hwh h5
          rw [Int.toNat_of_nonneg hx0] at hn2
          have d5 : ((done.length : Int) == 5) = false := by simp; omega
          have d6 : ¬ (done.length : Int) = 5 := by omega
          have HN2 := Lib.hid hn2
          clear hn2
          have HQ := Lib.hid hq
          clear hq
          clear hdf2 hdf3 hwh
          go_wp2_with (first
            | (go_at_call 41; refine (HNUM.out _).mono ?_; rintro e w' ⟨r, rfl, hr, X5, rfl⟩; obtain rfl : r = p := tx_inj (hr.trans HQ.out); clear hr)
            | (at_builtin; refine wpList_append1W (.tmp 71) (.tmp 73) elem_int rfl rfl rfl (ownsRow_exts hown.out exq) [.int .i64 x] _ (by simp) rfl rfl ?h1 ?h2 ?h4 ?h3 ?_))
          case h1 => intro u hu; simp at hu; subst hu; rfl
          case h2 => omega
          case h4 => decide
          case h3 => exact World.Exts.size exq
          intro v' w' hown' happ
          have hE := happ.exts w exq (Nat.le_refl _)
          have HO3 := Lib.hid hown'
          clear hown'
          have HE := Lib.hid hE
          clear hE
          clear happ
          go_wp2_with fail
          go_roundw
          case rel => exact ⟨k + 1, k + 1, done ++ [x], v', by omega, hn1, by simp; omega, by go_num, by go_num, rfl, HN2, Lib.hid (by rw [List.length_append, List.flatMap_append]; exact HO3.out), HE.out⟩
          case measure => simp [intOf]; omega
end Go.Proofs.YtiidkbjckbkjgaaGreatDoor
