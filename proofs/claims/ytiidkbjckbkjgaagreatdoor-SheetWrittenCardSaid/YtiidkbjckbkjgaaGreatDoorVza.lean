/-
  Walks of the reference of sheets: what is read.
-/
import Derived.Test.YtiidkbjckbkjgaaGreatDoorVnP
import Derived.Test.YtiidkbjckbkjgaaGreatDoorVnP
import Derived.Test.YtiidkbjckbkjgaaGreatDoorVq
import Derived.Test.YtiidkbjckbkjgaaGreatDoorIuQ
namespace Kr
theorem idx_from {l : List UInt8} {c : UInt8} {a e : Nat} (ha : a ≤ e) (h : ∀ j, a ≤ j → j < e → l[j]? ≠ some c) (he : e = l.length ∨ l[e]? = some c) (hel : e ≤ l.length) : a + (l.drop a).idxOf c = e := by
  rcases Nat.lt_trichotomy (a + (l.drop a).idxOf c) e with h1 | h1 | h1
  · have h2 : (l.drop a).idxOf c < (l.drop a).length := by rw [List.length_drop]; omega
    have h3 := List.getElem_idxOf h2
    refine absurd ?_ (h (a + (l.drop a).idxOf c) (by omega) h1)
    rw [← List.getElem?_drop, List.getElem?_eq_getElem h2, h3]
  · exact h1
  · rcases he with he | he
    · have := List.idxOf_le_length (a := c) (l := l.drop a)
      rw [List.length_drop] at this
      omega
    · have := idx_not (l := l.drop a) (i := e - a) (c := c) (by omega)
      rw [List.getElem?_drop, show a + (e - a) = e by omega] at this
      exact absurd he this
end Kr
namespace Go.Proofs.YtiidkbjckbkjgaaGreatDoor
open Go.RowKit Kr
set_option linter.unusedSimpArgs false
set_option linter.unusedVariables false
def ReadIs (w : World) (R : (Int × List (List Int)) × Int × Int) (e : Ending) (w' : World) : Prop :=
  w.Exts w' ∧ ∃ v ps, e = .returned (.tuple #[.agg #[.int .u8 R.1.1, v], .int .i64 R.2.1, .int .i64 R.2.2]) ∧ ListsAt w' v ps ∧ ps.map Prod.fst = R.1.2
theorem ReadIs.none {w w' : World} {R : (Int × List (List Int)) × Int × Int} {n e : Int} (h : R = ((0, []), n, e)) (hE : w.Exts w') : ReadIs w R (.returned (.tuple #[.agg #[.int .u8 0, .slice none 0 0], .int .i64 n, .int .i64 e])) w' := by
  subst h
  exact ⟨hE, _, [], rfl, lists_none _, rfl⟩

theorem number_is (k : Nat) (h : k ≤ 1000) : ∃ tb : ByteArray, tb.data.toList = Lib.decDigits k ∧ tb.size ≤ 8 ∧ ∀ W, Calls Tryz.prog 41 #[.int .i64 (k : Int)] W fun e w' => e = .returned (.string tb) ∧ W.Exts w' := by
  refine ⟨⟨(Lib.decDigits k).toArray⟩, rfl, by rw [← tx_len]; exact digits_few 8 k (by decide) (by omega), fun W => (r11_number_any k (by omega) W).mono ?_⟩
  rintro e w' ⟨r, rfl, hr, hE⟩
  obtain rfl : r = ⟨(Lib.decDigits k).toArray⟩ := tx_inj hr
  exact ⟨rfl, hE⟩
theorem laysAs_other {w : World} {b : Nat} {ob : Obj} (h : LaysAs w b ob) {a : Addr} (hne : a.block ≠ b) (u : Value) : LaysAs (w.setCell a u) b ob := by
  unfold LaysAs World.setCell at *
  simp [Array.getElem?_modify, h, hne]

set_option maxRecDepth 4000 in
set_option maxHeartbeats 8000000 in
theorem r11_Read_any (s : ByteArray) (w : World) (hc : ColsAt w) (hw : WordsAt w) :
    Calls Tryz.prog 14 #[.string s] w (ReadIs w (readR s.data.toList)) := by
  obtain ⟨R, hR⟩ : ∃ r, readR s.data.toList = r := ⟨_, rfl⟩
  rw [hR]
  rcases Nat.lt_or_ge 1500 s.size with h15 | h15
  · have hv : R = ((0, []), 0, 9) := hR ▸ readR_long (by rw [tx_len]; exact h15)
    have h15i : (1500 : Int) < (s.size : Int) := by omega
    have HV := Lib.hid hv
    clear hv
    clear hR h15
    go_enter Tryz.func14, Tryz.ntmps14
    go_wp2_with fail
    refine bodyPost_ret (v := .tuple #[.agg #[.int .u8 0, .slice none 0 0], .int .i64 0, .int .i64 9]) (by simp [results, Tryz.results14, go_sem]) rfl ?_
    exact ReadIs.none HV.out exq
  have h15i : ¬ (1500 : Int) < (s.size : Int) := by omega
  have hRR : R = readFrom 1 ⟨((0 : Nat) : Int), [], false⟩ (s.data.toList.drop 0) := hR ▸ readR_from (by rw [tx_len]; omega)
  have HRR := Lib.hid hRR
  clear hRR
  have H15 := Lib.hid h15
  clear h15
  have HCOL := Lib.hid hc
  clear hc
  have HWRD := Lib.hid hw
  clear hw
  clear hR
  go_enter Tryz.func14, Tryz.ntmps14
  go_wp2_with fail
  go_loopw [6, 7, 8, 9, 10, 11, 12, 13, 14] (fun a en n _ _ _ _ _ _ wr => ∃ (k m kn : Nat) (ended : Bool) (v : Value) (rs : List (List Int × Value)), k ≤ s.size ∧ m ≤ k + 1 ∧ 1 ≤ m ∧ a = .int .i64 k ∧ n = .int .i64 m ∧ en = .bool ended ∧ Hid (kn ≤ 4) ∧ Hid (rs.length ≤ 100) ∧ Hid (R = readFrom m ⟨kn, rs.map Prod.fst, ended⟩ (s.data.toList.drop k)) ∧ w.Exts wr ∧ Hid (LaysAs wr (w.heap.size + 1) (.cells [.int .u8 kn, v].toArray 24 (0, 0))) ∧ Hid (LaysAs wr w.heap.size (.cells [.int .u8 0, .slice none 0 0].toArray 24 (0, 0))) ∧ Hid (OwnLists wr (w.heap.size + 2) v rs)) (fun a _ _ _ _ _ _ _ _ _ => s.size - (intOf a).toNat)
  case atStart => exact ⟨0, 1, 0, false, .slice none 0 0, [], by omega, by omega, by omega, rfl, rfl, rfl, Lib.hid (by omega), Lib.hid (by simp), HRR, exq, Lib.hid (laysAs_size _ _ (by simp)), Lib.hid ((laysAs_size _ _ rfl).exts exq), Lib.hid (OwnLists.none _ _ (by simp))⟩
  case round =>
    obtain ⟨k, m, kn, ended, v, rs, hk, hm, hm1, rfl, rfl, rfl, hkn, hrl, hrr, hE, hL, hL2, hO⟩ := hrel
    obtain ⟨X3, rfl⟩ := hE
    obtain ⟨nr, hnr⟩ : ∃ t, rs.length = t := ⟨_, rfl⟩
    have hown := hO.out.own
    rw [hnr] at hown hrl
    obtain ⟨qv, cv, hqv⟩ := owns_len hown
    subst hqv
    have l0 := LaysAs.cell hL.out 0 _ rfl
    have l1 := LaysAs.cell hL.out 1 _ rfl
    have nl := Lays.of_cell l0
    have f0 := laysAs_frz (i := 0) hL.out
    have f1 := laysAs_frz (i := 1) hL.out
    have m0 := LaysAs.cell hL2.out 0 _ rfl
    have m1 := LaysAs.cell hL2.out 1 _ rfl
    have ml := Lays.of_cell m0
    have g0 := laysAs_frz (i := 0) hL2.out
    have g1 := laysAs_frz (i := 1) hL2.out
    have HOWN := Lib.hid hown
    clear hown
    have HNR := Lib.hid hnr
    clear hnr
    rcases Nat.lt_or_ge k s.size with hlt | hge
    rotate_left
    · have hkz : k = s.size := by omega
      have w1 : ¬ (k : Int) < (s.size : Int) := by omega
      have hfin := hrr.out
      rw [hkz, ← tx_len, List.drop_length, rf_end] at hfin
      dsimp only at hfin
      cases ended
      · have hfin2 : R = ((0, []), (m : Int), 111) := by simpa using hfin
        have HFIN := Lib.hid hfin2
        clear hfin2
        clear hfin hkz
        go_wp2_with fail
        have D2 := hL2.out.exts (show (w.ext X3).Exts (w.ext X3) from exq)
        have D0 := LaysAs.cell (LaysAs.set (cs := [.int .u8 0, .slice none 0 0]) D2 (i := 0) (.int .u8 0)) 0 _ rfl
        have D1 := LaysAs.cell (laysAs_put2 (v0 := (.int .u8 0)) (v1 := (.slice none 0 0)) D2) 1 _ rfl
        have D3 := LaysAs.cell (laysAs_put2 (v0 := (.int .u8 0)) (v1 := (.slice none 0 0)) D2) 0 _ rfl
        refine bodyPost_ret (v := .tuple #[.agg #[(.int .u8 0), (.slice none 0 0)], .int .i64 m, .int .i64 111]) (by simp [results, Tryz.results14, go_sem, D0, D1, D3]) rfl ?_
        clear D0 D1 D2 D3
        exact ReadIs.none HFIN.out exq
      · have hsh := fun (W : World) (hE : (World.ext _ X3).Exts W) => r11_Sheet_any kn rs _ W (hO.out.exts hE).lists (by have := hrl.out; have := HNR.out; omega) ((HCOL.out.mono exq).mono hE) (by have := hkn.out; omega)
        have hfin2 : R = if sheetB (kn : Int) (rs.map Prod.fst) then (((kn : Int), rs.map Prod.fst), 0, 0) else ((0, []), 0, 110) := by simpa using hfin
        clear hfin hkz
        have HSH := Lib.hid hsh
        clear hsh
        cases hsb : sheetB (kn : Int) (rs.map Prod.fst)
        · rw [hsb] at hfin2
          have hfin3 : R = ((0, []), 0, 110) := hfin2
          have HFIN := Lib.hid hfin3
          clear hfin3
          have HSB := Lib.hid hsb
          clear hsb
          clear hfin2
          go_wp2_with (go_at_call 20; refine (HSH.out _ exq).mono ?_; rintro e w' ⟨rfl, X4, rfl⟩; rw [HSB.out])
          have D2 := hL2.out.exts (show (w.ext X3).Exts ((w.ext X3).ext X4) from exq)
          have D0 := LaysAs.cell (LaysAs.set (cs := [.int .u8 0, .slice none 0 0]) D2 (i := 0) (.int .u8 0)) 0 _ rfl
          have D1 := LaysAs.cell (laysAs_put2 (v0 := (.int .u8 0)) (v1 := (.slice none 0 0)) D2) 1 _ rfl
          have D3 := LaysAs.cell (laysAs_put2 (v0 := (.int .u8 0)) (v1 := (.slice none 0 0)) D2) 0 _ rfl
          refine bodyPost_ret (v := .tuple #[.agg #[(.int .u8 0), (.slice none 0 0)], .int .i64 0, .int .i64 110]) (by simp [results, Tryz.results14, go_sem, D0, D1, D3]) rfl ?_
          clear D0 D1 D2 D3
          exact ReadIs.none HFIN.out exq
        · rw [hsb] at hfin2
          have hfin3 : R = (((kn : Int), rs.map Prod.fst), 0, 0) := hfin2
          have HFIN := Lib.hid hfin3
          clear hfin3
          have HSB := Lib.hid hsb
          clear hsb
          clear hfin2
          go_wp2_with (go_at_call 20; refine (HSH.out _ exq).mono ?_; rintro e w' ⟨rfl, X4, rfl⟩; rw [HSB.out])
          have D2 := hL2.out.exts (show (w.ext X3).Exts ((w.ext X3).ext X4) from exq)
          have D0 := LaysAs.cell (LaysAs.set (cs := [.int .u8 0, .slice none 0 0]) D2 (i := 0) (.int .u8 kn)) 0 _ rfl
          have D1 := LaysAs.cell (laysAs_put2 (v0 := (.int .u8 kn)) (v1 := (.slice qv nr cv)) D2) 1 _ rfl
          have D3 := LaysAs.cell (laysAs_put2 (v0 := (.int .u8 kn)) (v1 := (.slice qv nr cv)) D2) 0 _ rfl
          refine bodyPost_ret (v := .tuple #[.agg #[(.int .u8 kn), (.slice qv nr cv)], .int .i64 0, .int .i64 0]) (by simp [results, Tryz.results14, go_sem, D0, D1, D3]) rfl ?_
          clear D0 D1 D2 D3
          rw [HFIN.out]
          exact ⟨exq, _, rs, rfl, (((hO.out.exts exq).put (by dsimp only; omega) _).put (by dsimp only; omega) _).lists, rfl⟩
    have w1 : (k : Int) < (s.size : Int) := by omega
    go_wp2_with fail
    go_loopw [9] (fun en wr => ∃ j : Nat, k ≤ j ∧ j ≤ s.size ∧ en = .int .i64 j ∧ Hid (∀ i, k ≤ i → i < j → s.data.toList[i]? ≠ some 10) ∧ wr = w.ext X3) (fun en _ => s.size - (intOf en).toNat)
    case atStart => exact ⟨k, by omega, by omega, rfl, Lib.hid fun i h1 h2 => by omega, rfl⟩
    case round =>
      obtain ⟨j, hj1, hj2, rfl, hno, rfl⟩ := hrel
      rcases Nat.lt_or_ge j s.size with hjs | hjs
      rotate_left
      · obtain rfl : j = s.size := by omega
        have hkj : ¬ (s.size : Int) < (s.size : Int) := by omega
        have hno10 : (10 : UInt8) ∉ s.data.toList.drop k := fun hm => by
          obtain ⟨i, hi, he⟩ := List.getElem_of_mem hm
          rw [List.length_drop, tx_len] at hi
          refine hno.out (k + i) (by omega) (by omega) ?_
          rw [← List.getElem?_drop, List.getElem?_eq_getElem (by rw [List.length_drop, tx_len]; omega), he]
        have hfin := hrr.out.trans (rf_rest (by rw [List.length_drop, tx_len]; omega) hno10)
        have HFIN := Lib.hid hfin
        clear hfin
        clear hno hno10 hkj
        go_wp2_with fail
        have D2 := hL2.out.exts (show (w.ext X3).Exts (w.ext X3) from exq)
        have D0 := LaysAs.cell (LaysAs.set (cs := [.int .u8 0, .slice none 0 0]) D2 (i := 0) (.int .u8 0)) 0 _ rfl
        have D1 := LaysAs.cell (laysAs_put2 (v0 := (.int .u8 0)) (v1 := (.slice none 0 0)) D2) 1 _ rfl
        have D3 := LaysAs.cell (laysAs_put2 (v0 := (.int .u8 0)) (v1 := (.slice none 0 0)) D2) 0 _ rfl
        refine bodyPost_ret (v := .tuple #[.agg #[(.int .u8 0), (.slice none 0 0)], .int .i64 m, .int .i64 111]) (by simp [results, Tryz.results14, go_sem, D0, D1, D3]) rfl ?_
        clear D0 D1 D2 D3
        exact ReadIs.none HFIN.out exq
      have j1 : (j : Int) < (s.size : Int) := by omega
      have gy := tx_get hjs
      obtain ⟨y, ey⟩ : ∃ y, s[j]'hjs = y := ⟨_, rfl⟩
      rw [ey] at gy
      by_cases hy : y = 10
      rotate_left
      · have y1 : ¬ ((y.toNat : Nat) : Int) = 10 := fun e => hy (UInt8.toNat.inj (by have : (10 : UInt8).toNat = 10 := rfl; omega))
        have y2 : (((y.toNat : Nat) : Int) != 10) = true := by rw [bne_iff_ne]; exact y1
        have hno2 : ∀ i, k ≤ i → i < j + 1 → s.data.toList[i]? ≠ some 10 := fun i h1 h2 => by
          rcases Nat.lt_or_ge i j with h | h
          · exact hno.out i h1 h
          · obtain rfl : i = j := by omega
            rw [gy]
            exact fun e => hy (Option.some.inj e)
        have HNO2 := Lib.hid hno2
        clear hno2
        clear hno gy
        go_wp2_with fail
        go_roundw
        case rel => exact ⟨j + 1, by omega, by omega, by go_num, HNO2, by first | trivial | rfl⟩
        case measure => simp [intOf]; omega
      subst hy
      have j2 : ((j : Int) == (s.size : Int)) = false := by rw [beq_eq_false_iff_ne]; omega
      have j3 : ¬ (j : Int) = (s.size : Int) := by omega
      have hix := idx_from hj1 hno.out (.inr gy) (by rw [tx_len]; omega)
      have hix2 : (s.data.toList.drop k).idxOf 10 = j - k := by omega
      obtain ⟨p, hp⟩ : ∃ p, s.extract k j = p := ⟨_, rfl⟩
      have hpd : (s.data.toList.drop k).take ((s.data.toList.drop k).idxOf 10) = p.data.toList := by rw [hix2, ← hp, Lib.extract_data]
      have hpz : p.size ≤ s.size := by rw [← tx_len p, ← hpd, List.length_take, List.length_drop, tx_len]; omega
      have hlt2 : (s.data.toList.drop k).idxOf 10 < (s.data.toList.drop k).length := by rw [hix2, List.length_drop, tx_len]; omega
      have herr : ∀ e, takeL m ⟨kn, rs.map Prod.fst, ended⟩ p.data.toList = .error e → R = ((0, []), (m : Int), e) := fun e h => hrr.out.trans (rf_err (i := 0) hlt2 hpd h)
      have hok : ∀ st', takeL m ⟨kn, rs.map Prod.fst, ended⟩ p.data.toList = .ok st' → R = readFrom (m + 1) st' (s.data.toList.drop (j + 1)) := fun st' h => hrr.out.trans (by rw [rf_ok hlt2 hpd h, List.drop_drop, hix2, show k + (j - k + 1) = j + 1 by omega])
      have HERR := Lib.hid herr
      clear herr
      have HOK := Lib.hid hok
      clear hok
      clear hno gy hix hix2 hpd hlt2 hrr
      cases ended
      rotate_left
      · have hfin := HERR.out _ (take_ended rfl)
        have HFIN := Lib.hid hfin
        clear hfin
        go_wp2_with fail
        have D2 := hL2.out.exts (show (w.ext X3).Exts (w.ext X3) from exq)
        have D0 := LaysAs.cell (LaysAs.set (cs := [.int .u8 0, .slice none 0 0]) D2 (i := 0) (.int .u8 0)) 0 _ rfl
        have D1 := LaysAs.cell (laysAs_put2 (v0 := (.int .u8 0)) (v1 := (.slice none 0 0)) D2) 1 _ rfl
        have D3 := LaysAs.cell (laysAs_put2 (v0 := (.int .u8 0)) (v1 := (.slice none 0 0)) D2) 0 _ rfl
        refine bodyPost_ret (v := .tuple #[.agg #[(.int .u8 0), (.slice none 0 0)], .int .i64 m, .int .i64 111]) (by simp [results, Tryz.results14, go_sem, D0, D1, D3]) rfl ?_
        clear D0 D1 D2 D3
        exact ReadIs.none HFIN.out exq
      have hpart := fun W => r11_parted_any p W (by have := H15.out; omega)
      have HPART := Lib.hid hpart
      clear hpart
      have hp15 : p.size ≤ 1500 := by have := H15.out; omega
      have HP15 := Lib.hid hp15
      clear hp15
      clear hpz
      cases hform : formB p.data.toList
      · have hfin := HERR.out _ (take_form hform)
        have HFIN := Lib.hid hfin
        clear hfin
        have HFORM := Lib.hid hform
        clear hform
        go_wp2_with (go_at_call 39; refine (HPART.out _).mono ?_; rintro e w' ⟨a, b, rfl, -, X4, rfl⟩; rw [HFORM.out])
        have D2 := hL2.out.exts (show (w.ext X3).Exts ((w.ext X3).ext X4) from exq)
        have D0 := LaysAs.cell (LaysAs.set (cs := [.int .u8 0, .slice none 0 0]) D2 (i := 0) (.int .u8 0)) 0 _ rfl
        have D1 := LaysAs.cell (laysAs_put2 (v0 := (.int .u8 0)) (v1 := (.slice none 0 0)) D2) 1 _ rfl
        have D3 := LaysAs.cell (laysAs_put2 (v0 := (.int .u8 0)) (v1 := (.slice none 0 0)) D2) 0 _ rfl
        refine bodyPost_ret (v := .tuple #[.agg #[(.int .u8 0), (.slice none 0 0)], .int .i64 m, .int .i64 111]) (by simp [results, Tryz.results14, go_sem, D0, D1, D3]) rfl ?_
        clear D0 D1 D2 D3
        exact ReadIs.none HFIN.out exq
      obtain ⟨A, hA⟩ : ∃ A : ByteArray, A.data.toList = bodyOf p.data.toList := ⟨⟨(bodyOf p.data.toList).toArray⟩, rfl⟩
      obtain ⟨B, hB⟩ : ∃ B : ByteArray, B.data.toList = p.data.toList.drop (p.size - 3) := ⟨⟨(p.data.toList.drop (p.size - 3)).toArray⟩, rfl⟩
      have hpt : ∀ W : World, Calls Tryz.prog 39 #[.string p] W fun e w' => e = .returned (.tuple #[.string A, .string B, .bool true]) ∧ W.Exts w' := fun W => (HPART.out W).mono (by
        rintro e w' ⟨a, b, rfl, h, hE⟩
        rw [hform]
        obtain ⟨h1, h2⟩ := h hform
        obtain rfl : a = A := tx_inj (h1.trans hA.symm)
        obtain rfl : b = B := tx_inj (h2.trans hB.symm)
        exact ⟨rfl, hE⟩)
      have hAz : A.size ≤ 1500 := by
        have h1 : A.size = (bodyOf p.data.toList).length := by rw [← hA, tx_len]
        unfold bodyOf at h1
        rw [List.length_take, tx_len] at h1
        have := HP15.out
        omega
      obtain ⟨tb, htb, htb3, hdg⟩ := digits_is _ (sumT_lt m (bodyOf p.data.toList))
      have hsum : ∀ W : World, Calls Tryz.prog 26 #[.int .i64 (m : Int), .string A] W fun e w' => e = .returned (.int .i64 ((sumT m (bodyOf p.data.toList) : Nat) : Int)) ∧ W.Exts w' := fun W => by
        rw [← hA]
        exact r11_sum_any m A W (by have := H15.out; omega) (by omega)
      have hseal : (B.toList == tb.toList) = sealB m p.data.toList := by
        unfold sealB
        rw [Lib.toList_data, Lib.toList_data, hB, htb, Bool.eq_iff_iff, beq_iff_eq, decide_eq_true_eq, tx_len]
      generalize sumT m (bodyOf p.data.toList) = sm at hsum hdg
      have hmid : midL m ⟨kn, rs.map Prod.fst, false⟩ (bodyOf p.data.toList) = none → R = ((0, []), (m : Int), 111) := fun h => HERR.out _ (take_mid rfl hform h)
      have hbadseal : ∀ st', midL m ⟨kn, rs.map Prod.fst, false⟩ (bodyOf p.data.toList) = some st' → (B.toList == tb.toList) = false → R = ((0, []), (m : Int), 112) := fun st' h h2 => HERR.out _ (take_seal rfl hform h (hseal ▸ h2))
      have hgood : ∀ st', midL m ⟨kn, rs.map Prod.fst, false⟩ (bodyOf p.data.toList) = some st' → (B.toList == tb.toList) = true → R = readFrom (m + 1) st' (s.data.toList.drop (j + 1)) := fun st' h h2 => HOK.out _ (take_ok rfl hform h (hseal ▸ h2))
      clear hform hB htb hseal
      have HPT := Lib.hid hpt
      clear hpt
      have HSUM := Lib.hid hsum
      clear hsum
      have HDG := Lib.hid hdg
      clear hdg
      have HMID := Lib.hid hmid
      clear hmid
      have HBAD := Lib.hid hbadseal
      clear hbadseal
      have HGOOD := Lib.hid hgood
      clear hgood
      have HA := Lib.hid hA
      clear hA
      have HAZ := Lib.hid hAz
      clear hAz
      clear HPART HERR HOK
      by_cases hm1' : m = 1
      · have em : ((m : Int) == 1) = true := by rw [beq_iff_eq]; omega
        have hmk := mid_kind (st := ⟨kn, rs.map Prod.fst, false⟩) (b := bodyOf p.data.toList)
        rw [← hm1'] at hmk
        obtain ⟨kz, hkz, hkz4⟩ : ∃ kz : Nat, kindOf (bodyOf p.data.toList) = (kz : Int) ∧ kz ≤ 4 := by
          unfold kindOf
          repeat' split
          · exact ⟨1, rfl, by omega⟩
          · exact ⟨2, rfl, by omega⟩
          · exact ⟨3, rfl, by omega⟩
          · exact ⟨4, rfl, by omega⟩
          · exact ⟨0, rfl, by omega⟩
        have hkd := fun (W : World) (hE : w.Exts W) => r11_kind_any A W (HWRD.out.mono hE)
        rw [HA.out, hkz] at hkd
        rw [hkz] at hmk
        have HKD := Lib.hid hkd
        clear hkd
        clear hkz
        rcases Nat.eq_zero_or_pos kz with h0 | h0
        · subst h0
          have hfin := HMID.out (by rw [hmk]; rfl)
          have HFIN := Lib.hid hfin
          clear hfin
          clear hmk hm1'
          go_wp2_with (first
            | (go_at_call 39; refine (HPT.out _).mono ?_; rintro e w' ⟨rfl, X4, rfl⟩)
            | (go_at_call 40; refine (HKD.out _ exq).mono ?_; rintro e w' ⟨rfl, X5, rfl⟩))
          have D2 := laysAs_other (hL2.out.exts (show (w.ext X3).Exts (((w.ext X3).ext X4).ext X5) from exq)) (a := ⟨w.heap.size + 1, 0, none⟩) (by dsimp only; omega) (.int .u8 0)
          have D0 := LaysAs.cell (LaysAs.set (cs := [.int .u8 0, .slice none 0 0]) D2 (i := 0) (.int .u8 0)) 0 _ rfl
          have D1 := LaysAs.cell (laysAs_put2 (v0 := (.int .u8 0)) (v1 := (.slice none 0 0)) D2) 1 _ rfl
          have D3 := LaysAs.cell (laysAs_put2 (v0 := (.int .u8 0)) (v1 := (.slice none 0 0)) D2) 0 _ rfl
          refine bodyPost_ret (v := .tuple #[.agg #[(.int .u8 0), (.slice none 0 0)], .int .i64 m, .int .i64 111]) (by simp [results, Tryz.results14, go_sem, D0, D1, D3]) rfl ?_
          clear D0 D1 D2 D3
          exact ReadIs.none HFIN.out exq
        have z0 : (0 : Int) < (kz : Int) := by omega
        rw [if_neg (by omega)] at hmk
        cases hss : (B.toList == tb.toList)
        · have hfin := HBAD.out _ hmk hss
          have HFIN := Lib.hid hfin
          clear hfin
          clear hmk hm1'
          go_wp2_with (first
            | (go_at_call 39; refine (HPT.out _).mono ?_; rintro e w' ⟨rfl, X4, rfl⟩)
            | (go_at_call 40; refine (HKD.out _ exq).mono ?_; rintro e w' ⟨rfl, X5, rfl⟩)
            | (go_at_call 26; refine (HSUM.out _).mono ?_; rintro e w' ⟨rfl, X6, rfl⟩)
            | (go_at_call 43; refine (HDG.out _).mono ?_; rintro e w' ⟨rfl, X7, rfl⟩))
          have D2 := (laysAs_other (hL2.out.exts (show (w.ext X3).Exts (((w.ext X3).ext X4).ext X5) from exq)) (a := ⟨w.heap.size + 1, 0, none⟩) (by dsimp only; omega) (.int .u8 kz)).exts (show World.Exts _ ((World.ext _ X6).ext X7) from exq)
          have D0 := LaysAs.cell (LaysAs.set (cs := [.int .u8 0, .slice none 0 0]) D2 (i := 0) (.int .u8 0)) 0 _ rfl
          have D1 := LaysAs.cell (laysAs_put2 (v0 := (.int .u8 0)) (v1 := (.slice none 0 0)) D2) 1 _ rfl
          have D3 := LaysAs.cell (laysAs_put2 (v0 := (.int .u8 0)) (v1 := (.slice none 0 0)) D2) 0 _ rfl
          refine bodyPost_ret (v := .tuple #[.agg #[(.int .u8 0), (.slice none 0 0)], .int .i64 m, .int .i64 112]) (by simp [results, Tryz.results14, go_sem, D0, D1, D3]) rfl ?_
          clear D0 D1 D2 D3
          exact ReadIs.none HFIN.out exq
        · have hfin := HGOOD.out _ hmk hss
          have hbt : B = tb := tx_inj (by rw [Lib.toList_data, Lib.toList_data, beq_iff_eq] at hss; exact hss)
          have HFIN := Lib.hid hfin
          clear hfin
          clear hmk hss HMID HBAD HGOOD hm1'
          subst hbt
          go_wp2_with (first
            | (go_at_call 39; refine (HPT.out _).mono ?_; rintro e w' ⟨rfl, X4, rfl⟩)
            | (go_at_call 40; refine (HKD.out _ exq).mono ?_; rintro e w' ⟨rfl, X5, rfl⟩)
            | (go_at_call 26; refine (HSUM.out _).mono ?_; rintro e w' ⟨rfl, X6, rfl⟩)
            | (go_at_call 43; refine (HDG.out _).mono ?_; rintro e w' ⟨rfl, X7, rfl⟩))
          have e35 := (show (w.ext X3).Exts (((w.ext X3).ext X4).ext X5) from exq)
          have e67 := (show World.Exts ((((w.ext X3).ext X4).ext X5).setCell ⟨w.heap.size + 1, 0, none⟩ (.int .u8 kz)) ((World.ext _ X6).ext X7) from exq)
          have ew := (show w.Exts ((World.ext _ X6).ext X7) from exq)
          have nL := (LaysAs.set (cs := [.int .u8 kn, _]) (hL.out.exts e35) (i := 0) (.int .u8 kz)).exts e67
          have nL2 := (laysAs_other (hL2.out.exts e35) (a := ⟨w.heap.size + 1, 0, none⟩) (by dsimp only; omega) (.int .u8 kz)).exts e67
          have nO := ((hO.out.exts e35).put (a := ⟨w.heap.size + 1, 0, none⟩) (by dsimp only; omega) (.int .u8 kz)).exts e67
          have nR : rs.length ≤ 100 := by rw [HNR.out]; exact hrl.out
          clear e35 e67
          have EW := Lib.hid ew
          clear ew
          have NL := Lib.hid nL
          clear nL
          have NL2 := Lib.hid nL2
          clear nL2
          have NO := Lib.hid nO
          clear nO
          have NR := Lib.hid nR
          clear nR
          go_roundw
          case rel => exact ⟨j + 1, m + 1, kz, false, _, rs, by omega, by omega, by omega, by go_num, by go_num, rfl, Lib.hid hkz4, NR, HFIN, EW.out, NL, NL2, NO⟩
          case measure => simp [intOf]; omega
      have em : ((m : Int) == 1) = false := by rw [beq_eq_false_iff_ne]; omega
      have em2 : ¬ (m : Int) = 1 := by omega
      have hA2 := HA.out
      obtain ⟨NB, hNB, hNBz, hnum⟩ := number_is nr (by have := hrl.out; omega)
      have HNUM := Lib.hid hnum
      clear hnum
      by_cases hE4 : 4 ≤ (bodyOf p.data.toList).length ∧ (bodyOf p.data.toList).take 4 = endW
      · have hmd := mid_end (m := m) (st := ⟨kn, rs.map Prod.fst, false⟩) hm1' hE4.2 hE4.1
        dsimp only at hmd
        rw [List.length_map, HNR.out] at hmd
        have hx4 : A.extract 0 4 = (⟨#[101, 110, 100, 32]⟩ : ByteArray) := tx_inj (by rw [Lib.extract_data, hA2]; exact hE4.2)
        have a4 : (3 : Int) < (A.size : Int) := by have := hE4.1; rw [← hA2, tx_len] at this; omega
        have a5 : (4 : Int) ≤ (A.size : Int) := by omega
        have hcat : ((⟨#[101, 110, 100, 32]⟩ : ByteArray) ++ NB).data.toList = endW ++ Lib.itoa nr := by rw [tx_append, hNB, itoa_pos (by omega), Int.toNat_natCast]; rfl
        by_cases hbe : bodyOf p.data.toList = endW ++ Lib.itoa nr
        rotate_left
        · have hfin := HMID.out (by rw [hmd, if_neg hbe])
          have hne : (A.toList == ((⟨#[101, 110, 100, 32]⟩ : ByteArray) ++ NB).toList) = false := by
            rw [Lib.toList_data, Lib.toList_data, hA2, hcat, beq_eq_false_iff_ne]
            exact hbe
          have HFIN := Lib.hid hfin
          clear hfin
          clear hmd hA2 hcat hNB hE4 hbe hm1' HMID HBAD HGOOD
          go_wp2_with (first
            | (go_at_call 39; refine (HPT.out _).mono ?_; rintro e w' ⟨rfl, X4, rfl⟩)
            | (go_at_call 41; refine (HNUM.out _).mono ?_; rintro e w' ⟨rfl, X5, rfl⟩))
          have D2 := hL2.out.exts (show (w.ext X3).Exts (((w.ext X3).ext X4).ext X5) from exq)
          have D0 := LaysAs.cell (LaysAs.set (cs := [.int .u8 0, .slice none 0 0]) D2 (i := 0) (.int .u8 0)) 0 _ rfl
          have D1 := LaysAs.cell (laysAs_put2 (v0 := (.int .u8 0)) (v1 := (.slice none 0 0)) D2) 1 _ rfl
          have D3 := LaysAs.cell (laysAs_put2 (v0 := (.int .u8 0)) (v1 := (.slice none 0 0)) D2) 0 _ rfl
          refine bodyPost_ret (v := .tuple #[.agg #[(.int .u8 0), (.slice none 0 0)], .int .i64 m, .int .i64 111]) (by simp [results, Tryz.results14, go_sem, D0, D1, D3]) rfl ?_
          clear D0 D1 D2 D3
          exact ReadIs.none HFIN.out exq
        · have hAN : (⟨#[101, 110, 100, 32]⟩ : ByteArray) ++ NB = A := tx_inj (by rw [hcat, hA2, hbe])
          rw [if_pos hbe] at hmd
          cases hss : (B.toList == tb.toList)
          · have hfin := HBAD.out _ hmd hss
            have HFIN := Lib.hid hfin
            clear hfin
            clear hmd hA2 hcat hNB hE4 hbe hm1' HMID HBAD HGOOD
            go_wp2_with (first
              | (go_at_call 39; refine (HPT.out _).mono ?_; rintro e w' ⟨rfl, X4, rfl⟩)
              | (go_at_call 41; refine (HNUM.out _).mono ?_; rintro e w' ⟨rfl, X5, rfl⟩)
              | (go_at_call 26; refine (HSUM.out _).mono ?_; rintro e w' ⟨rfl, X6, rfl⟩)
              | (go_at_call 43; refine (HDG.out _).mono ?_; rintro e w' ⟨rfl, X7, rfl⟩))
            have D2 := hL2.out.exts (show (w.ext X3).Exts (((((w.ext X3).ext X4).ext X5).ext X6).ext X7) from exq)
            have D0 := LaysAs.cell (LaysAs.set (cs := [.int .u8 0, .slice none 0 0]) D2 (i := 0) (.int .u8 0)) 0 _ rfl
            have D1 := LaysAs.cell (laysAs_put2 (v0 := (.int .u8 0)) (v1 := (.slice none 0 0)) D2) 1 _ rfl
            have D3 := LaysAs.cell (laysAs_put2 (v0 := (.int .u8 0)) (v1 := (.slice none 0 0)) D2) 0 _ rfl
            refine bodyPost_ret (v := .tuple #[.agg #[(.int .u8 0), (.slice none 0 0)], .int .i64 m, .int .i64 112]) (by simp [results, Tryz.results14, go_sem, D0, D1, D3]) rfl ?_
            clear D0 D1 D2 D3
            exact ReadIs.none HFIN.out exq
          · have hfin := HGOOD.out _ hmd hss
            have hbt : B = tb := tx_inj (by rw [Lib.toList_data, Lib.toList_data, beq_iff_eq] at hss; exact hss)
            have nR : rs.length ≤ 100 := by rw [HNR.out]; exact hrl.out
            have HFIN := Lib.hid hfin
            clear hfin
            have NR := Lib.hid nR
            clear nR
            clear hmd hss hA2 hcat hNB hE4 hbe hm1' HMID HBAD HGOOD
            subst hbt
            go_wp2_with (first
              | (go_at_call 39; refine (HPT.out _).mono ?_; rintro e w' ⟨rfl, X4, rfl⟩)
              | (go_at_call 41; refine (HNUM.out _).mono ?_; rintro e w' ⟨rfl, X5, rfl⟩)
              | (go_at_call 26; refine (HSUM.out _).mono ?_; rintro e w' ⟨rfl, X6, rfl⟩)
              | (go_at_call 43; refine (HDG.out _).mono ?_; rintro e w' ⟨rfl, X7, rfl⟩))
            have e37 := (show (w.ext X3).Exts (((((w.ext X3).ext X4).ext X5).ext X6).ext X7) from exq)
            have nL := hL.out.exts e37
            have nL2 := hL2.out.exts e37
            have nO := hO.out.exts e37
            have ew := (show w.Exts (((((w.ext X3).ext X4).ext X5).ext X6).ext X7) from exq)
            have EW := Lib.hid ew
            clear ew
            have NL := Lib.hid nL
            clear nL
            have NL2 := Lib.hid nL2
            clear nL2
            have NO := Lib.hid nO
            clear nO
            clear e37
            go_roundw
            case rel => exact ⟨j + 1, m + 1, kn, true, _, rs, by omega, by omega, by omega, by go_num, by go_num, rfl, hkn, NR, HFIN, EW.out, NL, NL2, NO⟩
            case measure => simp [intOf]; omega
      · have hmd := mid_row (m := m) (st := ⟨kn, rs.map Prod.fst, false⟩) (b := bodyOf p.data.toList) hm1' hE4
        dsimp only at hmd
        rw [List.length_map, HNR.out] at hmd
        have hrow := fun W : World => r11_row_any A W (by have := HAZ.out; omega)
        rw [hA2] at hrow
        have hbne : 4 ≤ A.size → ((A.extract 0 4).toList == [101, 110, 100, 32]) = false := fun h4 => by
          rw [Lib.toList_data, Lib.extract_data, hA2, beq_eq_false_iff_ne]
          exact fun e => hE4 ⟨by rw [← hA2, tx_len]; exact h4, e⟩
        generalize rowOf (bodyOf p.data.toList) = RO at hmd hrow
        have HROW := Lib.hid hrow
        clear hrow
        clear hA2 hE4 hNB hm1'
        cases RO with
        | none =>
          have hfin := HMID.out (by rw [hmd])
          have HFIN := Lib.hid hfin
          clear hfin
          clear hmd HMID HBAD HGOOD
          rcases Nat.lt_or_ge A.size 4 with h4 | h4
          · have a4 : ¬ (3 : Int) < (A.size : Int) := by omega
            go_wp2_with (first
              | (go_at_call 39; refine (HPT.out _).mono ?_; rintro e w' ⟨rfl, X4, rfl⟩)
              | (go_at_call 42; refine (HROW.out _).mono ?_; rintro e w' ⟨⟨X5, rfl⟩, ⟨_, rfl⟩ | ⟨_, _, hf, _⟩⟩; rotate_left; exact absurd hf (by simp))
              | (at_builtin; refine wpList_append1W (.tmp 73) (.tmp 75) elem_Slint rfl rfl rfl (ownsRow_exts HOWN.out exq) [.slice none 0 0] _ (by simp) rfl rfl ?h1 ?h2 ?h4 ?h3 ?_))
            case h1 => intro u hu; simp at hu; subst hu; rfl
            case h2 => have := hrl.out; omega
            case h4 => decide
            case h3 => exact Nat.le_trans hO.out.base_le (World.Exts.size exq)
            intro v' w' hown' happ
            have hE8 := happ.exts w exq (by omega)
            obtain ⟨q', c', hv'⟩ := owns_len hown'
            subst hv'
            have e5 := (show (w.ext X3).Exts (((w.ext X3).ext X4).ext X5) from exq)
            have hLS := (LaysAs.appended (hL.out.exts e5) happ (fun e => by have := (HOWN.out.lt _ e).1; omega)).1
            have hLS2 := (LaysAs.appended (hL2.out.exts e5) happ (fun e => by have := (HOWN.out.lt _ e).1; omega)).1
            clear l0 l1 nl f0 f1 m0 m1 ml g0 g1 e5
            obtain ⟨X7, rfl⟩ := hE8
            have l1 := LaysAs.cell hLS 1 _ rfl
            have nl := Lays.of_cell l1
            have f1 := laysAs_frz (i := 1) hLS
            have m0 := LaysAs.cell hLS2 0 _ rfl
            have m1 := LaysAs.cell hLS2 1 _ rfl
            have ml := Lays.of_cell m0
            have g0 := laysAs_frz (i := 0) hLS2
            have g1 := laysAs_frz (i := 1) hLS2
            have HLS := Lib.hid hLS
            clear hLS
            have HLS2 := Lib.hid hLS2
            clear hLS2
            clear happ hown'
            go_wp2_with fail
            have D2 := laysAs_other HLS2.out (a := ⟨w.heap.size + 1, 1, none⟩) (by dsimp only; omega) (.slice q' (nr + 1) c')
            have D0 := LaysAs.cell (LaysAs.set (cs := [.int .u8 0, .slice none 0 0]) D2 (i := 0) (.int .u8 0)) 0 _ rfl
            have D1 := LaysAs.cell (laysAs_put2 (v0 := (.int .u8 0)) (v1 := (.slice none 0 0)) D2) 1 _ rfl
            have D3 := LaysAs.cell (laysAs_put2 (v0 := (.int .u8 0)) (v1 := (.slice none 0 0)) D2) 0 _ rfl
            refine bodyPost_ret (v := .tuple #[.agg #[(.int .u8 0), (.slice none 0 0)], .int .i64 m, .int .i64 111]) (by simp [results, Tryz.results14, go_sem, D0, D1, D3]) rfl ?_
            clear D0 D1 D2 D3
            exact ReadIs.none HFIN.out exq
          · have a4 : (3 : Int) < (A.size : Int) := by omega
            have a5 : (4 : Int) ≤ (A.size : Int) := by omega
            have sE := hbne h4
            clear hbne
            go_wp2_with (first
              | (go_at_call 39; refine (HPT.out _).mono ?_; rintro e w' ⟨rfl, X4, rfl⟩)
              | (go_at_call 42; refine (HROW.out _).mono ?_; rintro e w' ⟨⟨X5, rfl⟩, ⟨_, rfl⟩ | ⟨_, _, hf, _⟩⟩; rotate_left; exact absurd hf (by simp))
              | (at_builtin; refine wpList_append1W (.tmp 73) (.tmp 75) elem_Slint rfl rfl rfl (ownsRow_exts HOWN.out exq) [.slice none 0 0] _ (by simp) rfl rfl ?i1 ?i2 ?i4 ?i3 ?_))
            case i1 => intro u hu; simp at hu; subst hu; rfl
            case i2 => have := hrl.out; omega
            case i4 => decide
            case i3 => exact Nat.le_trans hO.out.base_le (World.Exts.size exq)
            intro v' w' hown' happ
            have hE8 := happ.exts w exq (by omega)
            obtain ⟨q', c', hv'⟩ := owns_len hown'
            subst hv'
            have e5 := (show (w.ext X3).Exts (((w.ext X3).ext X4).ext X5) from exq)
            have hLS := (LaysAs.appended (hL.out.exts e5) happ (fun e => by have := (HOWN.out.lt _ e).1; omega)).1
            have hLS2 := (LaysAs.appended (hL2.out.exts e5) happ (fun e => by have := (HOWN.out.lt _ e).1; omega)).1
            clear l0 l1 nl f0 f1 m0 m1 ml g0 g1 e5
            obtain ⟨X7, rfl⟩ := hE8
            have l1 := LaysAs.cell hLS 1 _ rfl
            have nl := Lays.of_cell l1
            have f1 := laysAs_frz (i := 1) hLS
            have m0 := LaysAs.cell hLS2 0 _ rfl
            have m1 := LaysAs.cell hLS2 1 _ rfl
            have ml := Lays.of_cell m0
            have g0 := laysAs_frz (i := 0) hLS2
            have g1 := laysAs_frz (i := 1) hLS2
            have HLS := Lib.hid hLS
            clear hLS
            have HLS2 := Lib.hid hLS2
            clear hLS2
            clear happ hown'
            go_wp2_with fail
            have D2 := laysAs_other HLS2.out (a := ⟨w.heap.size + 1, 1, none⟩) (by dsimp only; omega) (.slice q' (nr + 1) c')
            have D0 := LaysAs.cell (LaysAs.set (cs := [.int .u8 0, .slice none 0 0]) D2 (i := 0) (.int .u8 0)) 0 _ rfl
            have D1 := LaysAs.cell (laysAs_put2 (v0 := (.int .u8 0)) (v1 := (.slice none 0 0)) D2) 1 _ rfl
            have D3 := LaysAs.cell (laysAs_put2 (v0 := (.int .u8 0)) (v1 := (.slice none 0 0)) D2) 0 _ rfl
            refine bodyPost_ret (v := .tuple #[.agg #[(.int .u8 0), (.slice none 0 0)], .int .i64 m, .int .i64 111]) (by simp [results, Tryz.results14, go_sem, D0, D1, D3]) rfl ?_
            clear D0 D1 D2 D3
            exact ReadIs.none HFIN.out exq
        | some l =>
          dsimp only at hmd
          rcases Nat.lt_or_ge nr 100 with h100 | h100
          rotate_left
          · have hfin := HMID.out (by rw [hmd, if_neg (by omega)])
            have n100 : decide ((nr : Int) < 100) = false := by rw [decide_eq_false_iff_not]; omega
            have n101 : ¬ (nr : Int) < 100 := by omega
            have HFIN := Lib.hid hfin
            clear hfin
            clear hmd HMID HBAD HGOOD
            rcases Nat.lt_or_ge A.size 4 with h4 | h4
            · have a4 : ¬ (3 : Int) < (A.size : Int) := by omega
              go_wp2_with (first
                | (go_at_call 39; refine (HPT.out _).mono ?_; rintro e w' ⟨rfl, X4, rfl⟩)
                | (go_at_call 42; refine (HROW.out _).mono ?_; rintro e w' ⟨⟨X5, rfl⟩, ⟨hf, _⟩ | ⟨l', vx, hf, rfl, hvx⟩⟩; exact absurd hf (by simp); obtain rfl := Option.some.inj hf; obtain ⟨qx, cx, hvx2⟩ := owns_len hvx; subst hvx2; have HVX := Lib.hid hvx; clear hvx)
                | (at_builtin; refine wpList_append1W (.tmp 73) (.tmp 75) elem_Slint rfl rfl rfl (ownsRow_exts HOWN.out exq) [.slice qx l.length cx] _ (by simp) rfl rfl ?j1 ?j2 ?j4 ?j3 ?_))
              case j1 => intro u hu; simp at hu; subst hu; rfl
              case j2 => have := hrl.out; omega
              case j4 => decide
              case j3 => exact Nat.le_trans hO.out.base_le (World.Exts.size exq)
              intro v' w' hown' happ
              have hE8 := happ.exts w exq (by omega)
              obtain ⟨q', c', hv'⟩ := owns_len hown'
              subst hv'
              have e5 := (show (w.ext X3).Exts (((w.ext X3).ext X4).ext X5) from exq)
              have hLS := (LaysAs.appended (hL.out.exts e5) happ (fun e => by have := (HOWN.out.lt _ e).1; omega)).1
              have hLS2 := (LaysAs.appended (hL2.out.exts e5) happ (fun e => by have := (HOWN.out.lt _ e).1; omega)).1
              clear l0 l1 nl f0 f1 m0 m1 ml g0 g1 e5
              obtain ⟨X7, rfl⟩ := hE8
              have l1 := LaysAs.cell hLS 1 _ rfl
              have nl := Lays.of_cell l1
              have f1 := laysAs_frz (i := 1) hLS
              have m0 := LaysAs.cell hLS2 0 _ rfl
              have m1 := LaysAs.cell hLS2 1 _ rfl
              have ml := Lays.of_cell m0
              have g0 := laysAs_frz (i := 0) hLS2
              have g1 := laysAs_frz (i := 1) hLS2
              have HLS := Lib.hid hLS
              clear hLS
              have HLS2 := Lib.hid hLS2
              clear hLS2
              clear happ hown'
              go_wp2_with fail
              have D2 := laysAs_other HLS2.out (a := ⟨w.heap.size + 1, 1, none⟩) (by dsimp only; omega) (.slice q' (nr + 1) c')
              have D0 := LaysAs.cell (LaysAs.set (cs := [.int .u8 0, .slice none 0 0]) D2 (i := 0) (.int .u8 0)) 0 _ rfl
              have D1 := LaysAs.cell (laysAs_put2 (v0 := (.int .u8 0)) (v1 := (.slice none 0 0)) D2) 1 _ rfl
              have D3 := LaysAs.cell (laysAs_put2 (v0 := (.int .u8 0)) (v1 := (.slice none 0 0)) D2) 0 _ rfl
              refine bodyPost_ret (v := .tuple #[.agg #[(.int .u8 0), (.slice none 0 0)], .int .i64 m, .int .i64 111]) (by simp [results, Tryz.results14, go_sem, D0, D1, D3]) rfl ?_
              clear D0 D1 D2 D3
              exact ReadIs.none HFIN.out exq
            · have a4 : (3 : Int) < (A.size : Int) := by omega
              have a5 : (4 : Int) ≤ (A.size : Int) := by omega
              have sE := hbne h4
              clear hbne
              go_wp2_with (first
                | (go_at_call 39; refine (HPT.out _).mono ?_; rintro e w' ⟨rfl, X4, rfl⟩)
                | (go_at_call 42; refine (HROW.out _).mono ?_; rintro e w' ⟨⟨X5, rfl⟩, ⟨hf, _⟩ | ⟨l', vx, hf, rfl, hvx⟩⟩; exact absurd hf (by simp); obtain rfl := Option.some.inj hf; obtain ⟨qx, cx, hvx2⟩ := owns_len hvx; subst hvx2; have HVX := Lib.hid hvx; clear hvx)
                | (at_builtin; refine wpList_append1W (.tmp 73) (.tmp 75) elem_Slint rfl rfl rfl (ownsRow_exts HOWN.out exq) [.slice qx l.length cx] _ (by simp) rfl rfl ?k1 ?k2 ?k4 ?k3 ?_))
              case k1 => intro u hu; simp at hu; subst hu; rfl
              case k2 => have := hrl.out; omega
              case k4 => decide
              case k3 => exact Nat.le_trans hO.out.base_le (World.Exts.size exq)
              intro v' w' hown' happ
              have hE8 := happ.exts w exq (by omega)
              obtain ⟨q', c', hv'⟩ := owns_len hown'
              subst hv'
              have e5 := (show (w.ext X3).Exts (((w.ext X3).ext X4).ext X5) from exq)
              have hLS := (LaysAs.appended (hL.out.exts e5) happ (fun e => by have := (HOWN.out.lt _ e).1; omega)).1
              have hLS2 := (LaysAs.appended (hL2.out.exts e5) happ (fun e => by have := (HOWN.out.lt _ e).1; omega)).1
              clear l0 l1 nl f0 f1 m0 m1 ml g0 g1 e5
              obtain ⟨X7, rfl⟩ := hE8
              have l1 := LaysAs.cell hLS 1 _ rfl
              have nl := Lays.of_cell l1
              have f1 := laysAs_frz (i := 1) hLS
              have m0 := LaysAs.cell hLS2 0 _ rfl
              have m1 := LaysAs.cell hLS2 1 _ rfl
              have ml := Lays.of_cell m0
              have g0 := laysAs_frz (i := 0) hLS2
              have g1 := laysAs_frz (i := 1) hLS2
              have HLS := Lib.hid hLS
              clear hLS
              have HLS2 := Lib.hid hLS2
              clear hLS2
              clear happ hown'
              go_wp2_with fail
              have D2 := laysAs_other HLS2.out (a := ⟨w.heap.size + 1, 1, none⟩) (by dsimp only; omega) (.slice q' (nr + 1) c')
              have D0 := LaysAs.cell (LaysAs.set (cs := [.int .u8 0, .slice none 0 0]) D2 (i := 0) (.int .u8 0)) 0 _ rfl
              have D1 := LaysAs.cell (laysAs_put2 (v0 := (.int .u8 0)) (v1 := (.slice none 0 0)) D2) 1 _ rfl
              have D3 := LaysAs.cell (laysAs_put2 (v0 := (.int .u8 0)) (v1 := (.slice none 0 0)) D2) 0 _ rfl
              refine bodyPost_ret (v := .tuple #[.agg #[(.int .u8 0), (.slice none 0 0)], .int .i64 m, .int .i64 111]) (by simp [results, Tryz.results14, go_sem, D0, D1, D3]) rfl ?_
              clear D0 D1 D2 D3
              exact ReadIs.none HFIN.out exq
          · rw [if_pos h100] at hmd
            have n100 : decide ((nr : Int) < 100) = true := by rw [decide_eq_true_eq]; omega
            have n101 : (nr : Int) < 100 := by omega
            cases hss : (B.toList == tb.toList)
            · have hfin := HBAD.out _ hmd hss
              have HFIN := Lib.hid hfin
              clear hfin
              clear hmd HMID HBAD HGOOD
              rcases Nat.lt_or_ge A.size 4 with h4 | h4
              · have a4 : ¬ (3 : Int) < (A.size : Int) := by omega
                clear hbne
                go_wp2_with (first
                  | (go_at_call 39; refine (HPT.out _).mono ?_; rintro e w' ⟨rfl, X4, rfl⟩)
                  | (go_at_call 42; refine (HROW.out _).mono ?_; rintro e w' ⟨⟨X5, rfl⟩, ⟨hf, _⟩ | ⟨l', vx, hf, rfl, hvx⟩⟩; exact absurd hf (by simp); obtain rfl := Option.some.inj hf; obtain ⟨qx, cx, hvx2⟩ := owns_len hvx; subst hvx2; have HVX := Lib.hid hvx; clear hvx)
                  | (at_builtin; refine wpList_append1W (.tmp 73) (.tmp 75) elem_Slint rfl rfl rfl (ownsRow_exts HOWN.out exq) [.slice qx l.length cx] _ (by simp) rfl rfl ?l1 ?l2 ?l4 ?l3 ?_))
                case l1 => intro u hu; simp at hu; subst hu; rfl
                case l2 => have := hrl.out; omega
                case l4 => decide
                case l3 => exact Nat.le_trans hO.out.base_le (World.Exts.size exq)
                intro v' w' hown' happ
                have hE8 := happ.exts w exq (by omega)
                obtain ⟨q', c', hv'⟩ := owns_len hown'
                subst hv'
                have e5 := (show (w.ext X3).Exts (((w.ext X3).ext X4).ext X5) from exq)
                have hLS := (LaysAs.appended (hL.out.exts e5) happ (fun e => by have := (HOWN.out.lt _ e).1; omega)).1
                have hLS2 := (LaysAs.appended (hL2.out.exts e5) happ (fun e => by have := (HOWN.out.lt _ e).1; omega)).1
                clear l0 l1 nl f0 f1 m0 m1 ml g0 g1 e5
                obtain ⟨X7, rfl⟩ := hE8
                have l1 := LaysAs.cell hLS 1 _ rfl
                have nl := Lays.of_cell l1
                have f1 := laysAs_frz (i := 1) hLS
                have m0 := LaysAs.cell hLS2 0 _ rfl
                have m1 := LaysAs.cell hLS2 1 _ rfl
                have ml := Lays.of_cell m0
                have g0 := laysAs_frz (i := 0) hLS2
                have g1 := laysAs_frz (i := 1) hLS2
                have HLS := Lib.hid hLS
                clear hLS
                have HLS2 := Lib.hid hLS2
                clear hLS2
                clear happ hown'
                go_wp2_with (first
                  | (go_at_call 26; refine (HSUM.out _).mono ?_; rintro e w' ⟨rfl, X8, rfl⟩)
                  | (go_at_call 43; refine (HDG.out _).mono ?_; rintro e w' ⟨rfl, X9, rfl⟩))
                have D2 := (laysAs_other HLS2.out (a := ⟨w.heap.size + 1, 1, none⟩) (by dsimp only; omega) (.slice q' (nr + 1) c')).exts (show World.Exts _ ((World.ext _ X8).ext X9) from exq)
                have D0 := LaysAs.cell (LaysAs.set (cs := [.int .u8 0, .slice none 0 0]) D2 (i := 0) (.int .u8 0)) 0 _ rfl
                have D1 := LaysAs.cell (laysAs_put2 (v0 := (.int .u8 0)) (v1 := (.slice none 0 0)) D2) 1 _ rfl
                have D3 := LaysAs.cell (laysAs_put2 (v0 := (.int .u8 0)) (v1 := (.slice none 0 0)) D2) 0 _ rfl
                refine bodyPost_ret (v := .tuple #[.agg #[(.int .u8 0), (.slice none 0 0)], .int .i64 m, .int .i64 112]) (by simp [results, Tryz.results14, go_sem, D0, D1, D3]) rfl ?_
                clear D0 D1 D2 D3
                exact ReadIs.none HFIN.out exq
              · have a4 : (3 : Int) < (A.size : Int) := by omega
                have a5 : (4 : Int) ≤ (A.size : Int) := by omega
                have sE := hbne h4
                clear hbne
                go_wp2_with (first
                  | (go_at_call 39; refine (HPT.out _).mono ?_; rintro e w' ⟨rfl, X4, rfl⟩)
                  | (go_at_call 42; refine (HROW.out _).mono ?_; rintro e w' ⟨⟨X5, rfl⟩, ⟨hf, _⟩ | ⟨l', vx, hf, rfl, hvx⟩⟩; exact absurd hf (by simp); obtain rfl := Option.some.inj hf; obtain ⟨qx, cx, hvx2⟩ := owns_len hvx; subst hvx2; have HVX := Lib.hid hvx; clear hvx)
                  | (at_builtin; refine wpList_append1W (.tmp 73) (.tmp 75) elem_Slint rfl rfl rfl (ownsRow_exts HOWN.out exq) [.slice qx l.length cx] _ (by simp) rfl rfl ?m1 ?m2 ?m4 ?m3 ?_))
                case m1 => intro u hu; simp at hu; subst hu; rfl
                case m2 => have := hrl.out; omega
                case m4 => decide
                case m3 => exact Nat.le_trans hO.out.base_le (World.Exts.size exq)
                intro v' w' hown' happ
                have hE8 := happ.exts w exq (by omega)
                obtain ⟨q', c', hv'⟩ := owns_len hown'
                subst hv'
                have e5 := (show (w.ext X3).Exts (((w.ext X3).ext X4).ext X5) from exq)
                have hLS := (LaysAs.appended (hL.out.exts e5) happ (fun e => by have := (HOWN.out.lt _ e).1; omega)).1
                have hLS2 := (LaysAs.appended (hL2.out.exts e5) happ (fun e => by have := (HOWN.out.lt _ e).1; omega)).1
                clear l0 l1 nl f0 f1 m0 m1 ml g0 g1 e5
                obtain ⟨X7, rfl⟩ := hE8
                have l1 := LaysAs.cell hLS 1 _ rfl
                have nl := Lays.of_cell l1
                have f1 := laysAs_frz (i := 1) hLS
                have m0 := LaysAs.cell hLS2 0 _ rfl
                have m1 := LaysAs.cell hLS2 1 _ rfl
                have ml := Lays.of_cell m0
                have g0 := laysAs_frz (i := 0) hLS2
                have g1 := laysAs_frz (i := 1) hLS2
                have HLS := Lib.hid hLS
                clear hLS
                have HLS2 := Lib.hid hLS2
                clear hLS2
                clear happ hown'
                go_wp2_with (first
                  | (go_at_call 26; refine (HSUM.out _).mono ?_; rintro e w' ⟨rfl, X8, rfl⟩)
                  | (go_at_call 43; refine (HDG.out _).mono ?_; rintro e w' ⟨rfl, X9, rfl⟩))
                have D2 := (laysAs_other HLS2.out (a := ⟨w.heap.size + 1, 1, none⟩) (by dsimp only; omega) (.slice q' (nr + 1) c')).exts (show World.Exts _ ((World.ext _ X8).ext X9) from exq)
                have D0 := LaysAs.cell (LaysAs.set (cs := [.int .u8 0, .slice none 0 0]) D2 (i := 0) (.int .u8 0)) 0 _ rfl
                have D1 := LaysAs.cell (laysAs_put2 (v0 := (.int .u8 0)) (v1 := (.slice none 0 0)) D2) 1 _ rfl
                have D3 := LaysAs.cell (laysAs_put2 (v0 := (.int .u8 0)) (v1 := (.slice none 0 0)) D2) 0 _ rfl
                refine bodyPost_ret (v := .tuple #[.agg #[(.int .u8 0), (.slice none 0 0)], .int .i64 m, .int .i64 112]) (by simp [results, Tryz.results14, go_sem, D0, D1, D3]) rfl ?_
                clear D0 D1 D2 D3
                exact ReadIs.none HFIN.out exq
            · have hfin := HGOOD.out _ hmd hss
              have hbt : B = tb := tx_inj (by rw [Lib.toList_data, Lib.toList_data, beq_iff_eq] at hss; exact hss)
              have HFIN := Lib.hid hfin
              clear hfin
              clear hmd hss HMID HBAD HGOOD
              subst hbt
              rcases Nat.lt_or_ge A.size 4 with h4 | h4
              · have a4 : ¬ (3 : Int) < (A.size : Int) := by omega
                clear hbne
                go_wp2_with (first
                  | (go_at_call 39; refine (HPT.out _).mono ?_; rintro e w' ⟨rfl, X4, rfl⟩)
                  | (go_at_call 42; refine (HROW.out _).mono ?_; rintro e w' ⟨⟨X5, rfl⟩, ⟨hf, _⟩ | ⟨l', vx, hf, rfl, hvx⟩⟩; exact absurd hf (by simp); obtain rfl := Option.some.inj hf; obtain ⟨qx, cx, hvx2⟩ := owns_len hvx; subst hvx2; have HVX := Lib.hid hvx; clear hvx)
                  | (at_builtin; refine wpList_append1W (.tmp 73) (.tmp 75) elem_Slint rfl rfl rfl (ownsRow_exts HOWN.out exq) [.slice qx l.length cx] _ (by simp) rfl rfl ?n1 ?n2 ?n4 ?n3 ?_))
                case n1 => intro u hu; simp at hu; subst hu; rfl
                case n2 => have := hrl.out; omega
                case n4 => decide
                case n3 => exact Nat.le_trans hO.out.base_le (World.Exts.size exq)
                intro v' w' hown' happ
                have hE8 := happ.exts w exq (by omega)
                obtain ⟨q', c', hv'⟩ := owns_len hown'
                subst hv'
                have e5 := (show (w.ext X3).Exts (((w.ext X3).ext X4).ext X5) from exq)
                have hLS := (LaysAs.appended (hL.out.exts e5) happ (fun e => by have := (HOWN.out.lt _ e).1; omega)).1
                have hLS2 := (LaysAs.appended (hL2.out.exts e5) happ (fun e => by have := (HOWN.out.lt _ e).1; omega)).1
                clear l0 l1 nl f0 f1 m0 m1 ml g0 g1 e5
                obtain ⟨X7, rfl⟩ := hE8
                have l1 := LaysAs.cell hLS 1 _ rfl
                have nl := Lays.of_cell l1
                have f1 := laysAs_frz (i := 1) hLS
                have m0 := LaysAs.cell hLS2 0 _ rfl
                have m1 := LaysAs.cell hLS2 1 _ rfl
                have ml := Lays.of_cell m0
                have g0 := laysAs_frz (i := 0) hLS2
                have g1 := laysAs_frz (i := 1) hLS2
                have HLS := Lib.hid hLS
                clear hLS
                have HLS2 := Lib.hid hLS2
                clear hLS2
                have hhr := OwnLists.add (hO.out.exts (show (w.ext X3).Exts (((w.ext X3).ext X4).ext X5) from exq)) (l := l) (vp := .slice qx l.length cx) (by rw [HNR.out]; exact hown') happ (IsRow.of_owns HVX.out (fun _ _ => rfl)) (fun b e => by
                  obtain ⟨h1, h2⟩ := HVX.out.lt _ e
                  have h3 := (World.Exts.size (show (w.ext X3).Exts ((w.ext X3).ext X4) from exq))
                  exact ⟨Nat.le_trans hO.out.base_le (Nat.le_trans h3 h1), h2, fun e2 => by have := (HOWN.out.lt _ e2).2; omega⟩) happ.size
                have HHR := Lib.hid hhr
                clear hhr
                clear happ hown'
                go_wp2_with (first
                  | (go_at_call 26; refine (HSUM.out _).mono ?_; rintro e w' ⟨rfl, X8, rfl⟩)
                  | (go_at_call 43; refine (HDG.out _).mono ?_; rintro e w' ⟨rfl, X9, rfl⟩))
                have e89 := (show World.Exts ((w.ext X7).setCell ⟨w.heap.size + 1, 1, none⟩ (.slice q' (nr + 1) c')) ((World.ext _ X8).ext X9) from exq)
                have ew := (show w.Exts ((World.ext _ X8).ext X9) from exq)
                have nL := (LaysAs.set (cs := [.int .u8 kn, _]) HLS.out (i := 1) (.slice q' (nr + 1) c')).exts e89
                have nL2 := (laysAs_other HLS2.out (a := ⟨w.heap.size + 1, 1, none⟩) (by dsimp only; omega) (.slice q' (nr + 1) c')).exts e89
                have nO := (HHR.out.put (a := ⟨w.heap.size + 1, 1, none⟩) (by dsimp only; omega) (.slice q' (nr + 1) c')).exts e89
                have nR : (rs ++ [(l, Value.slice qx l.length cx)]).length ≤ 100 := by rw [List.length_append, HNR.out]; simp; omega
                have nF : R = readFrom (m + 1) ⟨kn, (rs ++ [(l, Value.slice qx l.length cx)]).map Prod.fst, false⟩ (s.data.toList.drop (j + 1)) := by rw [List.map_append]; exact HFIN.out
                have EW := Lib.hid ew
                clear ew
                have NL := Lib.hid nL
                clear nL
                have NL2 := Lib.hid nL2
                clear nL2
                have NO := Lib.hid nO
                clear nO
                have NR := Lib.hid nR
                clear nR
                have NF := Lib.hid nF
                clear nF
                clear e89
                go_roundw
                case rel => exact ⟨j + 1, m + 1, kn, false, _, _, by omega, by omega, by omega, by go_num, by go_num, rfl, hkn, NR, NF, EW.out, NL, NL2, NO⟩
                case measure => simp [intOf]; omega
              · have a4 : (3 : Int) < (A.size : Int) := by omega
                have a5 : (4 : Int) ≤ (A.size : Int) := by omega
                have sE := hbne h4
                clear hbne
                go_wp2_with (first
                  | (go_at_call 39; refine (HPT.out _).mono ?_; rintro e w' ⟨rfl, X4, rfl⟩)
                  | (go_at_call 42; refine (HROW.out _).mono ?_; rintro e w' ⟨⟨X5, rfl⟩, ⟨hf, _⟩ | ⟨l', vx, hf, rfl, hvx⟩⟩; exact absurd hf (by simp); obtain rfl := Option.some.inj hf; obtain ⟨qx, cx, hvx2⟩ := owns_len hvx; subst hvx2; have HVX := Lib.hid hvx; clear hvx)
                  | (at_builtin; refine wpList_append1W (.tmp 73) (.tmp 75) elem_Slint rfl rfl rfl (ownsRow_exts HOWN.out exq) [.slice qx l.length cx] _ (by simp) rfl rfl ?o1 ?o2 ?o4 ?o3 ?_))
                case o1 => intro u hu; simp at hu; subst hu; rfl
                case o2 => have := hrl.out; omega
                case o4 => decide
                case o3 => exact Nat.le_trans hO.out.base_le (World.Exts.size exq)
                intro v' w' hown' happ
                have hE8 := happ.exts w exq (by omega)
                obtain ⟨q', c', hv'⟩ := owns_len hown'
                subst hv'
                have e5 := (show (w.ext X3).Exts (((w.ext X3).ext X4).ext X5) from exq)
                have hLS := (LaysAs.appended (hL.out.exts e5) happ (fun e => by have := (HOWN.out.lt _ e).1; omega)).1
                have hLS2 := (LaysAs.appended (hL2.out.exts e5) happ (fun e => by have := (HOWN.out.lt _ e).1; omega)).1
                clear l0 l1 nl f0 f1 m0 m1 ml g0 g1 e5
                obtain ⟨X7, rfl⟩ := hE8
                have l1 := LaysAs.cell hLS 1 _ rfl
                have nl := Lays.of_cell l1
                have f1 := laysAs_frz (i := 1) hLS
                have m0 := LaysAs.cell hLS2 0 _ rfl
                have m1 := LaysAs.cell hLS2 1 _ rfl
                have ml := Lays.of_cell m0
                have g0 := laysAs_frz (i := 0) hLS2
                have g1 := laysAs_frz (i := 1) hLS2
                have HLS := Lib.hid hLS
                clear hLS
                have HLS2 := Lib.hid hLS2
                clear hLS2
                have hhr := OwnLists.add (hO.out.exts (show (w.ext X3).Exts (((w.ext X3).ext X4).ext X5) from exq)) (l := l) (vp := .slice qx l.length cx) (by rw [HNR.out]; exact hown') happ (IsRow.of_owns HVX.out (fun _ _ => rfl)) (fun b e => by
                  obtain ⟨h1, h2⟩ := HVX.out.lt _ e
                  have h3 := (World.Exts.size (show (w.ext X3).Exts ((w.ext X3).ext X4) from exq))
                  exact ⟨Nat.le_trans hO.out.base_le (Nat.le_trans h3 h1), h2, fun e2 => by have := (HOWN.out.lt _ e2).2; omega⟩) happ.size
                have HHR := Lib.hid hhr
                clear hhr
                clear happ hown'
                go_wp2_with (first
                  | (go_at_call 26; refine (HSUM.out _).mono ?_; rintro e w' ⟨rfl, X8, rfl⟩)
                  | (go_at_call 43; refine (HDG.out _).mono ?_; rintro e w' ⟨rfl, X9, rfl⟩))
                have e89 := (show World.Exts ((w.ext X7).setCell ⟨w.heap.size + 1, 1, none⟩ (.slice q' (nr + 1) c')) ((World.ext _ X8).ext X9) from exq)
                have ew := (show w.Exts ((World.ext _ X8).ext X9) from exq)
                have nL := (LaysAs.set (cs := [.int .u8 kn, _]) HLS.out (i := 1) (.slice q' (nr + 1) c')).exts e89
                have nL2 := (laysAs_other HLS2.out (a := ⟨w.heap.size + 1, 1, none⟩) (by dsimp only; omega) (.slice q' (nr + 1) c')).exts e89
                have nO := (HHR.out.put (a := ⟨w.heap.size + 1, 1, none⟩) (by dsimp only; omega) (.slice q' (nr + 1) c')).exts e89
                have nR : (rs ++ [(l, Value.slice qx l.length cx)]).length ≤ 100 := by rw [List.length_append, HNR.out]; simp; omega
                have nF : R = readFrom (m + 1) ⟨kn, (rs ++ [(l, Value.slice qx l.length cx)]).map Prod.fst, false⟩ (s.data.toList.drop (j + 1)) := by rw [List.map_append]; exact HFIN.out
                have EW := Lib.hid ew
                clear ew
                have NL := Lib.hid nL
                clear nL
                have NL2 := Lib.hid nL2
                clear nL2
                have NO := Lib.hid nO
                clear nO
                have NR := Lib.hid nR
                clear nR
                have NF := Lib.hid nF
                clear nF
                clear e89
                go_roundw
                case rel => exact ⟨j + 1, m + 1, kn, false, _, _, by omega, by omega, by omega, by go_num, by go_num, rfl, hkn, NR, NF, EW.out, NL, NL2, NO⟩
                case measure => simp [intOf]; omega
end Go.Proofs.YtiidkbjckbkjgaaGreatDoor
