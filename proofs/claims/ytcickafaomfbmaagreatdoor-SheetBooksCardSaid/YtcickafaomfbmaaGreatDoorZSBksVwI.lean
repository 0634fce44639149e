/-
  Several texts in one: see the heads of its parts.
-/

import Derived.Test.YtcickafaomfbmaaGreatDoorZSBksVnP
import Derived.Test.YtcickafaomfbmaaGreatDoorZSBksVeX
import Derived.Test.YtcickafaomfbmaaGreatDoorZSBksYaZ
import Derived.Test.YtcickafaomfbmaaGreatDoorZSBksYcD
import Derived.Test.YtcickafaomfbmaaGreatDoorZSBksIuQ
import Derived.Deep.DeepCutAuto
import Derived.Lib.ItoaWalk
import Derived.Laws.IdiomStrings
import Derived.Lib.ConvBytes
import Derived.Test.YtcickafaomfbmaaGreatDoorZSBksYfG
import Derived.BigRegion
/-
  Walks of the reference of sheets: what is put in a line.
-/
namespace Go.Proofs.YtcickafaomfbmaaGreatDoor
open Go.RowKit Kr
set_option linter.unusedSimpArgs false
set_option linter.unusedVariables false
end Go.Proofs.YtcickafaomfbmaaGreatDoor

/-
  Walks of package sheet: a line with its lost byte put in.
-/
namespace Go.Proofs.YtcickafaomfbmaaGreatDoor
open Go.RowKit Kr
set_option linter.unusedSimpArgs false
set_option linter.unusedVariables false

/-- Bytes in a block of their own. -/
structure BytesAt (W : World) (b : Nat) (l : List UInt8) : Prop where
  c : ∀ (j : Nat) (y : UInt8), l[j]? = some y → W.cell? ⟨b, j, none⟩ = some (.int .u8 (y.toNat : Int))
  f : ∀ j, j < l.length → W.frozen? ⟨b, j, none⟩ = false
  lt : b < W.heap.size
theorem BytesAt.exts {W W' : World} {b : Nat} {l : List UInt8} (h : BytesAt W b l) (hE : W.Exts W') : BytesAt W' b l := by
  have hb := hE.below.block b h.lt
  refine ⟨fun j y hy => hE.cell (h.c j y hy), fun j hj => ?_, Nat.lt_of_lt_of_le h.lt hE.size⟩
  have := h.f j hj
  unfold World.frozen? at this ⊢
  rw [hb]
  exact this
theorem BytesAt.set {W : World} {b : Nat} {l : List UInt8} (h : BytesAt W b l) (i : Nat) (y : UInt8) : BytesAt (W.setCell ⟨b, i, none⟩ (.int .u8 (y.toNat : Int))) b (l.set i y) := by
  refine ⟨fun j z hz => ?_, fun j hj => ?_, by simpa using h.lt⟩
  · by_cases e : i = j
    · subst e
      have hlt : i < l.length := by have := (List.getElem?_eq_some_iff.1 hz).1; rwa [List.length_set] at this
      rw [List.getElem?_set_self hlt] at hz
      cases hz
      have h1 := h.c i (l[i]'hlt) (List.getElem?_eq_getElem hlt)
      exact World.cell?_setCell_same _ _ _ (by rw [h1])
    · rw [List.getElem?_set_ne e] at hz
      rw [World.cell?_setCell_other W _ _ _ (fun e2 => e (by cases e2; rfl))]
      exact h.c j z hz
  · rw [List.length_set] at hj
    have := h.f j hj
    simpa using this
theorem BytesAt.other {W : World} {b : Nat} {l : List UInt8} (h : BytesAt W b l) {a : Addr} (hne : a.block ≠ b) (u : Value) : BytesAt (W.setCell a u) b l :=
  ⟨fun j y hy => by rw [World.cell?_setCell_other W _ _ _ (fun e => hne (by rw [e]))]; exact h.c j y hy, fun j hj => by have := h.f j hj; simpa using this, by simpa using h.lt⟩
/-- A part of bytes as a string. -/
theorem bytes_string {W : World} {b : Nat} {l : List UInt8} (h : BytesAt W b l) (k cap : Nat) (hk : k ≤ l.length) :
    (convert 59 9 (.slice (some ⟨b, 0, none⟩) k cap)).run Tryz.prog W = .ok (.string ⟨(l.take k).toArray⟩) W := by
  have hl : (l.take k).length = k := by rw [List.length_take]; omega
  have h1 := run_convert_bytes_back (P := Tryz.prog) W 59 9 5 ⟨b, 0, none⟩ cap (l.take k) Tryz.underlying59 Tryz.underlying5 Tryz.underlying9 (fun j hj => by
    have h2 := h.c j ((l.take k)[j]) (by rw [hl] at hj; rw [List.getElem_take, List.getElem?_eq_getElem (by omega)])
    have h3 : (⟨b, 0, none⟩ : Addr).add j = ⟨b, j, none⟩ := by unfold Addr.add; split <;> simp_all
    rw [h3]
    exact h2)
  rw [hl] at h1
  exact h1

set_option maxRecDepth 4000 in
set_option maxHeartbeats 4000000 in
theorem sheet_put_1_any (k n m i cap b7 b6 b2 bb : Nat) (l : List UInt8) (w0 W : World) (hw : LibAt w0) (hE0 : w0.Exts W) (hl : l.length = m + 4) (hm : m ≤ 80) (hi : i < m + 4) (hk : 32 ≤ k ∧ k < 127) (hn : n ≤ 5000) (hcap : m + 4 ≤ cap)
    (h7 : LaysAs W b7 (.cells [.slice (some ⟨bb, 0, none⟩) (m + 4) cap].toArray 59 (0, 0))) (h6 : LaysAs W b6 (.cells [.int .i64 i].toArray 3 (0, 0))) (h2 : LaysAs W b2 (.cells [.int .i64 n].toArray 3 (0, 0))) (hB : BytesAt W bb l)
    (n7 : bb ≠ b7) (n6 : bb ≠ b6) (n2 : bb ≠ b2) (hbb : w0.heap.size ≤ bb) :
    Calls Tryz.prog 101 #[.int .i64 (k : Int), .pointer (some ⟨b7, 0, none⟩), .pointer (some ⟨b6, 0, none⟩), .pointer (some ⟨b2, 0, none⟩)] W fun e W' => e = .returned (.bool (putOk n l i k)) ∧ (W.setCell ⟨bb, i, none⟩ (.int .u8 (k : Int))).Exts W' := by
  obtain ⟨R, hR⟩ : ∃ r, putOk n l i k = r := ⟨_, rfl⟩
  rw [hR]
  have hkn : (UInt8.ofNat k).toNat = k := UInt8.toNat_ofNat_of_lt' (by simp [UInt8.size]; omega)
  have a7 := LaysAs.cell h7 0 _ rfl
  have a6 := LaysAs.cell h6 0 _ rfl
  have a2 := LaysAs.cell h2 0 _ rfl
  have l7 := Lays.of_cell a7
  have l6 := Lays.of_cell a6
  have l2 := Lays.of_cell a2
  obtain ⟨y, hy⟩ := some_of_lt (xs := l) (k := i) (by omega)
  have ab := hB.c i y hy
  have fb := hB.f i (by omega)
  have lbb := Lays.of_cell ab
  have hV := hB.set i (UInt8.ofNat k)
  rw [hkn] at hV
  have g7 := laysAs_else h7 (a := ⟨bb, i, none⟩) n7 (.int .u8 (k : Int))
  have g6 := laysAs_else h6 (a := ⟨bb, i, none⟩) n6 (.int .u8 (k : Int))
  have g2 := laysAs_else h2 (a := ⟨bb, i, none⟩) n2 (.int .u8 (k : Int))
  have hEV : w0.Exts (W.setCell ⟨bb, i, none⟩ (.int .u8 (k : Int))) := hE0.setCell (by dsimp only; omega) _
  obtain ⟨l', hl'⟩ : ∃ l', l.set i (UInt8.ofNat k) = l' := ⟨_, rfl⟩
  have hll : l'.length = m + 4 := by rw [← hl', List.length_set, hl]
  rw [hl'] at hV
  have hput : R = (decide (k ≠ 63) && decide (sealT n (l'.take m) = l')) := by
    rw [← hR]
    unfold putOk
    rw [hl', hl, Nat.add_sub_cancel]
  obtain ⟨tb, htb, hse⟩ : ∃ tb : ByteArray, tb.data.toList = sealT n (l'.take m) ∧ ∀ W' : World, w0.Exts W' → Calls Tryz.prog 32 #[.int .i64 (n : Int), .string ⟨(l'.take m).toArray⟩] W' fun e w' => e = .returned (.string tb) ∧ W'.Exts w' := by
    refine ⟨⟨(sealT n (l'.take m)).toArray⟩, rfl, fun W' hE => (sheet_sealed_any n _ W' hn (by rw [← tx_len]; show (l'.take m).length ≤ 6000; rw [List.length_take]; omega) (hw.mono hE)).mono ?_⟩
    rintro e w' ⟨r, rfl, hr, hE⟩
    obtain rfl : r = ⟨(sealT n (l'.take m)).toArray⟩ := tx_inj hr
    exact ⟨rfl, hE⟩
  have hcmp : (tb.toList == (⟨l'.toArray⟩ : ByteArray).toList) = decide (sealT n (l'.take m) = l') := by
    rw [Lib.toList_data, Lib.toList_data, htb, Bool.eq_iff_iff, beq_iff_eq, decide_eq_true_eq]
  rw [← hcmp] at hput
  have HSE := Lib.hid hse
  clear hse
  have HPUT := Lib.hid hput
  clear hput
  have HV := Lib.hid hV
  clear hV
  have HEV := Lib.hid hEV
  clear hEV
  have HL := Lib.hid hl'
  clear hl'
  clear hB hR htb hcmp hl hy hw h7 h6 h2
  go_enter Tryz.func101, Tryz.ntmps101
  go_upto_region 2 with fail
  go_name_world V hVV
  have hWV : (W.setCell ⟨bb, i, none⟩ (.int .u8 (k : Int))).Exts V := by rw [hVV]; exact World.Exts.refl _
  rw [hVV] at g7 g6 g2 HV HEV
  clear a7 a6 a2 l7 l6 l2 ab fb lbb
  have a7 := LaysAs.cell g7 0 _ rfl
  have a6 := LaysAs.cell g6 0 _ rfl
  have a2 := LaysAs.cell g2 0 _ rfl
  have l7 := Lays.of_cell a7
  have l6 := Lays.of_cell a6
  have l2 := Lays.of_cell a2
  have hcv1 : ∀ X : Ext V, (convert 59 9 (.slice (some ⟨bb, 0, none⟩) m cap)).run Tryz.prog (V.ext X) = .ok (.string ⟨(l'.take m).toArray⟩) (V.ext X) := fun X => bytes_string (HV.out.exts ⟨X, rfl⟩) m cap (by omega)
  have hcv2 : ∀ X : Ext V, (convert 59 9 (.slice (some ⟨bb, 0, none⟩) (m + 4) cap)).run Tryz.prog (V.ext X) = .ok (.string ⟨l'.toArray⟩) (V.ext X) := fun X => by
    have h := bytes_string (HV.out.exts (⟨X, rfl⟩ : V.Exts (V.ext X))) (m + 4) cap (by omega)
    rwa [List.take_of_length_le (by omega)] at h
  have HWV := Lib.hid hWV
  clear hWV
  clear hVV g7 g6 g2 hll
  by_cases h63 : k = 63
  · have hR : R = false := by rw [HPUT.out, h63]; rfl
    have g1 : ((k : Int) != 63) = false := by rw [bne_eq_false_iff_eq]; omega
    have g2 : (k : Int) = 63 := by omega
    subst hR
    clear HPUT h63 hcv1 hcv2
    refine wp_region_ext (by kernel_rfl) (by kernel_rfl) ?_
    repeat (go_big_quiet_step (fail))
    refine wpQuiet_nil ?_
    rintro _ ⟨X, rfl⟩
    go_wp2_with fail
    go_ret
    exact ⟨rfl, HWV.out.trans exq⟩
  · have g1 : ((k : Int) != 63) = true := by rw [bne_iff_ne]; omega
    have g2 : ¬ (k : Int) = 63 := by omega
    have hR := HPUT.out
    rw [decide_eq_true h63, Bool.true_and] at hR
    subst hR
    clear HPUT h63
    refine wp_region_ext (by kernel_rfl) (by kernel_rfl) ?_
    repeat (go_big_quiet_step ((go_at_call 32; exact Calls.in_ext (HSE.out _ (HEV.out.trans exq)))))
    refine wpQuiet_nil ?_
    rintro _ ⟨X, rfl⟩
    go_wp2_with fail
    go_ret
    exact ⟨by simp, HWV.out.trans exq⟩

theorem putOk_congr {n i c : Nat} {l l' : List UInt8} (h : ∀ y, l'.set i y = l.set i y) (hl : l'.length = l.length) : putOk n l' i c = putOk n l i c := by
  unfold putOk
  rw [h, hl]
/-- The boxes of the closure, and the line's bytes. -/
structure PutSt (W : World) (b7 b6 b2 bb n i m cap : Nat) (l' : List UInt8) : Prop where
  s7 : LaysAs W b7 (.cells [.slice (some ⟨bb, 0, none⟩) (m + 4) cap].toArray 59 (0, 0))
  s6 : LaysAs W b6 (.cells [.int .i64 i].toArray 3 (0, 0))
  s2 : LaysAs W b2 (.cells [.int .i64 n].toArray 3 (0, 0))
  b : BytesAt W bb l'
  len : l'.length = m + 4
theorem PutSt.exts {W W' : World} {b7 b6 b2 bb n i m cap : Nat} {l' : List UInt8} (h : PutSt W b7 b6 b2 bb n i m cap l') (hE : W.Exts W') : PutSt W' b7 b6 b2 bb n i m cap l' :=
  ⟨h.s7.exts hE, h.s6.exts hE, h.s2.exts hE, h.b.exts hE, h.len⟩
/-- What is put into a line. -/
def PutB (w : World) (x : Option (List UInt8)) (e : Ending) (w' : World) : Prop :=
  w.Exts w' ∧ ((x = none ∧ ∃ r : ByteArray, e = .returned (.tuple #[.string r, .bool false])) ∨ (∃ y r, x = some y ∧ e = .returned (.tuple #[.string r, .bool true]) ∧ (r : ByteArray).data.toList = y))

set_option maxRecDepth 4000 in
set_option maxHeartbeats 4000000 in
theorem sheet_put_any (n : Nat) (s : ByteArray) (w : World) (hw : LibAt w) (hn : n ≤ 5000) (hs : s.size ≤ 2000) (h63 : 63 ∈ s.data.toList) :
    Calls Tryz.prog 48 #[.int .i64 (n : Int), .string s] w (PutB w (putR n s.data.toList)) := by
  obtain ⟨R, hR⟩ : ∃ r, putR n s.data.toList = r := ⟨_, rfl⟩
  rw [hR]
  have hb : inAll 5 84 [(s.size : Int)] = inb 5 84 (s.size : Int) := by simp [inAll]
  have hcnt := fun (W : World) => Count_any s W
  have hcn : s.data.toList.count 63 ≤ s.size := by rw [← tx_len]; exact List.count_le_length
  obtain ⟨cn, hcn2⟩ : ∃ c, s.data.toList.count 63 = c := ⟨_, rfl⟩
  rw [hcn2] at hcn hcnt
  cases hb1 : inb 5 84 (s.size : Int)
  · have hv : R = none := by
      rw [← hR]
      unfold putR
      rw [if_neg]
      intro e
      rw [tx_len] at e
      unfold inb at hb1
      simp at hb1
      omega
    rw [hb1] at hb
    have HB := Lib.hid hb
    clear hb
    have HV := Lib.hid hv
    clear hv
    clear hR hb1 hcnt
    go_enter Tryz.func48, Tryz.ntmps48
    go_wp2_with (go_at_call 56; refine (sheet_in_any 5 84 _ [(s.size : Int)] _ (row_int1 _ _ _ (by simp))).mono ?_; rintro e w' ⟨rfl, X2, rfl⟩; rw [HB.out])
    refine bodyPost_ret (v := .tuple #[.string ⟨#[]⟩, .bool false]) (by simp [results, Tryz.results48, go_sem]) rfl ?_
    exact ⟨exq, .inl ⟨HV.out, _, rfl⟩⟩
  have hsz := inb_le hb1
  rw [hb1] at hb
  rcases Nat.lt_or_ge 1 cn with hc1 | hc1
  · have hv : R = none := by
      rw [← hR]
      exact putR_many (by rw [hcn2]; exact hc1)
    have hci : (1 : Int) < (cn : Int) := by omega
    have HB := Lib.hid hb
    clear hb
    have HV := Lib.hid hv
    clear hv
    have HCNT := Lib.hid hcnt
    clear hcnt
    clear hR hb1 hcn2
    go_enter Tryz.func48, Tryz.ntmps48
    go_wp2_with (first
      | (go_at_call 56; refine (sheet_in_any 5 84 _ [(s.size : Int)] _ (row_int1 _ _ _ (by simp))).mono ?_; rintro e w' ⟨rfl, X2, rfl⟩; rw [HB.out])
      | (go_at_call 100; refine (HCNT.out _).mono ?_; rintro e w' ⟨rfl, X3, rfl⟩))
    refine bodyPost_ret (v := .tuple #[.string ⟨#[]⟩, .bool false]) (by simp [results, Tryz.results48, go_sem]) rfl ?_
    exact ⟨exq, .inl ⟨HV.out, _, rfl⟩⟩
  have hci : ¬ (1 : Int) < (cn : Int) := by omega
  obtain ⟨i, hi⟩ : ∃ i, s.data.toList.idxOf 63 = i := ⟨_, rfl⟩
  have hidx := fun (W : World) => Index_any s W h63
  have hil : i < s.size := by rw [← hi, ← tx_len]; exact List.idxOf_lt_length_iff.2 h63
  obtain ⟨m, hm⟩ : ∃ m, s.size = m + 4 := ⟨s.size - 4, by omega⟩
  rw [hi] at hidx
  have hfin : R = if firstN (putOk n s.data.toList i) 32 95 < 127 then some (s.data.toList.set i (UInt8.ofNat (firstN (putOk n s.data.toList i) 32 95))) else none := by
    rw [← hR]
    unfold putR
    rw [if_pos ⟨by rw [tx_len]; omega, by rw [tx_len]; omega, by rw [hcn2]; exact hc1⟩, hi]
  have hll : s.data.toList.length = m + 4 := by rw [tx_len, hm]
  have hcb := fun (W : World) => Lib.run_convert_string_bytes (P := Tryz.prog) W 9 59 5 s (u := .string) Tryz.underlying9 Tryz.underlying59 Tryz.underlying5
  have HB := Lib.hid hb
  clear hb
  have HCNT := Lib.hid hcnt
  clear hcnt
  have HIDX := Lib.hid hidx
  clear hidx
  have HFIN := Lib.hid hfin
  clear hfin
  have HW := Lib.hid hw
  clear hw
  have HM := Lib.hid hm
  clear hm
  clear hR hb1 hcn2 hi h63
  go_enter Tryz.func48, Tryz.ntmps48
  go_upto_region 5 with (first
    | (go_at_call 56; refine (sheet_in_any 5 84 _ [(s.size : Int)] _ (row_int1 _ _ _ (by simp))).mono ?_; rintro e w' ⟨rfl, X2, rfl⟩; rw [HB.out])
    | (go_at_call 100; refine (HCNT.out _).mono ?_; rintro e w' ⟨rfl, X3, rfl⟩)
    | (go_at_call 99; refine (HIDX.out _).mono ?_; rintro e w' ⟨rfl, X4, rfl⟩))
  obtain ⟨U, hU⟩ : ∃ W, World.ext (World.ext (World.ext ((w.alloc (.cells #[.int .i64 n] 3)).alloc (.cells #[.int .i64 s.size] 3)) X2) X3) X4 = W := ⟨_, rfl⟩
  have hEU : (w.alloc (.cells #[.int .i64 n] 3)).Exts U := by
    rw [← hU]
    exact (show (w.alloc (.cells #[.int .i64 n] 3)).Exts (World.ext (World.ext (World.ext ((w.alloc (.cells #[.int .i64 n] 3)).alloc (.cells #[.int .i64 s.size] 3)) X2) X3) X4) from exq)
  rw [hU]
  clear hU
  obtain ⟨cap, hcap⟩ : ∃ c, grownCap (U.alloc (.cells #[.int .i64 i] 3)) s.size 0 5 = c := ⟨_, rfl⟩
  have hcl : s.size ≤ cap := by rw [← hcap]; exact grownCap_ge _ _ _ _
  have hbz := Lib.bytesWorld_size (U.alloc (.cells #[.int .i64 i] 3)) 5 s
  rw [World.size_alloc] at hbz
  have hEb : U.Exts (Lib.bytesWorld (U.alloc (.cells #[.int .i64 i] 3)) 5 s) := ((World.Exts.refl U).alloc _).trans (.of (Lib.bytesWorld_below _ _ _))
  have hbc := fun (j : Nat) (hj : j < s.size) => Lib.bytesWorld_cell (U.alloc (.cells #[.int .i64 i] 3)) 5 s j hj
  have hbn := Lib.bytesWorld_at_new (U.alloc (.cells #[.int .i64 i] 3)) 5 s
  rw [World.size_alloc] at hbc hbn
  have hbcs : (Lib.bytesCells (U.alloc (.cells #[.int .i64 i] 3)) 5 s).size = cap := by
    unfold Lib.bytesCells
    rw [Array.size_append, Array.size_map, Array.size_replicate, hcap]
    have h1 : s.data.size = s.size := rfl
    omega
  rw [hcap]
  obtain ⟨V, hV⟩ : ∃ W, (Lib.bytesWorld (U.alloc (.cells #[.int .i64 i] 3)) 5 s).alloc (.cells #[.slice (some ⟨U.heap.size + 1, 0, none⟩) s.size cap] 59) = W := ⟨_, rfl⟩
  rw [hV, hbz]
  have hUz := hEU.size
  simp at hUz
  have hEV : (Lib.bytesWorld (U.alloc (.cells #[.int .i64 i] 3)) 5 s).Exts V := by rw [← hV]; exact (World.Exts.refl _).alloc _
  have hw : w.Exts V := ((World.Exts.refl w).alloc _).trans (hEU.trans (hEb.trans hEV))
  have hst : PutSt V (U.heap.size + 1 + 1) U.heap.size w.heap.size (U.heap.size + 1) n i m cap s.data.toList := by
    refine ⟨?_, ?_, (laysAs_size w (.cells [.int .i64 n].toArray 3 (0, 0)) rfl).exts (hEU.trans (hEb.trans hEV)), ?_, hll⟩
    · rw [← hV, ← HM.out]
      exact laysAs_size _ _ (by rw [hbz])
    · exact (laysAs_size U (.cells [.int .i64 i].toArray 3 (0, 0)) rfl).exts ((show (U.alloc (.cells #[.int .i64 i] 3)).Exts _ from .of (Lib.bytesWorld_below _ _ _)).trans hEV)
    · refine BytesAt.exts ⟨fun j y hy => ?_, fun j hj => ?_, by rw [hbz]; omega⟩ hEV
      · have hj : j < s.size := by rw [← tx_len]; exact (List.getElem?_eq_some_iff.1 hy).1
        rw [hbc j hj, List.getD_eq_getElem?_getD, hy]
        rfl
      · rw [tx_len] at hj
        unfold World.frozen?
        rw [hbn]
        simp
        omega
  clear hbc hbn hbcs hcap hEb hEV hV
  obtain ⟨f, hf⟩ : ∃ f, firstN (putOk n s.data.toList i) 32 95 = f := ⟨_, rfl⟩
  have hfin := HFIN.out
  rw [hf] at hfin
  have hmz : m ≤ 80 := by have := HM.out; omega
  have him : i < m + 4 := by have := HM.out; omega
  have hcm : m + 4 ≤ cap := by have := HM.out; omega
  have hfirst : Calls Tryz.prog 76 #[.int .i64 32, .int .i64 127, .func (.func 101) #[] #[.pointer (some ⟨U.heap.size + 1 + 1, 0, none⟩), .pointer (some ⟨U.heap.size, 0, none⟩), .pointer (some ⟨w.heap.size, 0, none⟩)]] V fun e w' => e = .returned (.int .i64 (f : Nat)) ∧ w.Exts w' ∧ ∃ l', PutSt w' (U.heap.size + 1 + 1) U.heap.size w.heap.size (U.heap.size + 1) n i m cap l' ∧ (f < 127 → l' = s.data.toList.set i (UInt8.ofNat f)) := by
    refine (sheet_first_any (putOk n s.data.toList i) 32 127 101 #[.pointer (some ⟨U.heap.size + 1 + 1, 0, none⟩), .pointer (some ⟨U.heap.size, 0, none⟩), .pointer (some ⟨w.heap.size, 0, none⟩)] V
      (fun _ W => w.Exts W ∧ ∃ l', PutSt W (U.heap.size + 1 + 1) U.heap.size w.heap.size (U.heap.size + 1) n i m cap l' ∧ ∀ y, l'.set i y = s.data.toList.set i y)
      (fun k W => w.Exts W ∧ PutSt W (U.heap.size + 1 + 1) U.heap.size w.heap.size (U.heap.size + 1) n i m cap (s.data.toList.set i (UInt8.ofNat k)))
      (by decide) (by decide) (fun _ _ => by kernel_rfl) (fun k h1 h2 W hJ => ?_) ⟨hw, _, hst, fun y => rfl⟩).mono ?_
    · obtain ⟨hE, l', hP, hset⟩ := hJ
      have hput := sheet_put_1_any k n m i cap (U.heap.size + 1 + 1) U.heap.size w.heap.size (U.heap.size + 1) l' w W HW.out hE hP.len hmz him ⟨h1, h2⟩ hn hcm hP.s7 hP.s6 hP.s2 hP.b (by omega) (by omega) (by omega) (by omega)
      rw [putOk_congr hset (by rw [hP.len, hll])] at hput
      have hkn : (UInt8.ofNat k).toNat = k := UInt8.toNat_ofNat_of_lt' (by simp [UInt8.size]; omega)
      refine (show Calls Tryz.prog 101 #[.int .i64 (k : Int), .pointer (some ⟨U.heap.size + 1 + 1, 0, none⟩), .pointer (some ⟨U.heap.size, 0, none⟩), .pointer (some ⟨w.heap.size, 0, none⟩)] W _ from hput).mono ?_
      rintro e W' ⟨rfl, hE2⟩
      have hB := hP.b.set i (UInt8.ofNat k)
      rw [hkn] at hB
      have hP2 : PutSt W' (U.heap.size + 1 + 1) U.heap.size w.heap.size (U.heap.size + 1) n i m cap (s.data.toList.set i (UInt8.ofNat k)) := by
        refine PutSt.exts ⟨laysAs_else hP.s7 (by dsimp only; omega) _, laysAs_else hP.s6 (by dsimp only; omega) _, laysAs_else hP.s2 (by dsimp only; omega) _, ?_, by rw [List.length_set, hll]⟩ hE2
        rw [← hset]
        exact hB
      have hE3 : w.Exts W' := (hE.setCell (by dsimp only; omega) _).trans hE2
      exact ⟨rfl, fun _ => ⟨hE3, hP2⟩, fun _ => ⟨hE3, _, hP2, fun y => by rw [List.set_set]⟩⟩
    · rintro e w' ⟨rfl, h1, h2⟩
      rw [show 127 - 32 = 95 from rfl, hf] at h1 h2 ⊢
      rcases Nat.lt_or_ge f 127 with h | h
      · obtain ⟨q1, q2⟩ := h1 h
        exact ⟨rfl, q1, _, q2, fun _ => rfl⟩
      · obtain ⟨q1, l', q2, _⟩ := h2 h
        exact ⟨rfl, q1, l', q2, fun h3 => by omega⟩
  have HFIRST := Lib.hid hfirst
  clear hfirst
  clear hst hf hw hbz hll HFIN HIDX HCNT HB
  rcases Nat.lt_or_ge f 127 with hlt | hge
  · rw [if_pos hlt] at hfin
    have hfi : (f : Int) < 127 := by omega
    have HFIN := Lib.hid hfin
    clear hfin
    go_wp2_with (go_at_call 76; refine HFIRST.out.mono ?_; rintro e w' ⟨rfl, hE9, l9, hP9, hl9⟩; obtain rfl := hl9 hlt; have a7 := LaysAs.cell hP9.s7 0 _ rfl; have n7 := Lays.of_cell a7; have hcv := bytes_string hP9.b (m + 4) cap (by rw [hP9.len]; exact Nat.le_refl _); rw [List.take_of_length_le (by rw [hP9.len]; exact Nat.le_refl _)] at hcv; have HE9 := Lib.hid hE9; clear hE9 hP9 hl9)
    refine bodyPost_ret (v := .tuple #[.string ⟨(s.data.toList.set i (UInt8.ofNat f)).toArray⟩, .bool true]) (by simp [results, Tryz.results48, go_sem]) rfl ?_
    exact ⟨HE9.out.trans exq, .inr ⟨_, _, HFIN.out, rfl, rfl⟩⟩
  · rw [if_neg (by omega)] at hfin
    have hfi : ¬ (f : Int) < 127 := by omega
    have HFIN := Lib.hid hfin
    clear hfin
    go_wp2_with (go_at_call 76; refine HFIRST.out.mono ?_; rintro e w' ⟨rfl, hE9, l9, hP9, hl9⟩; have a7 := LaysAs.cell hP9.s7 0 _ rfl; have n7 := Lays.of_cell a7; have hcv := bytes_string hP9.b (m + 4) cap (by rw [hP9.len]; exact Nat.le_refl _); rw [List.take_of_length_le (by rw [hP9.len]; exact Nat.le_refl _)] at hcv; have HE9 := Lib.hid hE9; clear hE9 hP9 hl9)
    refine bodyPost_ret (v := .tuple #[.string ⟨l9.toArray⟩, .bool false]) (by simp [results, Tryz.results48, go_sem] <;> omega) rfl ?_
    exact ⟨HE9.out.trans exq, .inl ⟨HFIN.out, _, rfl⟩⟩
end Go.Proofs.YtcickafaomfbmaaGreatDoor

/-
  Walks of the reference of sheets: what is lost is put in again.
-/
namespace Go.Proofs.YtcickafaomfbmaaGreatDoor
open Go.RowKit Kr
set_option linter.unusedSimpArgs false
set_option linter.unusedVariables false
def RepairIs (w : World) (R : (List UInt8 × List Int) × Int) (e : Ending) (w' : World) : Prop :=
  w.Exts w' ∧ ∃ r v, e = .returned (.tuple #[.string r, v, .int .i64 R.2]) ∧ r.data.toList = R.1.1 ∧ IsRow (fun x : Int => [.int .i64 x]) 1 w' v R.1.2
theorem row_one (w : World) (x : Int) : IsRow (fun x : Int => [.int .i64 x]) 1 (w.alloc (.cells #[.int .i64 x] 3)) (.slice (some ⟨w.heap.size, 0, none⟩) 1 1) [x] :=
  IsRow.of_owns (World.ownsRow_lit (base := w.heap.size) (e := 3) (size := 1) w #[.int .i64 x] 1 (Nat.le_refl _) (by decide) rfl) (fun _ _ => rfl)

end Go.Proofs.YtcickafaomfbmaaGreatDoor

/-
  Walks of package sheet: what is lost is put in again.
-/
namespace Go.Proofs.YtcickafaomfbmaaGreatDoor
open Go.RowKit Kr
set_option linter.unusedSimpArgs false
set_option linter.unusedVariables false

theorem Clip_int_any (p : Option Addr) (n c : Nat) (w : World) (hn : n ≤ c) (hc : c ≤ 9223372036854775807) (h0 : p = none → c = 0) :
    Calls Tryz.prog 49 #[.slice p n c] w fun e w' => e = .returned (.slice p n n) ∧ w.Exts w' := by
  go_enter Tryz.func49, Tryz.ntmps49
  go_wp2_with fail
  go_ret
  exact ⟨rfl, exq⟩

theorem own_caps {W : World} {base size n c : Nat} {e : TypeId} {p : Option Addr} {xs : List Value} (h : W.ownsRow base e size (.slice p n c) n xs) : n ≤ c ∧ c ≤ 9223372036854775807 ∧ (p = none → c = 0) := by
  rcases h.2 with ⟨e, h0⟩ | ⟨g, cap, cur, e, _, _, h1, h2, _⟩
  · cases e; exact ⟨by omega, by decide, fun _ => rfl⟩
  · cases e; exact ⟨h1, h2, fun h => by cases h⟩
theorem row_clip {α : Type} {enc : α → List Value} {k n c : Nat} {w : World} {p : Option Addr} {xs : List α} (h : IsRow enc k w (.slice p n c) xs) (hn : xs.length = n) : IsRow enc k w (.slice p n n) xs := by
  obtain ⟨q, b, o, cap, e, hm, hq, hc⟩ := h.ex
  cases e
  exact ⟨p, b, o, xs.length, rfl, ⟨Nat.le_refl _, by omega⟩, hq, hc⟩
/-- The boxes of what is put together. -/
structure ReBx (W : World) (z f base : Nat) (r : ByteArray) (v : Value) (l : List Int) (n e : Int) : Prop where
  s : LaysAs W z (.cells [.string r].toArray 9 (0, 0))
  bl : LaysAs W (z + 1) (.cells [v].toArray 45 (0, 0))
  f : LaysAs W f (.cells [.int .i64 n, .int .i64 e].toArray 89 (0, 0))
  own : W.ownsRow base 3 1 v l.length (l.flatMap fun x => [.int .i64 x])
theorem ReBx.exts {W W' : World} {z f base : Nat} {r : ByteArray} {v : Value} {l : List Int} {n e : Int} (h : ReBx W z f base r v l n e) (hE : W.Exts W') : ReBx W' z f base r v l n e :=
  ⟨h.s.exts hE, h.bl.exts hE, h.f.exts hE, ownsRow_exts h.own hE⟩
theorem ReBx.turn {W W' : World} {z f base bT : Nat} {r : ByteArray} {v : Value} {l : List Int} {n e : Int} {row : Option Nat} (h : ReBx W z f base r v l n e) (hz : z + 1 < f) (hb : f < bT) (hbb : bT < base) (hg : W.grownBy W' row) (hr : ∀ r, row = some r → r = bT ∨ ∃ o : Obj, W.heap[r]? = some o ∧ o.isCells = false) : ReBx W' z f base r v l n e :=
  ⟨h.s.turn (by omega) hg hr, h.bl.turn (by omega) hg hr, h.f.turn (by omega) hg hr, h.own.kept hg (by
    rcases h.own.2 with ⟨e, _⟩ | ⟨g, cap, cur, e, hb2, hgc, _⟩
    · exact .inl (by rw [e]; rfl)
    · refine .inr (fun e2 => ?_)
      rw [e] at e2
      rcases hr g (by rw [← e2]; rfl) with h2 | ⟨o, ho, hc⟩
      · omega
      · rw [hgc] at ho; cases ho; cases hc)⟩
theorem laysAs_own {W W' : World} {b : Nat} {o : Obj} {v : Value} (h : LaysAs W b o) (hg : W.grownBy W' v.ownBlock) (hne : v.ownBlock ≠ some b) : LaysAs W' b o :=
  (hg.block b h.lt (fun e => hne e.symm)).trans h
theorem keeps_own {W W' : World} {base size n : Nat} {e : TypeId} {v : Value} {xs : List Value} (hown : W.ownsRow base e size v n xs) (hg : W.grownBy W' v.ownBlock) (B : Nat) : KeepsFrom B W W' :=
  ⟨hg.size, fun k o _ hk ho => (hg.block k (Array.getElem?_eq_some_iff.1 hk).1 (fun e2 => by
    rcases hown.2 with ⟨e, _⟩ | ⟨g, cap, cur, e, hb2, hgc, _⟩
    · rw [e] at e2; cases e2
    · rw [e] at e2
      have h3 : k = g := Option.some.inj e2
      subst h3
      rw [hgc] at hk; cases hk; cases ho)).trans hk⟩
/-- What holds when k lines were gone through. -/
structure ReI (w : World) (L : List (List UInt8)) (f base : Nat) (k : Nat) (W : World) : Prop where
  exts : w.Exts W
  big : base ≤ W.heap.size
  st : ∃ (st : List UInt8 × List Int) (r : ByteArray) (v : Value), repairAll 1 ([], []) L = repairAll (1 + k) st (L.drop k) ∧ r.data.toList = st.1 ∧ r.size ≤ 1501 * k ∧ st.2.length ≤ k ∧ ReBx W w.heap.size f base r v st.2 0 0
/-- What holds when nothing could be put into a line. -/
def ReX (w : World) (R : (List UInt8 × List Int) × Int) (f base : Nat) (c : Code) (_ : Nat) (W : World) : Prop :=
  c = Code.exit 0 ∧ w.Exts W ∧ ∃ (n : Nat) (r : ByteArray) (v : Value) (l : List Int), n ≤ 1501 ∧ 1 ≤ n ∧ R = (([], [(n : Int)]), 113) ∧ ReBx W w.heap.size f base r v l (n : Int) 113
theorem suffix_iff {s : List UInt8} (h0 : 0 < s.length) : Lib.hasSuffix s [10] = true ↔ s[s.length - 1]? = some 10 := by
  unfold Lib.hasSuffix
  rw [List.isSuffixOf_iff_suffix]
  constructor
  · rintro ⟨t, rfl⟩
    simp
  · intro h
    refine ⟨s.take (s.length - 1), ?_⟩
    rw [← take_snoc h, show s.length - 1 + 1 = s.length by omega, List.take_length]
theorem rep_drop {L : List (List UInt8)} {k : Nat} {y : List UInt8} (h : L[k]? = some y) : L.drop k = y :: L.drop (k + 1) := by
  obtain ⟨h1, rfl⟩ := List.getElem?_eq_some_iff.1 h
  exact List.drop_eq_getElem_cons h1

attribute [local go_sem] Oper.semAt_some
set_option maxRecDepth 4000 in
set_option maxHeartbeats 8000000 in
theorem sheet_Repair_any (s : ByteArray) (w : World) (hw : LibAt w) :
    Calls Tryz.prog 20 #[.string s] w (RepairIs w (repairR s.data.toList)) := by
  obtain ⟨R, hR⟩ : ∃ r, repairR s.data.toList = r := ⟨_, rfl⟩
  rw [hR]
  rcases Nat.lt_or_ge 1500 s.size with h15 | h15
  · have hv : R = (([], []), 9) := hR ▸ repairR_long (by rw [tx_len]; exact h15)
    have h15i : (1500 : Int) < (s.size : Int) := by omega
    subst hv
    clear hR h15
    refine calls_of_wpF (n := 5) Tryz.func20 rfl ?_
    simp only [Tryz.ntmps20, List.size_toArray, List.length_cons, List.length_nil, Nat.reduceAdd, Nat.reduceSub, Array.replicate_succ, Array.replicate_zero, List.push_toArray, List.append_toArray, List.nil_append, List.cons_append]
    refine wpF_seq_wp fun K hK => ?_
    go_wp2_with fail
    refine wpF_scope (wpF_of_wp ?_)
    go_wp2_with fail
    show LeavesInM Fence.wide 5 Tryz.prog _ _ _ _ _ _
    exact ⟨.tuple #[.string ⟨#[]⟩, .slice none 0 0, .int .i64 9], by simp [results, Tryz.results20, go_sem], exq, _, _, rfl, rfl, IsRow.nil _⟩
  have h15i : ¬ (1500 : Int) < (s.size : Int) := by omega
  have h15n : ¬ 1500 < s.data.toList.length := by rw [tx_len]; omega
  have hsuf := fun (W : World) => HasSuffix_any s W (by omega)
  by_cases hdirty : (cutLines s.data.toList).2 = []
  rotate_left
  · have hv : R = (([], []), 111) := hR ▸ repairR_dirty h15n hdirty
    have hne : s.toList.isEmpty = false := by
      rw [Lib.toList_data]
      cases hl : s.data.toList with
      | nil => exact absurd (by rw [hl]; rfl) hdirty
      | cons a b => rfl
    have hsf : Lib.hasSuffix s.data.toList [10] = false := by
      cases hh : Lib.hasSuffix s.data.toList [10] with
      | false => rfl
      | true => exact absurd (cut_clean fun h0 => (suffix_iff h0).1 hh) hdirty
    rw [hsf] at hsuf
    subst hv
    have HSUF := Lib.hid hsuf
    clear hsuf
    clear hR h15 hdirty h15n hsf
    refine calls_of_wpF (n := 5) Tryz.func20 rfl ?_
    simp only [Tryz.ntmps20, List.size_toArray, List.length_cons, List.length_nil, Nat.reduceAdd, Nat.reduceSub, Array.replicate_succ, Array.replicate_zero, List.push_toArray, List.append_toArray, List.nil_append, List.cons_append]
    refine wpF_seq_wp fun K hK => ?_
    go_wp2_with fail
    refine wpF_scope (wpF_of_wp ?_)
    go_wp2_with (go_at_call 46; refine (HSUF.out _).mono ?_; rintro e w' ⟨rfl, X2, rfl⟩)
    show LeavesInM Fence.wide 5 Tryz.prog _ _ _ _ _ _
    exact ⟨.tuple #[.string ⟨#[]⟩, .slice none 0 0, .int .i64 111], by simp [results, Tryz.results20, go_sem], exq, _, _, rfl, rfl, IsRow.nil _⟩
  have hclean : R = repEnd (repairAll 1 ([], []) (cutLines s.data.toList).1) := by
    rw [← hR, repairR_clean h15n hdirty, List.drop_zero]
  have hfin : finL s.data.toList = none := by unfold finL; rw [if_pos hdirty]
  have hseq := fun (bT : Nat) (hb : w.heap.size ≤ bT) => sheet_lines_1_pan (5 - 1) bT s w h15 hw hb
  have hcl := cut_len s.data.toList
  rw [tx_len] at hcl
  rw [hfin] at hseq
  have HCLEAN := Lib.hid hclean
  clear hclean
  have HSEQ := Lib.hid hseq
  clear hseq
  have HCL := Lib.hid hcl
  clear hcl
  have HW := Lib.hid hw
  clear hw
  have HSUF := Lib.hid hsuf
  clear hsuf
  clear hR h15n hfin
  refine calls_of_wpF (n := 5) Tryz.func20 rfl ?_
  simp only [Tryz.ntmps20, List.size_toArray, List.length_cons, List.length_nil, Nat.reduceAdd, Nat.reduceSub, Array.replicate_succ, Array.replicate_zero, List.push_toArray, List.append_toArray, List.nil_append, List.cons_append]
  refine wpF_seq_wp fun K hK => ?_
  go_wp2_with fail
  refine wpF_scope ?_
  obtain ⟨w1, hw1⟩ : ∃ W, (w.alloc (.cells #[.string ⟨#[]⟩] 9)).alloc (.cells #[.slice none 0 0] 45) = W := ⟨_, rfl⟩
  rw [hw1]
  have hz1 : w1.heap.size = w.heap.size + 1 + 1 := by rw [← hw1]; simp
  have hE1 : w.Exts w1 := by rw [← hw1]; exact exq
  have hs1 : LaysAs w1 w.heap.size (.cells [.string ⟨#[]⟩].toArray 9 (0, 0)) := by rw [← hw1]; exact (laysAs_size w _ rfl).exts exq
  have hl1 : LaysAs w1 (w.heap.size + 1) (.cells [.slice none 0 0].toArray 45 (0, 0)) := by rw [← hw1]; exact laysAs_size (w.alloc (.cells #[.string ⟨#[]⟩] 9)) _ (by simp)
  clear hw1
  refine wpF_seq_wp fun K1 hK1 => ?_
  go_wp2_with fail
  refine wpF_seq_wp fun K hK => ?_
  have hrest : ∀ (v10 v11 v12 v13 v14 v15 v16 v17 v18 v19 : Value) (W : World), w1.Exts W → K { tmps := #[.string s, undef, .pointer (some ⟨w.heap.size, 0, none⟩), .pointer (some ⟨w.heap.size + 1, 0, none⟩), .int .i64 0, undef, undef, undef, undef, undef, v10, v11, v12, v13, v14, v15, v16, v17, v18, v19, undef, undef, undef, undef, undef, undef, undef, undef, undef, undef, undef, undef, undef, undef, undef, undef, undef, undef, undef, undef, undef, undef, undef, undef, undef, undef, undef, undef, undef, undef, undef, undef, undef, undef, undef, undef], defers := [] } W := by
    intro v10 v11 v12 v13 v14 v15 v16 v17 v18 v19 U hEU
    refine hK _ _ ?_
    have hEw : w.Exts U := hE1.trans hEU
    have hsU := hs1.exts hEU
    have hlU := hl1.exts hEU
    have hzU : w.heap.size + 1 + 1 ≤ U.heap.size := by have := hEU.size; omega
    clear hK hs1 hl1 hE1 hz1
    refine wpF_seq_wp fun K hK => ?_
    go_wp2_with fail
    refine wpF_seq (wpF_of_wpIn (wpIn_label ?_))
    show Code.wpF 5 Tryz.prog 20 _ _ _ _
    refine wpF_seq ?_
    refine wpF_seq_wp fun K hK => ?_
    go_wp2_with (go_at_call 34; refine (sheet_lines_any s _).mono ?_; rintro e w' ⟨rfl, rfl⟩)
    refine wpF_block ?_
    obtain ⟨V, hV⟩ : ∃ W, ((U.alloc (.cells #[.int .i64 0, .int .i64 0] 89)).alloc (.cells #[.string s] 9)) = W := ⟨_, rfl⟩
    rw [hV]
    have hzV : V.heap.size = U.heap.size + 1 + 1 := by rw [← hV]; simp
    have hEV : U.Exts V := by rw [← hV]; exact exq
    have hfV : LaysAs V U.heap.size (.cells [.int .i64 (0 : Int), .int .i64 (0 : Int)].toArray 89 (0, 0)) := by rw [← hV]; exact (laysAs_size U _ rfl).exts exq
    have htV : LaysAs V (U.heap.size + 1) (.cells [.string s].toArray 9 (0, 0)) := by rw [← hV]; exact laysAs_size (U.alloc (.cells #[.int .i64 0, .int .i64 0] 89)) _ (by simp)
    have hwV := hEw.trans hEV
    have hsV := hsU.exts hEV
    have hlV := hlU.exts hEV
    obtain ⟨f, hf⟩ : ∃ f, U.heap.size = f := ⟨_, rfl⟩
    rw [hf] at hzV hfV htV hzU
    simp only [hf]
    clear hV hEU hsU hlU hEV hf hEw
    refine wpF_range_pan2 (bT := f + 1) (T := 9) (w0 := w) Tryz.func20 (gf := 71) rfl (enters_of Tryz.func71 (by kernel_rfl) rfl) (e1 := fun x : Nat × ByteArray => .int .i64 (x.1 : Int)) (e2 := fun x : Nat × ByteArray => .string x.2) (fun x => rfl) (HSEQ.out _ (by omega)) htV
      (ReI w (cutLines s.data.toList).1 f (f + 1 + 1)) (ReX w R f (f + 1 + 1)) (fun _ _ => False) (fun k W h => h.exts) ?inv ?ix ?start 6 7 ?assign ?body ?done ?stop (fun _ _ h => h.elim) (fun v W e => by cases e)
    case inv =>
      intro k W W' row h hg hr
      have hr2 : ∀ r, row = some r → r = f + 1 ∨ ∃ o : Obj, W.heap[r]? = some o ∧ o.isCells = false := fun r e => (hr r e).imp id (fun h => h.2)
      obtain ⟨st, r, v, h1, h2, h3, h4, h5⟩ := h.st
      exact ⟨exts_turn h.exts hg (fun r e => by rcases hr r e with h | ⟨h, _⟩ <;> omega), Nat.le_trans h.big hg.size, st, r, v, h1, h2, h3, h4, h5.turn (by omega) (by omega) (by omega) hg hr2⟩
    case ix =>
      rintro c k W l o o' ⟨hc, hE, n, r, v, l2, h1, h2, h3, h4⟩ hl ho hoc
      have hg := grownBy_putObj' W l o'
      exact ⟨hc, exts_turn hE hg (fun r e => by cases e; omega), n, r, v, l2, h1, h2, h3, h4.turn (bT := f + 1) (by omega) (by omega) (by omega) hg (fun r e => by cases e; exact .inr ⟨_, ho, hoc⟩)⟩
    case start =>
      exact ⟨hwV, by omega, ([], []), ⟨#[]⟩, _, rfl, rfl, by decide, by simp, hsV, hlV, hfV, World.ownsRow_nil _ _ _ _⟩
    case assign =>
      intro l x W K hK
      dsimp only [Act.put]
      gi_wp2
      exact hK
    case body =>
      intro l k x W hl hx h
      obtain ⟨st, r, v, hrep, hr, hrs, hsl, hB⟩ := h.st
      have hkl : k < (cutLines s.data.toList).1.length := by rw [← numL_len (cutLines s.data.toList).1 1]; exact (List.getElem?_eq_some_iff.1 hx).1
      obtain ⟨y, hy⟩ : ∃ y, (cutLines s.data.toList).1[k]? = some y := ⟨_, List.getElem?_eq_getElem hkl⟩
      have hx2 := numL_get _ 1 k y hy
      rw [hx] at hx2
      obtain rfl := Option.some.inj hx2
      have hyz : (⟨y.toArray⟩ : ByteArray).size ≤ 1500 := by rw [← tx_len]; have h2 := (HCL.out.2) y (List.mem_of_getElem? hy); have h3 : (⟨y.toArray⟩ : ByteArray).data.toList = y := rfl; rw [h3]; omega
      have hkn : k < 1501 := by have h2 := HCL.out.1; omega
      have hyl : y.length ≤ 1500 := hyz
      rw [rep_drop hy] at hrep
      have hB0 := h.big
      obtain ⟨XW, rfl⟩ : ∃ X : Ext w, W = w.ext X := h.exts
      have s0 := LaysAs.cell hB.s 0 _ rfl
      have l0 := LaysAs.cell hB.bl 0 _ rfl
      have f0 := LaysAs.cell hB.f 0 _ rfl
      have f1 := LaysAs.cell hB.f 1 _ rfl
      have fs := laysAs_frz (i := 0) hB.s
      have fl := laysAs_frz (i := 0) hB.bl
      have ff0 := laysAs_frz (i := 0) hB.f
      have ff1 := laysAs_frz (i := 1) hB.f
      have ns := Lays.of_cell s0
      have nl := Lays.of_cell l0
      have nf := Lays.of_cell f0
      have nf1 := Lays.of_cell f1
      have hcast : ((1 + k : Nat) : Int) = 1 + (k : Int) := by omega
      have hcon : ∀ W : World, Calls Tryz.prog 47 #[.string ⟨y.toArray⟩, .string ⟨#[63]⟩] W fun e w' => e = .returned (.bool (decide ((63 : UInt8) ∈ y))) ∧ W.Exts w' := fun W => Contains_any ⟨y.toArray⟩ W
      have nf2 : w.heap.size ≠ f := by omega
      have nf3 : w.heap.size + 1 ≠ f := by omega
      have htx : ∀ (b : ByteArray), (r ++ (b ++ (⟨#[10]⟩ : ByteArray))).data.toList = st.1 ++ (b.data.toList ++ [10]) := fun b => by rw [tx_append, tx_append, hr]
      have hszx : ∀ (b : ByteArray), (r ++ (b ++ (⟨#[10]⟩ : ByteArray))).size = r.size + (b.size + 1) := fun b => by rw [ByteArray.size_append, ByteArray.size_append]; rfl
      by_cases h63 : (63 : UInt8) ∈ y
      rotate_left
      · rw [decide_eq_false h63] at hcon
        rw [rep_keep h63] at hrep
        have hB2 : ∀ X2 : Ext (w.ext XW), ReBx (((w.ext XW).ext X2).setCell ⟨w.heap.size, 0, none⟩ (.string (r ++ ((⟨y.toArray⟩ : ByteArray) ++ (⟨#[10]⟩ : ByteArray))))) w.heap.size f (f + 1 + 1) (r ++ ((⟨y.toArray⟩ : ByteArray) ++ (⟨#[10]⟩ : ByteArray))) v st.2 0 0 := fun X2 =>
          have h2 := hB.exts ⟨X2, rfl⟩
          ⟨LaysAs.set (cs := [.string r]) (i := 0) h2.s _, laysAs_else h2.bl (by dsimp only; omega) _, laysAs_else h2.f (by dsimp only; omega) _, h2.own.set (by dsimp only; omega) _⟩
        have hn2 : ((⟨y.toArray⟩ : ByteArray)).data.toList = y := rfl
        have htx2 := htx ⟨y.toArray⟩
        have hsz2 := hszx ⟨y.toArray⟩
        rw [hn2] at htx2
        have HCON := Lib.hid hcon
        clear hcon
        have HREP := Lib.hid hrep
        clear hrep
        have HB2 := Lib.hid hB2
        clear hB2
        have HTX := Lib.hid htx2
        clear htx2
        have HSZ := Lib.hid hsz2
        clear hsz2
        have HR := Lib.hid hr
        clear hr
        have HB := Lib.hid hB
        clear hB
        clear h htx hszx hn2 hx hy
        dsimp only [Act.put]
        gi_wp2
        refine ⟨trivial, (show CallsIn (Fence.wide.inRound l) 2 Tryz.prog 47 _ _ _ from callsIn_wide.2 (HCON.out _)).mono ?_⟩
        rintro e w' ⟨rfl, X2, rfl⟩
        gi_wp2
        refine ⟨?_, ?_, ?_, ?_, ?_⟩
        · exact ((KeepsOthers.of_exts ⟨X2, rfl⟩).from _).trans (KeepsFrom.of_grownBy (grown_set _ w.heap.size 0 _) (fun j e => by cases e; omega))
        · exact fun u hu => laysAs_else (hu.exts ⟨X2, rfl⟩) (by dsimp only; omega) _
        · exact World.Exts.setCell exq (by dsimp only; omega) _
        · exact Nat.le_trans hB0 (Nat.le_trans (World.Exts.size ⟨X2, rfl⟩) (by simp))
        · exact ⟨(st.1 ++ (y ++ [10]), st.2), _, _, by rw [show 1 + (k + 1) = 1 + k + 1 by omega]; exact HREP.out, HTX.out, by rw [HSZ.out]; omega, by dsimp only; omega, HB2.out X2⟩
      rw [decide_eq_true h63] at hcon
      have hput : ∀ (W : World), w.Exts W → Calls Tryz.prog 48 #[.int .i64 (1 + (k : Int)), .string ⟨y.toArray⟩] W (PutB W (putR (1 + k) y)) := fun W hE => by
        have h2 := sheet_put_any (1 + k) ⟨y.toArray⟩ W (HW.out.mono hE) (by omega) (by omega) h63
        rw [hcast] at h2
        exact h2
      have hputs := fun (z : List UInt8) (h : putR (1 + k) y = some z) => hrep.trans (rep_put h63 h)
      have hputn := fun (h : putR (1 + k) y = none) => hrep.trans (rep_none h63 h)
      have hputl := fun (z : List UInt8) (h : putR (1 + k) y = some z) => putR_len h
      obtain ⟨PR, hPR⟩ : ∃ x, putR (1 + k) y = x := ⟨_, rfl⟩
      rw [hPR] at hput hputs hputn hputl
      cases PR with
      | none =>
        have hRn := hputn rfl
        have hRn2 : R = (([], [((1 + k : Nat) : Int)]), 113) := by rw [HCLEAN.out, hRn]; rfl
        rw [hcast] at hRn2
        have hB2 : ∀ W', (w.ext XW).Exts W' → ReBx ((W'.setCell ⟨f, 0, none⟩ (.int .i64 (1 + (k : Int)))).setCell ⟨f, 1, none⟩ (.int .i64 113)) w.heap.size f (f + 1 + 1) r v st.2 (1 + (k : Int)) 113 := fun W' hE =>
          have h2 := hB.exts hE
          ⟨laysAs_else (laysAs_else h2.s (by dsimp only; omega) _) (by dsimp only; omega) _, laysAs_else (laysAs_else h2.bl (by dsimp only; omega) _) (by dsimp only; omega) _, LaysAs.set (cs := [.int .i64 (1 + (k : Int)), .int .i64 0]) (i := 1) (LaysAs.set (cs := [.int .i64 0, .int .i64 0]) (i := 0) h2.f _) _, (h2.own.set (by dsimp only; omega) _).set (by dsimp only; omega) _⟩
        have HCON := Lib.hid hcon
        clear hcon
        have HPUT := Lib.hid hput
        clear hput
        have HRN := Lib.hid hRn2
        clear hRn2
        have HB2 := Lib.hid hB2
        clear hB2
        have HR := Lib.hid hr
        clear hr
        have HB := Lib.hid hB
        clear hB
        clear h htx hszx hx hy hputs hputn hputl hPR hrep hRn
        dsimp only [Act.put]
        gi_wp2
        refine ⟨trivial, (show CallsIn (Fence.wide.inRound l) 2 Tryz.prog 47 _ _ _ from callsIn_wide.2 (HCON.out _)).mono ?_⟩
        rintro e w' ⟨rfl, X2, rfl⟩
        gi_wp2
        refine ⟨trivial, (show CallsIn (Fence.wide.inRound l) 2 Tryz.prog 48 _ _ _ from callsIn_wide.2 (HPUT.out _ exq)).mono ?_⟩
        rintro e w' ⟨⟨X3, rfl⟩, ⟨_, rb, rfl⟩ | ⟨_, _, hf, _⟩⟩
        rotate_left
        · exact absurd hf (by simp)
        gi_wp2
        refine ⟨?_, rfl, ?_, 1 + k, r, v, st.2, by omega, by omega, ?_, ?_⟩
        · exact ((KeepsOthers.of_exts exq).from _).trans ((KeepsFrom.of_grownBy (grown_set _ f 0 _) (fun j e => by cases e; omega)).trans (KeepsFrom.of_grownBy (grown_set _ f 1 _) (fun j e => by cases e; omega)))
        · exact World.Exts.setCell (World.Exts.setCell exq (by dsimp only; omega) _) (by dsimp only; omega) _
        · rw [hcast]; exact HRN.out
        · rw [hcast]; exact HB2.out _ exq
      | some z =>
        have hrp := hputs z rfl
        have hzl := hputl z rfl
        have hown := hB.own
        obtain ⟨i0, hi, hz0, hz1, hz2⟩ := info_parts elem_int.inf
        have HCON := Lib.hid hcon
        clear hcon
        have HPUT := Lib.hid hput
        clear hput
        have HRP := Lib.hid hrp
        clear hrp
        have HR := Lib.hid hr
        clear hr
        have HB := Lib.hid hB
        clear hB
        have HOWN := Lib.hid hown
        clear hown
        clear h hx hy hputs hputn hputl hPR hrep
        dsimp only [Act.put]
        gi_wp2
        refine ⟨trivial, (show CallsIn (Fence.wide.inRound l) 2 Tryz.prog 47 _ _ _ from callsIn_wide.2 (HCON.out _)).mono ?_⟩
        rintro e w' ⟨rfl, X2, rfl⟩
        gi_wp2
        refine ⟨trivial, (show CallsIn (Fence.wide.inRound l) 2 Tryz.prog 48 _ _ _ from callsIn_wide.2 (HPUT.out _ exq)).mono ?_⟩
        rintro e w' ⟨⟨X3, rfl⟩, ⟨hf, _⟩ | ⟨z2, rb, hf, rfl, hrb⟩⟩
        · exact absurd hf (by simp)
        obtain rfl := Option.some.inj hf
        have hrl : rb.size = y.length := by rw [← tx_len, hrb]; exact hzl
        have htx2 := htx rb
        have hsz2 := hszx rb
        rw [hrb] at htx2
        have HTX := Lib.hid htx2
        clear htx2
        have HSZ := Lib.hid hsz2
        clear hsz2
        have hE3 : (w.ext XW).Exts ((((w.ext XW).ext X2).ext X3).alloc (.cells #[.int .i64 (1 + (k : Int))] 3)) := exq
        have hnew : ∀ (j : Nat) (u : Value), ([.int .i64 (1 + (k : Int))] : List Value)[j]? = some u → ((((w.ext XW).ext X2).ext X3).alloc (.cells #[.int .i64 (1 + (k : Int))] 3)).cell? ((⟨(((w.ext XW).ext X2).ext X3).heap.size, 0, none⟩ : Addr).add j) = some u := by
          intro j u hj
          rw [show (⟨(((w.ext XW).ext X2).ext X3).heap.size, 0, none⟩ : Addr).add j = ⟨(((w.ext XW).ext X2).ext X3).heap.size, j, none⟩ from by unfold Addr.add; split <;> simp_all]
          rw [World.cell?_alloc_new]
          simpa using hj
        have hbs : f + 1 + 1 ≤ ((((w.ext XW).ext X2).ext X3).alloc (.cells #[.int .i64 (1 + (k : Int))] 3)).heap.size := by have h1 := hE3.size; have h2 := hB0; omega
        have HE3 := Lib.hid hE3
        clear hE3
        have HNEW := Lib.hid hnew
        clear hnew
        have HBS := Lib.hid hbs
        clear hbs
        clear htx hszx hf
        gi_wp2_with (gi_at_builtin; refine wpListIn_append_own _ rfl _ _ 45 rfl (f + 1 + 1) 3 i0 (.int .i64 0) 1 8 Tryz.underlying45 hi hz0 hz1 hz2 rfl (by decide) _ _ _ rfl (ownsRow_exts HOWN.out HE3.out) ⟨(((w.ext XW).ext X2).ext X3).heap.size, 0, none⟩ 1 1 [.int .i64 (1 + (k : Int))] rfl rfl HNEW.out (by intro u hu; simp at hu; subst hu; rfl) (by unfold maxLen; omega) (by omega) HBS.out ?_; intro v' w1 hown' hgrow _; have hno : ∀ b, b < f + 1 + 1 → v.ownBlock ≠ some b := (fun b hb e => by have h2 := (HOWN.out.lt b e).1; omega); have hS1 := laysAs_own (HB.out.s.exts HE3.out) hgrow (hno _ (by omega)); have hL1 := laysAs_own (HB.out.bl.exts HE3.out) hgrow (hno _ (by omega)); have hF1 := laysAs_own (HB.out.f.exts HE3.out) hgrow (hno _ (by omega)); have hKF := keeps_own (ownsRow_exts HOWN.out HE3.out) hgrow V.heap.size; have hEw1 : w.Exts w1 := exts_turn (World.Exts.trans ⟨XW, rfl⟩ HE3.out) hgrow (fun b e => by have h2 := (HOWN.out.lt b e).1; omega); have hT1 : ∀ u, LaysAs (w.ext XW) (f + 1) (.cells #[u] 9 (0, 0)) → LaysAs w1 (f + 1) (.cells #[u] 9 (0, 0)) := (fun u hu => laysAs_own (hu.exts HE3.out) hgrow (hno _ (by omega))); obtain ⟨g', cap', rfl⟩ := ownsRow_succ hown'; have q0 := LaysAs.cell hS1 0 _ rfl; have q1 := LaysAs.cell hL1 0 _ rfl; have q2 := laysAs_frz (i := 0) hS1; have q3 := laysAs_frz (i := 0) hL1; have q4 := Lays.of_cell q0; have q5 := Lays.of_cell q1)
        refine ⟨?_, ?_, ?_, ?_, (st.1 ++ (z ++ [10]), st.2 ++ [((1 + k : Nat) : Int)]), r ++ (rb ++ (⟨#[10]⟩ : ByteArray)), _, ?_, HTX.out, ?_, ?_, ⟨LaysAs.set (cs := [.string r]) (i := 0) (laysAs_else hS1 (by dsimp only; omega) _) _, laysAs_else (LaysAs.set (cs := [v]) (i := 0) hL1 _) (by dsimp only; omega) _, laysAs_else (laysAs_else hF1 (by dsimp only; omega) _) (by dsimp only; omega) _, ?_⟩⟩
        · exact ((KeepsOthers.of_exts HE3.out).from _).trans (hKF.trans ((KeepsFrom.of_grownBy (grown_set _ (w.heap.size + 1) 0 _) (fun j e => by cases e; omega)).trans (KeepsFrom.of_grownBy (grown_set _ w.heap.size 0 _) (fun j e => by cases e; omega))))
        · exact fun u hu => laysAs_else (laysAs_else (hT1 u hu) (by dsimp only; omega) _) (by dsimp only; omega) _
        · exact World.Exts.setCell (World.Exts.setCell hEw1 (by dsimp only; omega) _) (by dsimp only; omega) _
        · exact Nat.le_trans hB0 (Nat.le_trans HE3.out.size (Nat.le_trans hgrow.size (by simp)))
        · rw [show 1 + (k + 1) = 1 + k + 1 by omega]; exact HRP.out
        · rw [HSZ.out]; omega
        · rw [List.length_append, List.length_singleton]; omega
        · rw [List.length_append, List.flatMap_append, hcast]
          exact (hown'.set (by dsimp only; omega) _).set (by dsimp only; omega) _
    case done =>
      intro W hfn h hD
      have hD2 := hD
      obtain ⟨st, r, v, hrep, hr, hrs, hsl, hB⟩ := h.st
      rw [numL_len, List.drop_length] at hrep
      rw [numL_len] at hrs hsl
      have hkn : (cutLines s.data.toList).1.length ≤ 1500 := by have h2 := HCL.out.1; omega
      have hRR : R = (st, 0) := by rw [HCLEAN.out, hrep]; rfl
      obtain ⟨nn, hnl⟩ : ∃ t, st.2.length = t := ⟨_, rfl⟩
      have hnl2 : nn ≤ 1500 := by omega
      have hown := hB.own
      rw [hnl] at hown
      obtain ⟨qv, cv, hqv⟩ := owns_len hown
      subst hqv
      obtain ⟨XW, rfl⟩ : ∃ X : Ext w, W = w.ext X := h.exts
      have s0 := LaysAs.cell hB.s 0 _ rfl
      have l0 := LaysAs.cell hB.bl 0 _ rfl
      have f0 := LaysAs.cell hB.f 0 _ rfl
      have f1 := LaysAs.cell hB.f 1 _ rfl
      have fs := laysAs_frz (i := 0) hB.s
      have fl := laysAs_frz (i := 0) hB.bl
      have ns := Lays.of_cell s0
      have nl := Lays.of_cell l0
      have nf := Lays.of_cell f0
      have nf1 := Lays.of_cell f1
      have HRR := Lib.hid hRR
      clear hRR
      have HNL := Lib.hid hnl
      clear hnl
      have HR := Lib.hid hr
      clear hr
      have HB := Lib.hid hB
      clear hB
      have HOWN := Lib.hid hown
      clear hown
      have HD := Lib.hid hD
      clear hD
      have HD2 := Lib.hid hD2
      clear hD2
      clear h hrep hfn hrs hsl hkn hsV hlV hfV htV
      show Code.wpF 5 Tryz.prog 20 _ _ _ _
      refine wpF_of_wp ?_
      go_upto_region 17 with fail
      obtain ⟨hc1, hc2, hc3⟩ := own_caps HOWN.out
      have hclip := fun (W : World) => Clip_int_any qv nn cv W hc1 hc2 hc3
      have HCLIP := Lib.hid hclip
      clear hclip
      clear hc1 hc2 hc3
      refine wp_region_ext_tail 3 (by kernel_rfl) (by kernel_rfl) ?_
      simp only [List.take_succ_cons, List.take_zero, List.drop_succ_cons, List.drop_zero]
      repeat (go_big_quiet_step ((go_at_call 49; exact Calls.in_ext (HCLIP.out _))))
      refine wpQuiet_nil ?_
      rintro _ ⟨X, rfl⟩
      go_wp2_with fail
      show LeavesInM Fence.wide 5 Tryz.prog _ _ _ _ _ _
      have hB9 := HB.out.exts (W' := (w.ext XW).ext X) ⟨X, rfl⟩
      have hS9 := laysAs_else (LaysAs.set (cs := [.string r]) (i := 0) hB9.s (.string r)) (a := ⟨w.heap.size + 1, 0, none⟩) (by dsimp only; omega) (.slice qv nn nn)
      have hL9 := LaysAs.set (cs := [.slice qv nn cv]) (i := 0) (laysAs_else hB9.bl (a := ⟨w.heap.size, 0, none⟩) (by dsimp only; omega) (.string r)) (.slice qv nn nn)
      have hD8 : LaysAs ((w.ext XW).ext X) V.heap.size (.deferred (some [])) := (show LaysAs (w.ext XW) V.heap.size (.deferred (some [])) from HD.out).exts ⟨X, rfl⟩
      have hD9 := laysAs_else (laysAs_else hD8 (a := ⟨w.heap.size, 0, none⟩) (by dsimp only; omega) (.string r)) (a := ⟨w.heap.size + 1, 0, none⟩) (by dsimp only; omega) (.slice qv nn nn)
      have hO9 := ((hB9.own.set (p := ⟨w.heap.size, 0, none⟩) (by dsimp only; omega) (.string r)).set (p := ⟨w.heap.size + 1, 0, none⟩) (by dsimp only; omega) (.slice qv nn nn))
      rw [hzV] at hD9
      refine ⟨by simp, .inl ⟨_, _, rfl, run_takeDeferred hD9, ?_⟩⟩
      have hg9 := grownBy_putObj' ((((w.ext XW).ext X).setCell ⟨w.heap.size, 0, none⟩ (.string r)).setCell ⟨w.heap.size + 1, 0, none⟩ (.slice qv nn nn)) (f + 1 + 1) (.deferred none)
      have y0 := LaysAs.cell (cs := [.string r]) (hS9.turn (bT := f + 1 + 1) (by omega) hg9 (fun r e => by cases e; exact .inl rfl)) 0 _ rfl
      have y1 := LaysAs.cell (cs := [.slice qv nn nn]) (hL9.turn (bT := f + 1 + 1) (by omega) hg9 (fun r e => by cases e; exact .inl rfl)) 0 _ rfl
      have hE8 : w.Exts ((((w.ext XW).ext X).setCell ⟨w.heap.size, 0, none⟩ (.string r)).setCell ⟨w.heap.size + 1, 0, none⟩ (.slice qv nn nn)) := World.Exts.setCell (World.Exts.setCell exq (by dsimp only; omega) _) (by dsimp only; omega) _
      have hE9 := exts_turn hE8 hg9 (fun b e => by cases e; omega)
      have hO8 := ownsRow_putObj hO9 (.deferred none) hD9 rfl
      refine ⟨.tuple #[.string r, .slice qv nn nn, .int .i64 0], by simp [results, Tryz.results20, go_sem, y0, y1], hE9, r, .slice qv nn nn, ?_, ?_, ?_⟩
      · rw [HRR.out]
      · rw [HRR.out]; exact HR.out
      · rw [HRR.out]
        exact row_clip (IsRow.of_owns (enc := fun x : Int => [.int .i64 x]) (by rw [HNL.out] at hO8 ⊢; exact hO8) (fun _ _ => rfl)) HNL.out
    case stop =>
      rintro c k W ⟨rfl, hE, n, r, v, l2, h1, h2, h3, h4⟩ hD
      obtain ⟨XW, rfl⟩ : ∃ X : Ext w, W = w.ext X := hE
      have s0 := LaysAs.cell h4.s 0 _ rfl
      have l0 := LaysAs.cell h4.bl 0 _ rfl
      have f0 := LaysAs.cell h4.f 0 _ rfl
      have f1 := LaysAs.cell h4.f 1 _ rfl
      have fs := laysAs_frz (i := 0) h4.s
      have fl := laysAs_frz (i := 0) h4.bl
      have ns := Lays.of_cell s0
      have nl := Lays.of_cell l0
      have nf := Lays.of_cell f0
      have nf1 := Lays.of_cell f1
      have HRR := Lib.hid h3
      clear h3
      have HB := Lib.hid h4
      clear h4
      have HD := Lib.hid hD
      clear hD
      clear hsV hlV hfV htV
      gi_wp2
      show Code.wpF 5 Tryz.prog 20 _ _ _ _
      refine wpF_of_wp ?_
      go_wp2_with fail
      go_big_region
      go_wp2_with fail
      · show LeavesInM Fence.wide 5 Tryz.prog _ _ _ _ _ _
        have hsz9 : f + 1 + 1 < (w.ext XW).heap.size := by have h5 := (show LaysAs (w.ext XW) V.heap.size (.deferred (some [])) from HD.out).lt; omega
        have hS9 : LaysAs ((((((w.ext XW).alloc (.cells #[.int .i64 n] 3)).setCell ⟨w.heap.size, 0, none⟩ (.string ⟨#[]⟩)).setCell ⟨w.heap.size + 1, 0, none⟩ (.slice (some ⟨(w.ext XW).heap.size, 0, none⟩) 1 1)).drew)) w.heap.size (.cells [.string ⟨#[]⟩].toArray 9 (0, 0)) := (laysAs_else (LaysAs.set (cs := [.string r]) (i := 0) (HB.out.s.exts (World.Exts.alloc (World.Exts.refl _) _)) _) (by dsimp only; omega) _).exts (World.Exts.drew (World.Exts.refl _))
        have hL9 : LaysAs ((((((w.ext XW).alloc (.cells #[.int .i64 n] 3)).setCell ⟨w.heap.size, 0, none⟩ (.string ⟨#[]⟩)).setCell ⟨w.heap.size + 1, 0, none⟩ (.slice (some ⟨(w.ext XW).heap.size, 0, none⟩) 1 1)).drew)) (w.heap.size + 1) (.cells [.slice (some ⟨(w.ext XW).heap.size, 0, none⟩) 1 1].toArray 45 (0, 0)) := (LaysAs.set (cs := [v]) (i := 0) (laysAs_else (HB.out.bl.exts (World.Exts.alloc (World.Exts.refl _) _)) (by dsimp only; omega) _) _).exts (World.Exts.drew (World.Exts.refl _))
        have hD9 : LaysAs ((((((w.ext XW).alloc (.cells #[.int .i64 n] 3)).setCell ⟨w.heap.size, 0, none⟩ (.string ⟨#[]⟩)).setCell ⟨w.heap.size + 1, 0, none⟩ (.slice (some ⟨(w.ext XW).heap.size, 0, none⟩) 1 1)).drew)) V.heap.size (.deferred (some [])) := (laysAs_else (laysAs_else (LaysAs.exts (show LaysAs (w.ext XW) V.heap.size (.deferred (some [])) from HD.out) (World.Exts.alloc (World.Exts.refl _) _)) (by dsimp only; omega) _) (by dsimp only; omega) _).exts (World.Exts.drew (World.Exts.refl _))
        have hr1 : LaysAs ((((((w.ext XW).alloc (.cells #[.int .i64 n] 3)).setCell ⟨w.heap.size, 0, none⟩ (.string ⟨#[]⟩)).setCell ⟨w.heap.size + 1, 0, none⟩ (.slice (some ⟨(w.ext XW).heap.size, 0, none⟩) 1 1)).drew)) (w.ext XW).heap.size (.cells [.int .i64 n].toArray 3 (0, 0)) := (laysAs_else (laysAs_else (laysAs_size (w.ext XW) (.cells #[.int .i64 n] 3) rfl) (by dsimp only; omega) _) (by dsimp only; omega) _).exts (World.Exts.drew (World.Exts.refl _))
        have hE8 : w.Exts ((((((w.ext XW).alloc (.cells #[.int .i64 n] 3)).setCell ⟨w.heap.size, 0, none⟩ (.string ⟨#[]⟩)).setCell ⟨w.heap.size + 1, 0, none⟩ (.slice (some ⟨(w.ext XW).heap.size, 0, none⟩) 1 1)).drew)) := World.Exts.drew (World.Exts.setCell (World.Exts.setCell (World.Exts.alloc (show w.Exts (w.ext XW) from ⟨XW, rfl⟩) _) (by dsimp only; omega) _) (by dsimp only; omega) _)
        obtain ⟨W9, hW9⟩ : ∃ W, ((((((w.ext XW).alloc (.cells #[.int .i64 n] 3)).setCell ⟨w.heap.size, 0, none⟩ (.string ⟨#[]⟩)).setCell ⟨w.heap.size + 1, 0, none⟩ (.slice (some ⟨(w.ext XW).heap.size, 0, none⟩) 1 1)).drew)) = W := ⟨_, rfl⟩
        rw [hW9] at hS9 hL9 hD9 hr1 hE8
        rw [hW9]
        obtain ⟨q, hq⟩ : ∃ q, (w.ext XW).heap.size = q := ⟨_, rfl⟩
        rw [hq] at hL9 hr1 hsz9
        rw [hq]
        refine ⟨by simp, .inl ⟨_, _, rfl, run_takeDeferred hD9, ?_⟩⟩
        have hg9 := grownBy_putObj' W9 V.heap.size (.deferred none)
        have y0 := LaysAs.cell (cs := [.string ⟨#[]⟩]) (hS9.turn (bT := V.heap.size) (by omega) hg9 (fun r e => by cases e; exact .inl rfl)) 0 _ rfl
        have y1 := LaysAs.cell (cs := [.slice (some ⟨q, 0, none⟩) 1 1]) (hL9.turn (bT := V.heap.size) (by omega) hg9 (fun r e => by cases e; exact .inl rfl)) 0 _ rfl
        have y2 := hr1.turn (bT := V.heap.size) (by omega) hg9 (fun r e => by cases e; exact .inl rfl)
        have y3 := LaysAs.cell (cs := [.int .i64 n]) y2 0 _ rfl
        have hE9 := exts_turn hE8 hg9 (fun b e => by cases e; omega)
        refine ⟨.tuple #[.string ⟨#[]⟩, .slice (some ⟨q, 0, none⟩) 1 1, .int .i64 113], by simp [results, Tryz.results20, go_sem, y0, y1], hE9, ⟨#[]⟩, .slice (some ⟨q, 0, none⟩) 1 1, ?_, ?_, ?_⟩
        · rw [HRR.out]
        · rw [HRR.out]
        · rw [HRR.out]
          exact ⟨_, q, 0, 1, rfl, ⟨Nat.le_refl 1, by decide⟩, fun _ => ⟨rfl, Lays.of_cell y3⟩, fun i x hx j u hu => by
            match i, j with
            | 0, 0 => cases hx; cases hu; exact y3
            | 0, j + 1 => cases hx; cases hu
            | i + 1, _ => cases hx⟩
      · show LeavesInM Fence.wide 5 Tryz.prog _ _ _ _ _ _
        have hsz9 : f + 1 + 1 < (w.ext XW).heap.size := by have h5 := (show LaysAs (w.ext XW) V.heap.size (.deferred (some [])) from HD.out).lt; omega
        have hS9 : LaysAs ((((((w.ext XW).setCell ⟨w.heap.size, 0, none⟩ (.string ⟨#[]⟩)).alloc (.cells #[.int .i64 n] 3)).setCell ⟨w.heap.size + 1, 0, none⟩ (.slice (some ⟨(w.ext XW).heap.size, 0, none⟩) 1 1)).drew)) w.heap.size (.cells [.string ⟨#[]⟩].toArray 9 (0, 0)) := (laysAs_else ((LaysAs.set (cs := [.string r]) (i := 0) HB.out.s _).exts (World.Exts.alloc (World.Exts.refl _) _)) (by dsimp only; omega) _).exts (World.Exts.drew (World.Exts.refl _))
        have hL9 : LaysAs ((((((w.ext XW).setCell ⟨w.heap.size, 0, none⟩ (.string ⟨#[]⟩)).alloc (.cells #[.int .i64 n] 3)).setCell ⟨w.heap.size + 1, 0, none⟩ (.slice (some ⟨(w.ext XW).heap.size, 0, none⟩) 1 1)).drew)) (w.heap.size + 1) (.cells [.slice (some ⟨(w.ext XW).heap.size, 0, none⟩) 1 1].toArray 45 (0, 0)) := (LaysAs.set (cs := [v]) (i := 0) ((laysAs_else HB.out.bl (by dsimp only; omega) _).exts (World.Exts.alloc (World.Exts.refl _) _)) _).exts (World.Exts.drew (World.Exts.refl _))
        have hD9 : LaysAs ((((((w.ext XW).setCell ⟨w.heap.size, 0, none⟩ (.string ⟨#[]⟩)).alloc (.cells #[.int .i64 n] 3)).setCell ⟨w.heap.size + 1, 0, none⟩ (.slice (some ⟨(w.ext XW).heap.size, 0, none⟩) 1 1)).drew)) V.heap.size (.deferred (some [])) := (laysAs_else ((laysAs_else (show LaysAs (w.ext XW) V.heap.size (.deferred (some [])) from HD.out) (by dsimp only; omega) _).exts (World.Exts.alloc (World.Exts.refl _) _)) (by dsimp only; omega) _).exts (World.Exts.drew (World.Exts.refl _))
        have hr1 : LaysAs ((((((w.ext XW).setCell ⟨w.heap.size, 0, none⟩ (.string ⟨#[]⟩)).alloc (.cells #[.int .i64 n] 3)).setCell ⟨w.heap.size + 1, 0, none⟩ (.slice (some ⟨(w.ext XW).heap.size, 0, none⟩) 1 1)).drew)) (w.ext XW).heap.size (.cells [.int .i64 n].toArray 3 (0, 0)) := (laysAs_else (laysAs_size ((w.ext XW).setCell ⟨w.heap.size, 0, none⟩ (.string ⟨#[]⟩)) (.cells #[.int .i64 n] 3) (n := (w.ext XW).heap.size) (by simp)) (by dsimp only; omega) _).exts (World.Exts.drew (World.Exts.refl _))
        have hE8 : w.Exts ((((((w.ext XW).setCell ⟨w.heap.size, 0, none⟩ (.string ⟨#[]⟩)).alloc (.cells #[.int .i64 n] 3)).setCell ⟨w.heap.size + 1, 0, none⟩ (.slice (some ⟨(w.ext XW).heap.size, 0, none⟩) 1 1)).drew)) := World.Exts.drew (World.Exts.setCell (World.Exts.alloc (World.Exts.setCell (show w.Exts (w.ext XW) from ⟨XW, rfl⟩) (by dsimp only; omega) _) _) (by dsimp only; omega) _)
        obtain ⟨W9, hW9⟩ : ∃ W, ((((((w.ext XW).setCell ⟨w.heap.size, 0, none⟩ (.string ⟨#[]⟩)).alloc (.cells #[.int .i64 n] 3)).setCell ⟨w.heap.size + 1, 0, none⟩ (.slice (some ⟨(w.ext XW).heap.size, 0, none⟩) 1 1)).drew)) = W := ⟨_, rfl⟩
        rw [hW9] at hS9 hL9 hD9 hr1 hE8
        rw [hW9]
        obtain ⟨q, hq⟩ : ∃ q, (w.ext XW).heap.size = q := ⟨_, rfl⟩
        rw [hq] at hL9 hr1 hsz9
        rw [hq]
        refine ⟨by simp, .inl ⟨_, _, rfl, run_takeDeferred hD9, ?_⟩⟩
        have hg9 := grownBy_putObj' W9 V.heap.size (.deferred none)
        have y0 := LaysAs.cell (cs := [.string ⟨#[]⟩]) (hS9.turn (bT := V.heap.size) (by omega) hg9 (fun r e => by cases e; exact .inl rfl)) 0 _ rfl
        have y1 := LaysAs.cell (cs := [.slice (some ⟨q, 0, none⟩) 1 1]) (hL9.turn (bT := V.heap.size) (by omega) hg9 (fun r e => by cases e; exact .inl rfl)) 0 _ rfl
        have y2 := hr1.turn (bT := V.heap.size) (by omega) hg9 (fun r e => by cases e; exact .inl rfl)
        have y3 := LaysAs.cell (cs := [.int .i64 n]) y2 0 _ rfl
        have hE9 := exts_turn hE8 hg9 (fun b e => by cases e; omega)
        refine ⟨.tuple #[.string ⟨#[]⟩, .slice (some ⟨q, 0, none⟩) 1 1, .int .i64 113], by simp [results, Tryz.results20, go_sem, y0, y1], hE9, ⟨#[]⟩, .slice (some ⟨q, 0, none⟩) 1 1, ?_, ?_, ?_⟩
        · rw [HRR.out]
        · rw [HRR.out]
        · rw [HRR.out]
          exact ⟨_, q, 0, 1, rfl, ⟨Nat.le_refl 1, by decide⟩, fun _ => ⟨rfl, Lays.of_cell y3⟩, fun i x hx j u hu => by
            match i, j with
            | 0, 0 => cases hx; cases hu; exact y3
            | 0, j + 1 => cases hx; cases hu
            | i + 1, _ => cases hx⟩
  have HREST := Lib.hid hrest
  clear hrest
  clear hK
  cases hem : s.toList.isEmpty
  · have hsf : Lib.hasSuffix s.data.toList [10] = true := by
      have h0 : 0 < s.data.toList.length := by
        rw [Lib.toList_data] at hem
        cases hl : s.data.toList with
        | nil => rw [hl] at hem; cases hem
        | cons a b => simp
      cases hh : Lib.hasSuffix s.data.toList [10] with
      | true => rfl
      | false => exact absurd hdirty (cut_dirty h0 (fun e => by rw [(suffix_iff h0).2 e] at hh; cases hh))
    have hsu2 := HSUF.out
    rw [hsf] at hsu2
    have HSUF2 := Lib.hid hsu2
    clear hsu2
    go_wp2_with (go_at_call 46; refine (HSUF2.out _).mono ?_; rintro e w' ⟨rfl, X2, rfl⟩)
    exact HREST.out _ _ _ _ _ _ _ _ _ _ _ exq
  · go_wp2_with fail
    exact HREST.out _ _ _ _ _ _ _ _ _ _ _ exq
end Go.Proofs.YtcickafaomfbmaaGreatDoor
