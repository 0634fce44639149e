/-
  Several texts in one: see the heads of its parts.
-/

import Derived.Test.YtcickafaomfbmaaGreatDoorZSBksVnP
import Derived.Test.YtcickafaomfbmaaGreatDoorZSBksVs
import Derived.Test.YtcickafaomfbmaaGreatDoorZSBksYaZ
import Derived.Test.YtcickafaomfbmaaGreatDoorZSBksYcD
import Derived.Test.YtcickafaomfbmaaGreatDoorZSBksIuQ
import Derived.Test.YtcickafaomfbmaaGreatDoorZSBksSoT
import Derived.Test.YtcickafaomfbmaaGreatDoorZSBksTm
import Derived.Test.YtcickafaomfbmaaGreatDoorZSBksVm
import Derived.Test.YtcickafaomfbmaaGreatDoorZSBksVqZ
import Derived.Test.YtcickafaomfbmaaGreatDoorZSBksYfG
import Derived.Test.YtcickafaomfbmaaGreatDoorZSBksVwI
import Derived.Test.YtcickafaomfbmaaGreatDoorRows
import Derived.Test.YtcickafaomfbmaaGreatDoorZSBksVdT
import Derived.ProofKit
import Derived.LaidMore
import Derived.LaidSub
import Derived.Stop.Joined
import Derived.Lib.LaidU8
import Derived.Shelf.Vars
import Derived.Handed
/-
  Walks of package sheet: a row as text.
-/
namespace Go.Proofs.YtcickafaomfbmaaGreatDoor
open Go.RowKit Kr
set_option linter.unusedSimpArgs false
set_option linter.unusedVariables false

set_option maxRecDepth 4000 in
set_option maxHeartbeats 4000000 in
theorem sheet_joined_any (x : List Int) (v : Value) (w : World) (h : IsRow (fun x : Int => [.int .i64 x]) 1 w v x) (h5 : x.length ≤ 5) (hz : ∀ z ∈ x, 0 ≤ z ∧ z ≤ 86400000) (hw : LibAt w) :
    Calls Tryz.prog 30 #[v] w (TextIs w (rowText x)) := by
  obtain ⟨q, cap, hv⟩ := h.len
  subst hv
  have hcs : ∀ j, j < x.length → ∃ bx ox, q = some ⟨bx, ox, none⟩ ∧ w.cell? ⟨bx, ox + j, none⟩ = some (.int .i64 (nth x j)) ∧ 0 ≤ nth x j ∧ nth x j ≤ 86400000 := fun j hj => by
    obtain ⟨p, bx, ox, cx, e, hm, hp, _⟩ := h.ex
    cases e
    obtain ⟨rfl, _⟩ := hp (by omega)
    exact ⟨bx, ox, rfl, row_nth h j hj, hz _ (List.mem_of_getElem? (nth_get hj))⟩
  have hfew := rowText_few h5 hz
  have HCS := Lib.hid hcs
  clear hcs
  have HFEW := Lib.hid hfew
  clear hfew
  have HW := Lib.hid hw
  clear hw
  clear h hz
  obtain ⟨nx, hnx⟩ : ∃ m, x.length = m := ⟨_, rfl⟩
  rw [hnx] at h5
  simp only [hnx]
  have hcs2 := HCS.out
  rw [hnx] at hcs2
  have HC2 := Lib.hid hcs2
  clear hcs2
  have HNX := Lib.hid hnx
  clear hnx
  clear HCS
  go_enter Tryz.func30, Tryz.ntmps30
  go_wp2_with fail
  go_loopw [3, 5, 8] (fun row _ i wr => ∃ (k : Nat) (ys : List ByteArray), k ≤ nx ∧ i = .int .i64 k ∧ Hid (ys.map (·.data.toList) = (x.take k).map Lib.itoa) ∧ Hid (wr.ownsRow w.heap.size 9 1 row ys.length (ys.flatMap fun x => [.string x])) ∧ w.Exts wr) (fun _ _ i _ => nx - (intOf i).toNat)
  case atStart => exact ⟨0, [], Nat.zero_le _, rfl, Lib.hid rfl, Lib.hid (World.ownsRow_nil _ _ _ _), World.Exts.refl _⟩
  case round =>
    obtain ⟨k, ys, hk, rfl, hys, hown, X3, rfl⟩ := hrel
    have hyl : ys.length = k := by
      have h1 := congrArg List.length hys.out
      rw [List.length_map, List.length_map, List.length_take, HNX.out] at h1
      omega
    have hown2 := hown.out
    rw [hyl] at hown2
    obtain ⟨qr, cr, hqr⟩ := owns_len hown2
    subst hqr
    have HO2 := Lib.hid hown2
    clear hown2
    have HYL := Lib.hid hyl
    clear hyl
    clear hown
    rcases Nat.lt_or_ge k nx with hlt | hge
    · obtain ⟨b, o, rfl, e, hz0, hz9⟩ := HC2.out k hlt
      have lb := Lays.of_cell e
      have w1 : (k : Int) < (nx : Int) := by omega
      have htk : x.take (k + 1) = x.take k ++ [nth x k] := by rw [List.take_add_one, nth_get (by rw [HNX.out]; exact hlt)]; rfl
      have hit := fun (W : World) (hE : w.Exts W) => Itoa_any (nth x k) (by omega) (by omega) W (HW.out.mono hE)
      have hnew : ∀ u : ByteArray, u.data.toList = Lib.itoa (nth x k) → (ys ++ [u]).map (·.data.toList) = (x.take (k + 1)).map Lib.itoa := fun u hu => by rw [htk, List.map_append, List.map_append, hys.out]; simp [hu]
      generalize nth x k = z at e hit hnew
      have HIT := Lib.hid hit
      clear hit
      have HNEW := Lib.hid hnew
      clear hnew
      clear htk hz0 hz9
      go_wp2_with (first
        | (go_at_call 31; refine (HIT.out _ exq).mono ?_; rintro e w' ⟨u, rfl, hu, X9, rfl⟩; have HU := Lib.hid (HNEW.out u hu); clear hu)
        | (at_builtin; refine wpList_append1W (.tmp 12) (.tmp 15) elem_str rfl rfl rfl (ownsRow_exts HO2.out exq) [.string _] _ (by simp) rfl rfl ?j1 ?j2 ?j4 ?j3 ?_))
      case j1 => intro u hu; simp at hu; subst hu; rfl
      case j2 => omega
      try (case j4 => decide)
      case j3 => exact World.Exts.size exq
      intro v' w' hown' happ
      have hE8 := happ.exts w exq (Nat.le_refl _)
      have HO3 := Lib.hid hown'
      clear hown'
      have HE8 := Lib.hid hE8
      clear hE8
      clear happ
      go_wp2_with fail
      go_roundw
      case rel => exact ⟨k + 1, ys ++ [u], by omega, by go_num, HU, Lib.hid (by rw [List.length_append, HYL.out, List.flatMap_append]; exact HO3.out), HE8.out⟩
      case measure => simp [intOf]; omega
    · have hkn : k = nx := by omega
      subst hkn
      have w1 : ¬ (k : Int) < (k : Int) := by omega
      have hall : ys.map (·.data.toList) = x.map Lib.itoa := by rw [hys.out, List.take_of_length_le (by rw [HNX.out]; omega)]
      have hjoin := fun (W : World) (hE : (World.ext w X3).Exts W) => Join_any qr ys cr ⟨#[44]⟩ W ((IsRow.of_owns (enc := fun x : ByteArray => [.string x]) (by rw [HYL.out]; exact HO2.out) (fun _ _ => rfl)).mono hE |> fun t => by rw [HYL.out]; exact t) (by rw [hall]; exact Nat.le_trans HFEW.out (by decide)) (by rw [HYL.out]; omega)
      rw [HYL.out, hall] at hjoin
      have HJOIN := Lib.hid hjoin
      clear hjoin
      clear hys hall
      go_wp2_with (go_at_call 68; refine (HJOIN.out _ exq).mono ?_; rintro e w' ⟨u, rfl, hu, X9, rfl⟩; have HU := Lib.hid hu; clear hu)
      go_ret
      exact ⟨exq, u, rfl, HU.out⟩
end Go.Proofs.YtcickafaomfbmaaGreatDoor

/-
  Walks of package sheet: a sheet is written.
-/
namespace Go.Proofs.YtcickafaomfbmaaGreatDoor
open Go.RowKit Kr
set_option linter.unusedSimpArgs false
set_option linter.unusedVariables false

theorem str_rows {w : World} {p : Option Addr} {n c : Nat} {zs : List ByteArray} (h : IsRow (fun x : ByteArray => [.string x]) 1 w (.slice p n c) zs) (hn : zs.length = n) (h50 : ∀ x ∈ zs, x.size ≤ 50) :
    ∀ k, k < n → ∃ b o, p = some ⟨b, o, none⟩ ∧ ∃ x, zs[k]? = some x ∧ w.cell? ⟨b, o + k, none⟩ = some (.string x) ∧ x.size ≤ 50 := fun k hk => by
  obtain ⟨p, b, o, c, e, hm, hp, hc⟩ := h.ex
  cases e
  obtain ⟨rfl, _⟩ := hp (by omega)
  obtain ⟨x, hx⟩ := some_of_lt (show k < zs.length by omega)
  have hd := hc k _ hx 0 _ rfl
  exact ⟨b, o, rfl, x, hx, by simpa using hd, h50 _ (List.mem_of_getElem? hx)⟩

attribute [local go_sem] index_kind1 index_kind2 index_kind3 index_kind4 field_kind0
set_option maxRecDepth 4000 in
set_option maxHeartbeats 8000000 in
theorem sheet_Write_any (hI : IceFn) (kd : Int) (ps : List (List Int × Value)) (v : Value) (w : World) (h : ListsAt w v ps) (hn : ps.length ≤ 900) (hk : 0 ≤ kd ∧ kd ≤ 255) (hw : LibAt w) :
    Calls Tryz.prog 10 #[.agg #[.int .u8 kd, v]] w (WriteIs w (writeR kd (ps.map Prod.fst))) := by
  obtain ⟨q, cap, hv⟩ := h.row.len
  subst hv
  have h1 := fun (W : World) (hE : w.Exts W) => sheet_Check_any hI kd ps _ W (h.mono hE) hn hk
  have hck : checkS kd (ps.map Prod.fst) = if sheetB kd (ps.map Prod.fst) then 0 else 110 := rfl
  rw [hck] at h1
  cases hb : sheetB kd (ps.map Prod.fst)
  · have hR : writeR kd (ps.map Prod.fst) = ([], 110) := by unfold writeR; rw [hb]; rfl
    rw [hb] at h1
    rw [hR]
    have H1 := Lib.hid h1
    clear h1
    clear h hw hR hb hck
    go_enter Tryz.func10, Tryz.ntmps10
    go_wp2_with (go_at_call 28; refine (H1.out _ exq).mono ?_; rintro e w' ⟨rfl, X2, rfl⟩)
    refine bodyPost_ret (v := .tuple #[.string ⟨#[]⟩, .int .i64 110]) (by simp [results, Tryz.results10, go_sem]) rfl ?_
    exact ⟨exq, ⟨#[]⟩, rfl, rfl⟩
  rw [hb] at h1
  have hnum := sheetB_nums hb (by rw [List.length_map]; omega)
  have hin : inb 1 4 kd = true := by unfold sheetB at hb; simp only [Bool.and_eq_true] at hb; exact hb.1
  have hkd : kd = 1 ∨ kd = 2 ∨ kd = 3 ∨ kd = 4 := by have := inb_le hin; omega
  have hfew := lines_few (kd := kd) (by rw [List.length_map]; omega) hnum
  have hR : writeR kd (ps.map Prod.fst) = if 1500 < (textFrom 1 (linesOf kd (ps.map Prod.fst))).length then ([], 9) else (textFrom 1 (linesOf kd (ps.map Prod.fst)), 0) := by unfold writeR; rw [hb]; rfl
  rw [hR]
  have hrow : ∀ k, k < ps.length → ∃ b o, q = some ⟨b, o, none⟩ ∧ ∃ x p cx, (ps.map Prod.fst)[k]? = some x ∧ w.cell? ⟨b, o + k, none⟩ = some (.slice p x.length cx) ∧ ∀ W, w.Exts W → Calls Tryz.prog 30 #[.slice p x.length cx] W (TextIs W (rowText x)) := fun k hk => by
    obtain ⟨b, o, c, e⟩ := lists_base h (by omega)
    cases e
    obtain ⟨p, b', o', cap', e, hm, hp, hc⟩ := h.row.ex
    cases e
    obtain ⟨e, _⟩ := hp (by omega)
    cases e
    obtain ⟨⟨x, xv⟩, hx⟩ := some_of_lt hk
    have hr := h.mem _ (List.mem_of_getElem? hx)
    obtain ⟨qx, cx, hxv⟩ := hr.len
    have hd := hc k _ hx 0 _ rfl
    dsimp only at hxv hr
    subst hxv
    have hmem : x ∈ ps.map Prod.fst := List.mem_map_of_mem (List.mem_of_getElem? hx)
    exact ⟨b, o, rfl, x, qx, cx, by rw [List.getElem?_map, hx]; rfl, by simpa using hd, fun W hE => sheet_joined_any x _ W (hr.mono hE) (hnum x hmem).1 (hnum x hmem).2 (hw.mono hE)⟩
  obtain ⟨L, hL⟩ : ∃ l, ps.map Prod.fst = l := ⟨_, rfl⟩
  have hLn : L.length = ps.length := by rw [← hL, List.length_map]
  rw [hL] at hrow hfew
  rw [hL]
  obtain ⟨A, hA⟩ : ∃ A, (if 1500 < (textFrom 1 (linesOf kd L)).length then (([], 9) : List UInt8 × Int) else (textFrom 1 (linesOf kd L), 0)) = A := ⟨_, rfl⟩
  rw [hA]
  have HA := Lib.hid hA
  clear hA
  have hIt := fun (W : World) (hE : w.Exts W) => Itoa_any (ps.length : Int) (by omega) (by omega) W (hw.mono hE)
  have hiz := itoa_few (z := (ps.length : Int)) (by omega) (by omega)
  have HROW := Lib.hid hrow
  clear hrow
  have HLN := Lib.hid hLn
  clear hLn
  have HFEW := Lib.hid hfew
  clear hfew
  have H1 := Lib.hid h1
  clear h1
  have HKD := Lib.hid hkd
  clear hkd
  have HIT := Lib.hid hIt
  clear hIt
  have HIZ := Lib.hid hiz
  clear hiz
  have HW := Lib.hid hw
  clear hw
  clear h hL hnum hin hR hb hck
  go_enter Tryz.func10, Tryz.ntmps10
  go_upto_region 4 with (go_at_call 28; refine (H1.out _ exq).mono ?_; rintro e w' ⟨rfl, X2, rfl⟩)
  go_cut [5] (fun c wx => ∃ (g : Nat) (wb : ByteArray), c = .slice (some ⟨g, 0, none⟩) 1 1 ∧ Hid (wb.data.toList = wordOf kd) ∧ Hid (wx.ownsRow (w.heap.size + 1) 9 1 (.slice (some ⟨g, 0, none⟩) 1 1) 1 [.string wb]) ∧ (w.alloc (.cells #[.int .u8 kd, .slice q ps.length cap] 36)).Exts wx)
  case first =>
    rcases HKD.out with rfl | rfl | rfl | rfl
    all_goals
      refine wp_region_ext_tail 5 (by kernel_rfl) (by kernel_rfl) ?_
      simp only [List.take_succ_cons, List.take_zero, List.drop_succ_cons, List.drop_zero]
      repeat (go_big_quiet_step ((go_at_call 29; exact Calls.in_ext (sheet_kinds_any _))))
      refine wpQuiet_nil ?_
      rintro _ ⟨X, rfl⟩
      go_wp2_with fail
      go_meet
      refine ⟨_, _, rfl, Lib.hid rfl, Lib.hid (World.ownsRow_lit (base := w.heap.size + 1) (e := 9) (size := 1) _ #[.string _] 1 ?_ (by decide) rfl), exq⟩
      exact Nat.le_trans (by simp) (World.Exts.size (a := w.alloc (.cells #[.int .u8 _, .slice q ps.length cap] 36)) exq)
  case rest =>
  obtain ⟨g, wb, rfl, hwd, hlit, X3, rfl⟩ := hcut
  clear HKD
  go_wp2_with fail
  go_loopw [5, 7, 25] (fun o _ i wr => ∃ (k : Nat) (ys : List ByteArray) (v : Value), k ≤ ps.length ∧ i = .int .i64 k ∧ o = v ∧ Hid (ys.map (·.data.toList) = wordOf kd :: (L.take k).map rowText) ∧ Hid (wr.ownsRow (w.heap.size + 1) 9 1 v ys.length (ys.flatMap fun x => [.string x])) ∧ (w.alloc (.cells #[.int .u8 kd, .slice q ps.length cap] 36)).Exts wr) (fun _ _ i _ => ps.length - (intOf i).toNat)
  case atStart => exact ⟨0, [wb], _, by omega, rfl, rfl, Lib.hid (by rw [List.take_zero, List.map_cons, hwd.out]; rfl), Lib.hid (by simpa using hlit.out), exq⟩
  case round =>
    clear hlit hwd
    obtain ⟨k, ys, v, hk, rfl, rfl, hys, hown, X4, rfl⟩ := hrel
    obtain ⟨qv, cv, hv⟩ := owns_len hown.out
    subst hv
    have hyl : ys.length = k + 1 := by
      have := congrArg List.length hys.out
      rw [List.length_map, List.length_cons, List.length_map, List.length_take, HLN.out] at this
      omega
    have HYL := Lib.hid hyl
    clear hyl
    rcases Nat.lt_or_ge k ps.length with hlt | hge
    · obtain ⟨b, o, rfl, x, p, cx, hx, e, hjn⟩ := HROW.out k hlt
      have lb := Lays.of_cell e
      have w1 : (k : Int) < (ps.length : Int) := by omega
      obtain ⟨nx, hnx⟩ : ∃ m, x.length = m := ⟨_, rfl⟩
      rw [hnx] at e hjn
      have hnew : ∀ u : ByteArray, u.data.toList = rowText x → (ys ++ [u]).map (·.data.toList) = wordOf kd :: (L.take (k + 1)).map rowText := fun u hu => by
        rw [List.map_append, hys.out, List.take_add_one, hx]
        simp [hu]
      have HNEW := Lib.hid hnew
      clear hnew
      have HJN := Lib.hid hjn
      clear hjn
      clear hx hnx
      go_wp2_with (first
        | (go_at_call 30; refine (HJN.out _ exq).mono ?_; rintro e w' ⟨⟨X9, rfl⟩, u, rfl, hu⟩; have HU := Lib.hid (HNEW.out u hu); clear hu)
        | (at_builtin; refine wpList_append1W (.tmp 29) (.tmp 32) elem_str rfl rfl rfl (ownsRow_exts hown.out exq) [.string _] _ (by simp) rfl rfl ?h1 ?h2 ?h4 ?h3 ?_))
      case h1 => intro u hu; simp at hu; subst hu; rfl
      case h2 => have := HYL.out; omega
      case h3 => exact Nat.le_trans (by simp) (World.Exts.size (a := w.alloc (.cells #[.int .u8 kd, .slice (some ⟨b, o, none⟩) ps.length cap] 36)) exq)
      case h4 => decide
      intro v' w' hown' happ
      have hE := happ.exts (w.alloc (.cells #[.int .u8 kd, .slice (some ⟨b, o, none⟩) ps.length cap] 36)) exq (by simp)
      have HO3 := Lib.hid hown'
      clear hown'
      have HE := Lib.hid hE
      clear hE
      clear happ
      go_wp2_with fail
      go_roundw
      case rel => exact ⟨k + 1, ys ++ [u], v', by omega, by go_num, rfl, HU, Lib.hid (by rw [List.length_append, List.flatMap_append]; exact HO3.out), HE.out⟩
      case measure => simp [intOf]; omega
    · have hkl : k = ps.length := by omega
      have w1 : ¬ (k : Int) < (ps.length : Int) := by omega
      have hfin : ∀ u : ByteArray, u.data.toList = Lib.itoa (ps.length : Int) → (ys ++ [(⟨#[101, 110, 100, 32]⟩ : ByteArray) ++ u]).map (·.data.toList) = linesOf kd L := fun u hu => by
        rw [List.map_append, hys.out, List.take_of_length_le (by rw [HLN.out]; omega)]
        unfold linesOf
        rw [List.map_cons, List.map_nil, tx_append, hu, HLN.out]
        rfl
      have HFIN := Lib.hid hfin
      clear hfin
      subst hkl
      go_wp2_with (first
        | (go_at_call 31; refine (HIT.out _ exq).mono ?_; rintro e w' ⟨u, rfl, hu, X5, rfl⟩; have hu8 : u.size ≤ 8 := (by rw [← tx_len, hu]; exact HIZ.out); have HU := Lib.hid (HFIN.out u hu); clear hu)
        | (at_builtin; refine wpList_append1W (.tmp 35) (.tmp 41) elem_str rfl rfl rfl (ownsRow_exts hown.out exq) [.string _] _ (by simp) rfl rfl ?i1 ?i2 ?i4 ?i3 ?_))
      case i1 => intro u hu; simp at hu; subst hu; rfl
      case i2 => have := HYL.out; omega
      case i3 => exact Nat.le_trans (by simp) (World.Exts.size (a := w.alloc (.cells #[.int .u8 kd, .slice q ps.length cap] 36)) exq)
      case i4 => decide
      intro v' w' hown' happ
      have hE := happ.exts w exq (by simp)
      have hri := IsRow.of_owns (enc := fun x : ByteArray => [.string x]) (ys := ys ++ [(⟨#[101, 110, 100, 32]⟩ : ByteArray) ++ u]) (by rw [List.length_append, List.flatMap_append]; exact hown') (fun _ _ => rfl)
      obtain ⟨zs, hzs⟩ : ∃ z, ys ++ [(⟨#[101, 110, 100, 32]⟩ : ByteArray) ++ u] = z := ⟨_, rfl⟩
      have hzl : zs.length = ps.length + 2 := by rw [← hzs, List.length_append, HYL.out]; rfl
      have hzt : zs.map (·.data.toList) = linesOf kd L := by rw [← hzs]; exact HU.out
      rw [hzs] at hri
      have h50 : ∀ z ∈ zs, z.size ≤ 50 := fun z hz => by
        have h2 := HFEW.out z.data.toList (by rw [← hzt]; exact List.mem_map_of_mem hz)
        rw [tx_len] at h2
        exact h2
      obtain ⟨nz, hnz⟩ : ∃ n, zs.length = n := ⟨_, rfl⟩
      obtain ⟨qz, cz, hvz⟩ := hri.len
      rw [hnz] at hvz hzl
      subst hvz
      have hzrow := str_rows hri hnz h50
      have hA2 := HA.out
      rw [← hzt] at hA2
      have HA2 := Lib.hid hA2
      clear hA2
      have hnz9 : nz ≤ 902 := by omega
      obtain ⟨X6, rfl⟩ := hE
      have HZROW := Lib.hid hzrow
      clear hzrow
      have HNZ := Lib.hid hnz
      clear hnz
      clear happ hown' hri hzs hzl hzt h50 HU HROW HLN HFEW HIT HIZ H1
      go_wp2_with fail
      go_loopw [8, 9, 10, 45] (fun a _ _ i wr => ∃ (k : Nat) (r : ByteArray), k ≤ nz ∧ i = .int .i64 k ∧ a = .string r ∧ Hid (r.data.toList = textFrom 1 ((zs.take k).map (·.data.toList))) ∧ r.size ≤ 100 * k ∧ (World.ext w X6).Exts wr) (fun _ _ _ i _ => nz - (intOf i).toNat)
      case atStart => exact ⟨0, ⟨#[]⟩, by omega, rfl, rfl, Lib.hid (by rw [List.take_zero]; rfl), by decide, exq⟩
      case round =>
        obtain ⟨k, r, hk, rfl, rfl, hr, hrs, X7, rfl⟩ := hrel
        rcases Nat.lt_or_ge k nz with hlt | hge
        · obtain ⟨b, o, rfl, x, hx, e, hx1⟩ := HZROW.out k hlt
          have lb := Lays.of_cell e
          have w1 : (k : Int) < (nz : Int) := by omega
          have hse : ∀ W : World, w.Exts W → Calls Tryz.prog 32 #[.int .i64 ((k : Int) + 1), .string x] W fun e w' => ∃ r, e = .returned (.string r) ∧ r.data.toList = sealT (k + 1) x.data.toList ∧ W.Exts w' := fun W hE => sheet_sealed_any (k + 1) x W (by omega) (by omega) (HW.out.mono hE)
          have hnew : ∀ u : ByteArray, u.data.toList = sealT (k + 1) x.data.toList → (r ++ (u ++ (⟨#[10]⟩ : ByteArray))).data.toList = textFrom 1 ((zs.take (k + 1)).map (·.data.toList)) := fun u hu => by
            rw [List.take_add_one, hx, Option.toList_some, List.map_append, List.map_cons, List.map_nil, textFrom_snoc, ← hr.out, tx_append, tx_append, hu, List.length_map, List.length_take, HNZ.out, Nat.min_eq_left (by omega), Nat.add_comm 1 k]
          have hus : ∀ u : ByteArray, u.data.toList = sealT (k + 1) x.data.toList → u.size = x.size + 4 := fun u hu => by
            rw [← tx_len, hu, ← tx_len]
            simp [sealT, three]
          have HSE := Lib.hid hse
          clear hse
          have HNEW := Lib.hid hnew
          clear hnew
          have HUS := Lib.hid hus
          clear hus
          clear hr hx
          go_wp2_with (go_at_call 32; refine (HSE.out _ exq).mono ?_; rintro e w' ⟨u, rfl, hu, X9, rfl⟩; have HU := Lib.hid (HNEW.out u hu); have hu4 := HUS.out u hu; clear hu)
          go_roundw
          case rel => exact ⟨k + 1, _, by omega, by go_num, rfl, HU, by rw [ByteArray.size_append, ByteArray.size_append, show (⟨#[10]⟩ : ByteArray).size = 1 from rfl]; omega, exq⟩
          case measure => simp [intOf]; omega
        · have w1 : ¬ (k : Int) < (nz : Int) := by omega
          have hfin2 : r.data.toList = textFrom 1 (zs.map (·.data.toList)) := by rw [hr.out, List.take_of_length_le (by rw [HNZ.out]; exact hge)]
          have hA3 := HA2.out
          rw [← hfin2, tx_len] at hA3
          have HFIN2 := Lib.hid hfin2
          clear hfin2
          clear hr
          rcases Nat.lt_or_ge 1500 r.size with ht | ht
          · rw [if_pos ht] at hA3
            have w2 : (1500 : Int) < (r.size : Int) := by omega
            have HA3 := Lib.hid hA3
            clear hA3
            clear ht
            go_wp2_with fail
            refine bodyPost_ret (v := .tuple #[.string ⟨#[]⟩, .int .i64 9]) (by simp [results, Tryz.results10, go_sem]) rfl ?_
            rw [← HA3.out]
            exact ⟨exq, _, rfl, rfl⟩
          · rw [if_neg (by omega)] at hA3
            have w2 : ¬ (1500 : Int) < (r.size : Int) := by omega
            have HA3 := Lib.hid hA3
            clear hA3
            clear ht
            go_wp2_with fail
            refine bodyPost_ret (v := .tuple #[.string r, .int .i64 0]) (by simp [results, Tryz.results10, go_sem]) rfl ?_
            rw [← HA3.out]
            exact ⟨exq, r, rfl, rfl⟩
end Go.Proofs.YtcickafaomfbmaaGreatDoor

/-
  Walks of the references: what compares sheets, a twin of a sheet.
-/
namespace Go
open Go.RowKit
end Go
namespace Go.Proofs.YtcickafaomfbmaaGreatDoor
open Go.RowKit Kr
set_option linter.unusedSimpArgs false
set_option linter.unusedVariables false

end Go.Proofs.YtcickafaomfbmaaGreatDoor

/-
  The law SheetTexts: its walk.
-/
namespace Go.Proofs.YtcickafaomfbmaaGreatDoor
open Go.RowKit Kr
set_option linter.unusedSimpArgs false
set_option linter.unusedVariables false

theorem ice_fn : IceFn := fun i x last b o c vl w h1 h2 h3 h4 => sheet_kinds_6_any i x last b o c vl w h1 h2 h3 h4
/-- The bytes of a list. -/
def bytesT (l : List UInt8) : ByteArray := ⟨l.toArray⟩
theorem WriteIs.det {w w' : World} {t : List UInt8 × Int} {e : Ending} (h : WriteIs w t e w') : e = .returned (.tuple #[.string (bytesT t.1), .int .i64 t.2]) ∧ w.Exts w' := by
  obtain ⟨hE, r, rfl, hr⟩ := h
  obtain rfl : r = bytesT t.1 := tx_inj (hr.trans rfl)
  exact ⟨rfl, hE⟩
theorem RepairIs.det {w w' : World} {R : (List UInt8 × List Int) × Int} {e : Ending} (h : RepairIs w R e w') : ∃ q c, e = .returned (.tuple #[.string (bytesT R.1.1), .slice q R.1.2.length c, .int .i64 R.2]) ∧ IsRow (fun x : Int => [.int .i64 x]) 1 w' (.slice q R.1.2.length c) R.1.2 ∧ w.Exts w' := by
  obtain ⟨hE, r, v, rfl, hr, hrow⟩ := h
  obtain rfl : r = bytesT R.1.1 := tx_inj (hr.trans rfl)
  obtain ⟨q, c, rfl⟩ := hrow.len
  exact ⟨q, c, rfl, hrow, hE⟩
theorem ReadIs.det {w w' : World} {R : (Int × List (List Int)) × Int × Int} {e : Ending} (h : ReadIs w R e w') : ∃ q c ps, e = .returned (.tuple #[.agg #[.int .u8 R.1.1, .slice q ps.length c], .int .i64 R.2.1, .int .i64 R.2.2]) ∧ ListsAt w' (.slice q ps.length c) ps ∧ ps.map Prod.fst = R.1.2 ∧ w.Exts w' := by
  obtain ⟨hE, v, ps, rfl, hL, hm⟩ := h
  obtain ⟨q, c, rfl⟩ := hL.row.len
  exact ⟨q, c, ps, rfl, hL, hm, hE⟩

end Go.Proofs.YtcickafaomfbmaaGreatDoor

/-
  What the rows of texts list: the library's tables and errors, the reference's columns and words; opened.
-/
namespace Go
open Go.ChangeShapes Go.WideShapes Go.ChangeAt Go.RowKit
/-- The row's way in, with the listed variables and the world's shape. -/
theorem handed_and_shape {H : Type} {enc : TypeId × Value → H} {a : Assume} {C : Checked} {os : Os} {f : FuncId} {fn : Func} {s : ChangeSpec} {conds : List PathCond} {apart fresh handsOn again : Bool} {X : World → Array Value → Prop}
    (hX : ∀ (w w' : World) (args : Array Value), w.heap = w'.heap → X w args → X w' args)
    (own : ownKnob C.prog.godebug = none) (started : os.Started) (noInit : C.prog.inits.idxOf? f = none) (hfn : C.prog.funcs[f]? = some fn)
    (witness : ∃ (w : World) (tape : Tape) (i : Input), w.os = os ∧ (w.forCall tape i).Shaped C.prog ∧ i.vars = [] ∧ Input.okWide C.prog (w.forCall tape i) .any w.heap.size f i ∧
      ((s.pre enc C.prog fn conds apart (w.forCall tape i).memory i.args ∧ X (w.forCall tape i).memory i.args) ∧ sizedMet enc C.prog fn (OpenSpec.ofChange s) apart (w.forCall tape i).memory i.args) ∧ a.holds C.prog (lone (Frame.enter C.prog f i.args .normal) [] (w.forCall tape i)))
    (contract : ∀ (W : World) (base : Nat) (args : Array Value) (ds gs : List (DataW H)) (before : List MemPlace),
      (∀ (j : Nat) t v, fn.params[j]? = some t → args[j]? = some v → Value.okWide C.prog W .any base t v) →
      DataW.Whole enc C.prog fn.params.toList s.vars apart W args.toList ds gs before → X W args → W.ShapedOpen C.prog →
      Calls C.prog f args W fun e W' => ∃ v, e = .returned v ∧ s.post enc C.prog fn apart fresh handsOn again W args v W') :
    ReturnsInHanded a C os f .any (fun w args => (s.pre enc C.prog fn conds apart w args ∧ X w args) ∧ sizedMet enc C.prog fn (OpenSpec.ofChange s) apart w args) (s.post enc C.prog fn apart fresh handsOn again) := by
  refine returnsInHanded_of_calls own started noInit witness fun w tape i _ hsh _ hok hpre _ => ?_
  obtain ⟨_, _, _, fn', hfn', _, _, _, _, hval⟩ := hok
  obtain rfl : fn' = fn := Option.some.inj (hfn'.symm.trans hfn)
  obtain ⟨⟨⟨ds, gs, before, hw, _⟩, hx⟩, _⟩ := hpre
  refine (contract (w.forCall tape i) w.heap.size i.args ds gs before hval (DataW.Whole.of_heap (w' := w.forCall tape i) (by rfl) hw) (hX _ _ _ (by rfl) hx) hsh).mono fun e W' ⟨v, he, hp⟩ => ?_
  subst he
  exact ChangeSpec.post_blind hp
end Go
namespace Go.Proofs.YtcickafaomfbmaaGreatDoor
open Go.ChangeShapes Go.RowKit Kr
set_option linter.unusedVariables false
set_option linter.unusedSimpArgs false

theorem tab_of {W : World} {l : List (String × DataW Unit)} (h : laidMet Tryz.prog l W) (hm : ("internal/strconv.uint64pow10", Rows.laid_internal_strconv_uint64pow10) ∈ l) : Lib.TabIs Tryz.prog W "internal/strconv.uint64pow10" .u64 Lib.pow10Tab := by
  obtain ⟨g, t, cs, fuel, p, hg, ht, hv, hd⟩ := Lib.laidMet.reads h hm
  obtain rfl := Option.some.inj ((show (Tryz.prog).globalNamed "internal/strconv.uint64pow10" = some 3 by kernel_rfl).symm.trans hg)
  obtain rfl := Option.some.inj ((show ((Tryz.prog).globals[3]?).map (·.type) = some 258 by kernel_rfl).symm.trans ht)
  have hcs := Lib.cells_of_tab (zs := Lib.pow10Tab) Tryz.underlying258 Tryz.underlying224 (by kernel_rfl) (by kernel_rfl) hd
  unfold Lib.TabIs
  rw [hv, ← hcs]
theorem err_of {W : World} {l : List (String × DataW Unit)} (h : laidMet Tryz.prog l W) {n : String} {g0 : Nat} {d : DataW Unit} (hm : (n, DataW.iface "*errors.errorString" d) ∈ l) (h1 : (Tryz.prog).globalNamed n = some g0) (h2 : ((Tryz.prog).globals[g0]?).map (·.type) = some 181) : ∃ tp p, W.var? Tryz.prog n = some #[.iface tp p] := by
  obtain ⟨g, t, cs, fuel, p, hg, ht, hv, hd⟩ := Lib.laidMet.reads h hm
  obtain rfl := Option.some.inj (h1.symm.trans hg)
  obtain rfl := Option.some.inj (h2.symm.trans ht)
  obtain ⟨f2, u, v, e, _, _⟩ := iface_of_trod Tryz.underlying181 hd
  exact ⟨u, v, by rw [hv]; exact congrArg some (Array.toList_inj.1 e)⟩
theorem most_of {W : World} (hsh : W.ShapedOpen Tryz.prog) : ∃ m, W.cell? ⟨2, 0, none⟩ = some (.int .i64 m) :=
  cell_of_shapedOpen_int (t := 3) (zero := #[.int .i64 0]) hsh (of_decide_eq_true (by kernel_rfl)) (by kernel_rfl) rfl (by kernel_rfl) (by kernel_rfl) Tryz.underlying3
/-- The door's own heap, and the table that is pinned. -/
noncomputable def pinnedWorld (os : Os) : World :=
  let w := World.doorLaid Tryz.prog 1500 os
  { w with heap := w.heap.modify 8 fun o => match o with
    | .cells _ t f => .cells (Go.Pinned.utf8FirstZ.map fun (z : Nat) => Value.int .u8 (z : Int)).toArray t f
    | o => o }
end Go.Proofs.YtcickafaomfbmaaGreatDoor
