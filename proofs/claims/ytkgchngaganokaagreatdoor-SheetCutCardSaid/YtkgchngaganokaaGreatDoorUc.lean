/-
  The law SheetCut: its walk.
-/
import Derived.Test.YtkgchngaganokaaGreatDoorWtB
import Derived.Test.YtkgchngaganokaaGreatDoorWtB
namespace Go.Proofs.YtkgchngaganokaaGreatDoor
open Go.RowKit Kr
set_option linter.unusedSimpArgs false
set_option linter.unusedVariables false

set_option maxRecDepth 4000 in
set_option maxHeartbeats 4000000 in
theorem l11_SheetCut_any (kd : Int) (ps : List (List Int × Value)) (v : Value) (wh : Int) (w : World) (hk : 0 ≤ kd ∧ kd ≤ 255) (h : ListsAt w v ps) (hwh : (Lit.int .u32 wh).wf = true) (hw : LibAt w) (hc : ColsAt w) :
    Calls Tryz.prog 7 #[.agg #[.int .u8 kd, v], .int .u32 wh] w fun e w' => e = .returned (.bool true) ∧ w.Exts w' := by
  obtain ⟨q, cap, hv⟩ := h.row.len
  subst hv
  obtain ⟨rb, B, hF⟩ := front_of kd ps _ w hk h hw hc
  have hwb := wfU32 hwh
  cases rb
  · have HF := Lib.hid hF
    clear hF
    go_enter Tryz.func7, Tryz.ntmps7
    go_wp2_with (first | (go_at_call 9; refine (HF.out.alive _ exq).mono ?_; rintro e w' ⟨rfl, X19, rfl⟩) | (go_at_call 10; refine (HF.out.ready _ exq).mono ?_; rintro e w' ⟨rfl, X20, rfl⟩))
    go_ret
    exact ⟨rfl, exq⟩
  rcases Nat.lt_or_ge 1500 B.size with hT | hT
  · have hwl := hF.long rfl hT
    have HF := Lib.hid hF
    clear hF
    have HWL := Lib.hid hwl
    clear hwl
    clear hT
    go_enter Tryz.func7, Tryz.ntmps7
    go_wp2_with (first | (go_at_call 9; refine (HF.out.alive _ exq).mono ?_; rintro e w' ⟨rfl, X19, rfl⟩) | (go_at_call 10; refine (HF.out.ready _ exq).mono ?_; rintro e w' ⟨rfl, X20, rfl⟩) | (go_at_call 11; refine (HWL.out _ exq).mono ?_; rintro e w' ⟨rfl, X21, rfl⟩))
    go_ret
    exact ⟨rfl, exq⟩
  have hwl := hF.short rfl hT
  have hpos : 0 < B.size := by rw [← tx_len, hF.text]; exact text_pos _ _
  obtain ⟨i, hi⟩ : ∃ i : Nat, wh.tmod (B.size : Int) = (i : Int) ∧ i < B.size := by
    have h1 := Int.emod_nonneg wh (show (B.size : Int) ≠ 0 by omega)
    have h2 := Int.emod_lt_of_pos wh (show 0 < (B.size : Int) by omega)
    refine ⟨(wh % (B.size : Int)).toNat, ?_, by omega⟩
    rw [Int.tmod_eq_emod_of_nonneg hwb.1]
    omega
  have hcut := read_cut (hF.ok rfl).1 (i := i) (by rw [← hF.text, tx_len]; exact hT) (by rw [← hF.text, tx_len]; exact hi.2)
  rw [← hF.text] at hcut
  have hat := fun (W : World) => l11_at_any B i W (by omega)
  obtain ⟨m, hm⟩ : ∃ m, (B.data.toList.take i).count 10 + 1 = m := ⟨_, rfl⟩
  rw [hm] at hcut hat
  have hex : (B.extract 0 i).data.toList = B.data.toList.take i := by
    rw [Lib.extract_data]
    rfl
  have hrd := fun (W : World) (hE : w.Exts W) => read_error (B.extract 0 i) _ _ W (hw.mono hE) (by rw [hex]; exact hcut)
  obtain ⟨hrem, hi⟩ := hi
  have n1 : ¬ (B.size : Int) = 0 := by omega
  have HF := Lib.hid hF
  clear hF
  have HWL := Lib.hid hwl
  clear hwl
  have HRD := Lib.hid hrd
  clear hrd
  have HAT := Lib.hid hat
  clear hat
  clear hT hm hcut hex h hw hc hk
  go_enter Tryz.func7, Tryz.ntmps7
  go_wp2_with (first
    | (go_at_call 9; refine (HF.out.alive _ exq).mono ?_; rintro e w' ⟨rfl, X19, rfl⟩)
    | (go_at_call 10; refine (HF.out.ready _ exq).mono ?_; rintro e w' ⟨rfl, X20, rfl⟩)
    | (go_at_call 11; refine (HWL.out _ exq).mono ?_; rintro e w' ⟨rfl, X21, rfl⟩)
    | (go_at_call 12; refine (HRD.out _ exq).mono ?_; rintro e w' ⟨q9, c9, rfl, X23, rfl⟩)
    | (go_at_call 13; refine (HAT.out _).mono ?_; rintro e w' ⟨rfl, X24, rfl⟩))
  go_ret
  exact ⟨by simp, exq⟩
end Go.Proofs.YtkgchngaganokaaGreatDoor
