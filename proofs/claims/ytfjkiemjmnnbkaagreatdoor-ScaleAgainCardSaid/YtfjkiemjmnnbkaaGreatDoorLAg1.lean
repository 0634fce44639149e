/-
  The law ScaleAgain: its walk.
-/
import Derived.Test.YtfjkiemjmnnbkaaGreatDoorAm
import Derived.Test.YtfjkiemjmnnbkaaGreatDoorRy
import Derived.Test.YtfjkiemjmnnbkaaGreatDoorWd
import Derived.Test.YtfjkiemjmnnbkaaGreatDoorHp
import Derived.Test.YtfjkiemjmnnbkaaGreatDoorAg
import Derived.Test.YtfjkiemjmnnbkaaGreatDoorLDr
import Derived.Test.YtfjkiemjmnnbkaaGreatDoorJk
import Derived.Deep.DeepCutAuto
namespace Go.Proofs.YtfjkiemjmnnbkaaGreatDoor
open Go.RowKit Kr
set_option linter.unusedSimpArgs false

set_option maxRecDepth 100000 in
set_option maxHeartbeats 8000000 in
noncomputable def l04ag_any_c1 : { G : Prop // G → ∀ (ts : List (Kr.Scale × Value)) (v : Value) (n : Norm) (ws : List Int) (wv : Value) (by_ : List Int) (bv : Value) (w : World) (_ : BayAt w v ts) (_ : IsRow (fun x : Int => [.int .u32 x]) 1 w wv ws) (_ : ∀ x ∈ ws, 0 ≤ x ∧ x ≤ 4294967295)
    (_ : IsRow (fun x : Int => [.int .u32 x]) 1 w bv by_) (_ : ∀ x ∈ by_, 0 ≤ x ∧ x ≤ 4294967295) (_ : CondsAt w),
    Calls Tryz.prog 5 #[.agg #[v], .agg #[.int .i64 n.total.lo, .int .i64 n.total.hi, .int .i64 n.added, .int .i64 n.warm, .int .i64 n.hard.lo, .int .i64 n.hard.hi, .bool n.stamp], wv, bv] w fun e w' => e = .returned (.bool true) ∧ w.Exts w' } := by
  apply Subtype.mk
  case property =>
  intro hG
  have HG := Lib.hid hG
  clear hG
  intro ts v n ws wv by_ bv w hrow hws hwb hby hbb hcd
  obtain ⟨q0, cp0, rfl⟩ := hrow.row.len
  obtain ⟨qw, cw, rfl⟩ := hws.len
  obtain ⟨qb, cb, rfl⟩ := hby.len
  have hrdy := fun (W : World) (hE : w.Exts W) => l04_ready_any ts _ emptyG (.slice none 0 0) (.slice none 0 0) (.slice none 0 0) W (hrow.mono hE) (IsRow.nil _) (IsRow.nil _) (IsRow.nil _)
  have HB := Lib.hid hrow
  clear hrow
  have HWS := Lib.hid hws
  clear hws
  have HWB := Lib.hid hwb
  clear hwb
  have HBY := Lib.hid hby
  clear hby
  have HBB := Lib.hid hbb
  clear hbb
  have HCD := Lib.hid hcd
  clear hcd
  cases hrd : readyB ts emptyG
  case false =>
    as_aux_lemma =>
    rw [hrd] at hrdy
    dsimp only [emptyG] at hrdy
    have HRDY := Lib.hid hrdy
    clear hrdy
    clear hrd
    go_enter Tryz.func5, Tryz.ntmps5
    go_wp2_with (first
      | (go_at_call 21; refine (l04_alive_any _ (HCD.out.mono exq)).mono ?_; rintro e w' ⟨rfl, X0, rfl⟩)
      | (go_at_call 22; refine (HRDY.out _ exq).mono ?_; rintro e w' ⟨rfl, X1, rfl⟩))
    go_ret
    exact ⟨rfl, exq⟩
  rw [hrd] at hrdy
  obtain ⟨hgr, hck⟩ := ready_parts hrd
  obtain ⟨hn8, -, -, -, -⟩ := great_not hgr
  dsimp only [emptyG] at hrdy
  have HRDY := Lib.hid hrdy
  clear hrdy
  clear hrd hgr
  rcases Nat.eq_zero_or_pos ts.length with h0 | h0
  ·
    as_aux_lemma =>
    have hb0 : ((ts.length : Int) == 0) = true := by simp [h0]
    clear hck h0
    go_enter Tryz.func5, Tryz.ntmps5
    go_wp2_with (first
      | (go_at_call 21; refine (l04_alive_any _ (HCD.out.mono exq)).mono ?_; rintro e w' ⟨rfl, X0, rfl⟩)
      | (go_at_call 22; refine (HRDY.out _ exq).mono ?_; rintro e w' ⟨rfl, X1, rfl⟩))
    go_ret
    exact ⟨rfl, exq⟩
  have hb0 : ((ts.length : Int) == 0) = false := beq_eq_false_iff_ne.2 (by omega)
  cases hn : normB n
  case false =>
    as_aux_lemma =>
    have HN := Lib.hid hn
    clear hn
    clear hck
    go_enter Tryz.func5, Tryz.ntmps5
    go_wp2_with (first
      | (go_at_call 21; refine (l04_alive_any _ (HCD.out.mono exq)).mono ?_; rintro e w' ⟨rfl, X0, rfl⟩)
      | (go_at_call 22; refine (HRDY.out _ exq).mono ?_; rintro e w' ⟨rfl, X1, rfl⟩)
      | (go_at_call 23; refine (r04_Norm_any n _).mono ?_; rintro e w' ⟨rfl, X2, rfl⟩; rw [HN.out]))
    go_ret
    exact ⟨rfl, exq⟩
  have hne : ts ≠ [] := fun e => by rw [e] at h0; simp at h0
  have hbay := (check_zero hck).1
  have hrt : ∀ x ∈ ts, right x.1 = true := fun x hx => bayOk_right hbay _ (List.mem_map.2 ⟨x, hx, rfl⟩)
  have HN := Lib.hid hn
  clear hn
  have HNE := Lib.hid hne
  clear hne
  have HBAY := Lib.hid hbay
  clear hbay
  have HRT := Lib.hid hrt
  clear hrt
  clear hck
  go_enter Tryz.func5, Tryz.ntmps5
  go_wp2_with (first
    | (go_at_call 21; refine (l04_alive_any _ (HCD.out.mono exq)).mono ?_; rintro e w' ⟨rfl, X0, rfl⟩)
    | (go_at_call 22; refine (HRDY.out _ exq).mono ?_; rintro e w' ⟨rfl, X1, rfl⟩)
    | (go_at_call 23; refine (r04_Norm_any n _).mono ?_; rintro e w' ⟨rfl, X2, rfl⟩; rw [HN.out])
    | (go_at_call 24; refine (l04_drawn_any ts _ by_ _ _ (HB.out.mono exq) (HBY.out.mono exq) HBB.out HNE.out hn8 HRT.out).mono ?_; rintro e w' ⟨v', ts', vt, rfl, h1, h2, h3, h4, h5, h6, h7⟩; (obtain ⟨qS, cS, eS⟩ := h1.row.len); (obtain ⟨qT, cT, eT⟩ := h3.len); subst eS; subst eT; (have H1 := Lib.hid h1); (have H2 := Lib.hid h2); (have H3 := Lib.hid h3); (have H5 := Lib.hid h5); (have H6 := Lib.hid h6); (have H7 := Lib.hid h7); clear h1 h2 h3 h5 h6 h7; (obtain ⟨X4, rfl⟩ := h4)))
  obtain ⟨A, hA⟩ : ∃ A, (World.ext _ X4).setCell ⟨w.heap.size, 0, none⟩ (.slice qS ts'.length cS) = A := ⟨_, rfl⟩
  have hsz : (World.ext _ X4).heap.size = A.heap.size := by rw [← hA]; simp
  have hbx : LaysAs (World.ext _ X4) w.heap.size (.cells [.slice q0 ts.length cp0].toArray 24 (0, 0)) := LaysAs.exts (laysAs_size w _ rfl) exq
  have hbA : BayAt A (.slice qS ts'.length cS) ts' := by
    rw [← hA]
    exact ⟨row_type H1.out.row H6.out hbx (by decide), fun x hx => row_type (H1.out.tr x hx) (H5.out x hx) hbx (by decide)⟩
  have htA := row_type (i := 0) (u := .slice qS ts'.length cS) H3.out H7.out hbx (by decide)
  rw [hA] at htA
  have hwA : w.Exts A := by rw [← hA]; exact exq
  have a0 : A.cell? ⟨w.heap.size, 0, none⟩ = some (.slice qS ts'.length cS) := by rw [← hA]; simp [go_sem]
  have m0 : A.cell? ⟨w.heap.size + 1, 0, none⟩ = some (.int .i64 n.total.lo) := by rw [← hA]; simp [go_sem]
  have m1 : A.cell? ⟨w.heap.size + 1, 1, none⟩ = some (.int .i64 n.total.hi) := by rw [← hA]; simp [go_sem]
  have m2 : A.cell? ⟨w.heap.size + 1, 2, none⟩ = some (.int .i64 n.added) := by rw [← hA]; simp [go_sem]
  have m3 : A.cell? ⟨w.heap.size + 1, 3, none⟩ = some (.int .i64 n.warm) := by rw [← hA]; simp [go_sem]
  have m4 : A.cell? ⟨w.heap.size + 1, 4, none⟩ = some (.int .i64 n.hard.lo) := by rw [← hA]; simp [go_sem]
  have m5 : A.cell? ⟨w.heap.size + 1, 5, none⟩ = some (.int .i64 n.hard.hi) := by rw [← hA]; simp [go_sem]
  have m6 : A.cell? ⟨w.heap.size + 1, 6, none⟩ = some (.bool n.stamp) := by rw [← hA]; simp [go_sem]
  rw [hA]
  rw [hsz]
  clear hbx hsz hA H1 H3 H5 H6 H7
  clear X4 X2 X1 X0
  have l1 := Lays.of_cell a0
  have l2 := Lays.of_cell m0
  have hDb : bayOk ((drawnD by_ (ts.map Prod.fst)).map Prod.fst) = true := by rw [drawnD_fst]; exact HBAY.out
  have hDt : ∀ x ∈ drawnD by_ (ts.map Prod.fst), TuneOk x.1 x.2 := drawnD_ok fun s hs => bayOk_right HBAY.out s hs
  have hDl : (drawnD by_ (ts.map Prod.fst)).length = ts'.length := by
    rw [drawnD_len, List.length_map]; have h := congrArg List.length H2.out; simp [drawB, drawnD_len] at h; exact h.symm
  have hnl : 0 < ts'.length := by rw [← hDl, drawnD_len, List.length_map]; exact h0
  have hnu : ts'.length ≤ 8 := by rw [← hDl, drawnD_len, List.length_map]; exact hn8
  rw [List.length_map] at htA
  generalize drawnD by_ (ts.map Prod.fst) = D at *
  have HBA := Lib.hid hbA
  clear hbA
  have HTA := Lib.hid htA
  clear htA
  have HDB := Lib.hid hDb
  clear hDb
  have HDT := Lib.hid hDt
  clear hDt
  have HDL := Lib.hid hDl
  clear hDl
  rename_i i9_1_1 i9_1_2 i9_1_3
  revert ts n ws by_ w q0 cp0 qw cw qb cb HB HWS HWB HBY HBB HCD hn8 HRDY h0 hb0 HN HNE HBAY HRT i9_1_1 ts' qS cS qT cT i9_1_2 i9_1_3 A hwA a0 m0 m1 m2 m3 m4 m5 m6 l1 l2 hnl hnu D H2 HBA HTA HDB HDT HDL
  exact HG.out
end Go.Proofs.YtfjkiemjmnnbkaaGreatDoor
