/-
  Several texts in one: see the heads of its parts.
-/
import Derived.Test.YtihkmkocgmkcjaaGreatDoorGsu

/-
  The walk of guest's Check.
-/
namespace Go.Proofs.YtihkmkocgmkcjaaGreatDoor
open Go.RowKit Go.Maps Kr
set_option linter.unusedSimpArgs false
set_option linter.unusedVariables false

set_option maxRecDepth 4000 in
set_option maxHeartbeats 8000000 in
noncomputable def guest_Check_any_c1 : { G : Prop // G → ∀ (m : Kr.Books) (v : BookV) (ts : List (Kr.Scale × Value)) (xs : List OutV) (w : World) (_ : BooksGood w m v ts xs) (_ : ∀ x ∈ xs, 0 ≤ x.o.state ∧ x.o.gear.loads.length ≤ 1000) (_ : CondsAt w),
    Calls Tryz.prog 73 #[.agg #[v.bay, v.cash, v.outs, v.rfds, .int .i64 m.fee, v.pleas]] w fun e w' => e = .returned (.int .i64 (checkB m)) ∧ w.Exts w' } := by
  apply Subtype.mk
  case property =>
  intro hG
  have HG := Lib.hid hG
  clear hG
  intro m v ts xs w hgd hmo hcd
  have h := hgd.at_
  have hxl := hgd.xl
  have hcl := hgd.cash
  have hol := hgd.outs
  have hrl := hgd.rfds
  have hpl := hgd.pleas
  have hxo := hgd.out
  obtain ⟨vb, vc, vo, vr, vp⟩ := v
  obtain ⟨qb, cb, hqb⟩ := h.bay.row.len
  obtain ⟨qc, cc, hqc⟩ := h.cash.len
  obtain ⟨qo, co, hqo⟩ := h.outs.len
  obtain ⟨qr, cr, hqr⟩ := h.rfds.len
  obtain ⟨qp, cp, hqp⟩ := h.pleas.len
  dsimp only at hqb hqc hqr hqp hqo
  subst hqb hqc hqr hqp hqo
  have hbay := h.bay
  dsimp only at hbay
  obtain ⟨_, bc, oc, _, ec, hmc, hqc, hcc⟩ := h.cash.ex
  cases ec
  obtain ⟨_, bo, oo, _, eo, hmo2, hqo, hco⟩ := h.outs.ex
  cases eo
  obtain ⟨_, br, or_, _, er, hmr, hqr, hcr⟩ := h.rfds.ex
  cases er
  have hos := h.ose
  have htse := h.tse
  obtain ⟨z1, hz1⟩ : ∃ z, bayOk (ts.map Prod.fst) = z := ⟨_, rfl⟩
  obtain ⟨b1, hb1⟩ : ∃ z, inAll 2 8 [(m.cash.length : Int)] = z := ⟨_, rfl⟩
  obtain ⟨b2, hb2⟩ : ∃ z, decide (m.outings.length ≤ 4) = z := ⟨_, rfl⟩
  obtain ⟨b3, hb3⟩ : ∃ z, decide (m.refunds.length ≤ 4) = z := ⟨_, rfl⟩
  obtain ⟨b4, hb4⟩ : ∃ z, inAll 0 100000 [m.fee] = z := ⟨_, rfl⟩
  obtain ⟨b5, hb5⟩ : ∃ z, decide (m.pleas.length ≤ 4) = z := ⟨_, rfl⟩
  obtain ⟨c1, hc1⟩ : ∃ z, inAll 0 1000000000 m.cash = z := ⟨_, rfl⟩
  obtain ⟨p1, hp1⟩ : ∃ z, inAll 2 ((m.cash.length : Int) - 1) m.pleas = z := ⟨_, rfl⟩
  obtain ⟨su, hsu⟩ : ∃ z, m.cash.sum = z := ⟨_, rfl⟩
  obtain ⟨s1, hs1⟩ : ∃ z, decide (su ≤ 1000000000) = z := ⟨_, rfl⟩
  have hfb : booksB m = ((b1 && (b2 && (b3 && (b4 && b5)))) && (c1 && (allN (outAt m.bay (m.cash.length : Int) m.outings) m.outings.length && (allN (rfdAt m.refunds) m.refunds.length && (p1 && (s1 && decide (m.cash.getD 1 0 = heldOf m.outings m.fee m.pleas))))))) := by
    unfold booksB headB
    rw [← inAll_one 2 8, ← inAll_one 0 100000, hb1, hb2, hb3, hb4, hb5, hc1, hp1, hsu, hs1]
  have hfin : checkB m = if z1 then (if booksB m then 0 else 100) else 40 := by unfold checkB; rw [← htse, hz1]
  have hck : check (ts.map Prod.fst) noGear = if z1 then 0 else 40 := by rw [check_none, hz1]
  have han : checkB m = _ := hfin
  rw [hfb] at han
  generalize checkB m = ans at han ⊢
  clear hfin hfb hgd
  have hg0 : ∀ x ∈ m.cash, 0 ≤ x ∧ x ≤ 1000000000000 ∨ c1 = false := fun x hx => by
    cases hq : c1
    · exact .inr rfl
    · rw [hq] at hc1
      have := inAll_mem hc1 x hx
      exact .inl ⟨by omega, by omega⟩
  have HAN := Lib.hid han
  clear han
  have HB := Lib.hid h
  clear h
  have HBAY := Lib.hid hbay
  clear hbay
  have HCK := Lib.hid hck
  clear hck
  have HXO := Lib.hid hxo
  clear hxo
  have HMO := Lib.hid hmo
  clear hmo
  have HOS := Lib.hid hos
  clear hos
  have HTSE := Lib.hid htse
  clear htse
  have HCD := Lib.hid hcd
  clear hcd
  have HZ1 := Lib.hid hz1
  clear hz1
  have B1 := Lib.hid hb1
  clear hb1
  have B4 := Lib.hid hb4
  clear hb4
  have C1 := Lib.hid hc1
  clear hc1
  have P1 := Lib.hid hp1
  clear hp1
  have HSU := Lib.hid hsu
  clear hsu
  have HG0 := Lib.hid hg0
  clear hg0
  have HQC := Lib.hid hqc
  clear hqc
  have HCC := Lib.hid hcc
  clear hcc
  have HQO := Lib.hid hqo
  clear hqo
  have HCO := Lib.hid hco
  clear hco
  have HQR := Lib.hid hqr
  clear hqr
  have HCR := Lib.hid hcr
  clear hcr
  go_enter Tryz.func73, Tryz.ntmps73
  cases z1
  case false =>
    clear HG
    go_wp2_with (first
      | (go_at_call 116; refine (scale_Check_any ts _ (noGear, .slice none 0 0, .slice none 0 0, .slice none 0 0) _ (HBAY.out.mono exq) ⟨IsRow.nil _, IsRow.nil _, IsRow.nil _, ⟨by decide, by decide⟩, fun l hl => by cases hl⟩).mono ?_; rintro e w' ⟨rfl, X1, rfl⟩; rw [HCK.out])
      | (go_at_call 74; ((with_reducible refine (guest_in_any 2 8 _ [(m.cash.length : Int)] _ (row_int1 _ _ _ (by simp))).mono ?_); rintro e w' ⟨rfl, X2, rfl⟩; rw [B1.out]))
      | (go_at_call 74; ((with_reducible refine (guest_in_any 0 1000000000 _ m.cash _ (HB.out.cash.mono exq)).mono ?_); rintro e w' ⟨rfl, X3, rfl⟩; rw [C1.out]))
      | (go_at_call 117; refine (guest_sum_int_any m.cash 118 _ _ (HB.out.cash.mono exq) (enters_of Tryz.func118 (by kernel_rfl) rfl) (fun x W => guest_Check_1_any x W) HCB.out (by omega)).mono ?_; rintro e w' ⟨rfl, X4, rfl⟩; rw [HSU.out])
      | (go_at_call 74; ((with_reducible refine (guest_in_any 0 100000 _ [m.fee] _ (row_int1 _ _ _ (by simp))).mono ?_); rintro e w' ⟨rfl, X5, rfl⟩; rw [B4.out]))
      | (go_at_call 119; refine (office_person_any _ qc m.cash.length cc _ m.pleas _ (by simp [go_sem]) (by omega) (HB.out.pleas.mono exq)).mono ?_; rintro e w' ⟨rfl, X6, rfl⟩; rw [P1.out]))
    go_ret
    exact ⟨by rw [HAN.out]; simp, exq⟩
  cases b1
  case false =>
    clear HG
    go_wp2_with (first
      | (go_at_call 116; refine (scale_Check_any ts _ (noGear, .slice none 0 0, .slice none 0 0, .slice none 0 0) _ (HBAY.out.mono exq) ⟨IsRow.nil _, IsRow.nil _, IsRow.nil _, ⟨by decide, by decide⟩, fun l hl => by cases hl⟩).mono ?_; rintro e w' ⟨rfl, X1, rfl⟩; rw [HCK.out])
      | (go_at_call 74; ((with_reducible refine (guest_in_any 2 8 _ [(m.cash.length : Int)] _ (row_int1 _ _ _ (by simp))).mono ?_); rintro e w' ⟨rfl, X2, rfl⟩; rw [B1.out]))
      | (go_at_call 74; ((with_reducible refine (guest_in_any 0 1000000000 _ m.cash _ (HB.out.cash.mono exq)).mono ?_); rintro e w' ⟨rfl, X3, rfl⟩; rw [C1.out]))
      | (go_at_call 117; refine (guest_sum_int_any m.cash 118 _ _ (HB.out.cash.mono exq) (enters_of Tryz.func118 (by kernel_rfl) rfl) (fun x W => guest_Check_1_any x W) HCB.out (by omega)).mono ?_; rintro e w' ⟨rfl, X4, rfl⟩; rw [HSU.out])
      | (go_at_call 74; ((with_reducible refine (guest_in_any 0 100000 _ [m.fee] _ (row_int1 _ _ _ (by simp))).mono ?_); rintro e w' ⟨rfl, X5, rfl⟩; rw [B4.out]))
      | (go_at_call 119; refine (office_person_any _ qc m.cash.length cc _ m.pleas _ (by simp [go_sem]) (by omega) (HB.out.pleas.mono exq)).mono ?_; rintro e w' ⟨rfl, X6, rfl⟩; rw [P1.out]))
    go_ret
    exact ⟨by rw [HAN.out]; simp, exq⟩
  cases c1
  case false =>
    clear HG
    go_wp2_with (first
      | (go_at_call 116; refine (scale_Check_any ts _ (noGear, .slice none 0 0, .slice none 0 0, .slice none 0 0) _ (HBAY.out.mono exq) ⟨IsRow.nil _, IsRow.nil _, IsRow.nil _, ⟨by decide, by decide⟩, fun l hl => by cases hl⟩).mono ?_; rintro e w' ⟨rfl, X1, rfl⟩; rw [HCK.out])
      | (go_at_call 74; ((with_reducible refine (guest_in_any 2 8 _ [(m.cash.length : Int)] _ (row_int1 _ _ _ (by simp))).mono ?_); rintro e w' ⟨rfl, X2, rfl⟩; rw [B1.out]))
      | (go_at_call 74; ((with_reducible refine (guest_in_any 0 1000000000 _ m.cash _ (HB.out.cash.mono exq)).mono ?_); rintro e w' ⟨rfl, X3, rfl⟩; rw [C1.out]))
      | (go_at_call 117; refine (guest_sum_int_any m.cash 118 _ _ (HB.out.cash.mono exq) (enters_of Tryz.func118 (by kernel_rfl) rfl) (fun x W => guest_Check_1_any x W) HCB.out (by omega)).mono ?_; rintro e w' ⟨rfl, X4, rfl⟩; rw [HSU.out])
      | (go_at_call 74; ((with_reducible refine (guest_in_any 0 100000 _ [m.fee] _ (row_int1 _ _ _ (by simp))).mono ?_); rintro e w' ⟨rfl, X5, rfl⟩; rw [B4.out]))
      | (go_at_call 119; refine (office_person_any _ qc m.cash.length cc _ m.pleas _ (by simp [go_sem]) (by omega) (HB.out.pleas.mono exq)).mono ?_; rintro e w' ⟨rfl, X6, rfl⟩; rw [P1.out]))
    go_ret
    exact ⟨by rw [HAN.out]; simp, exq⟩
  have hcb : ∀ x ∈ m.cash, 0 ≤ x ∧ x ≤ 1000000000000 := fun x hx => (HG0.out x hx).resolve_right (by simp)
  have HCB := Lib.hid hcb
  clear hcb
  clear HG0
  cases s1
  case false =>
    have h1 : 1000000000 < su := by simpa using hs1
    clear hs1
    clear HG
    go_wp2_with (first
      | (go_at_call 116; refine (scale_Check_any ts _ (noGear, .slice none 0 0, .slice none 0 0, .slice none 0 0) _ (HBAY.out.mono exq) ⟨IsRow.nil _, IsRow.nil _, IsRow.nil _, ⟨by decide, by decide⟩, fun l hl => by cases hl⟩).mono ?_; rintro e w' ⟨rfl, X1, rfl⟩; rw [HCK.out])
      | (go_at_call 74; ((with_reducible refine (guest_in_any 2 8 _ [(m.cash.length : Int)] _ (row_int1 _ _ _ (by simp))).mono ?_); rintro e w' ⟨rfl, X2, rfl⟩; rw [B1.out]))
      | (go_at_call 74; ((with_reducible refine (guest_in_any 0 1000000000 _ m.cash _ (HB.out.cash.mono exq)).mono ?_); rintro e w' ⟨rfl, X3, rfl⟩; rw [C1.out]))
      | (go_at_call 117; refine (guest_sum_int_any m.cash 118 _ _ (HB.out.cash.mono exq) (enters_of Tryz.func118 (by kernel_rfl) rfl) (fun x W => guest_Check_1_any x W) HCB.out (by omega)).mono ?_; rintro e w' ⟨rfl, X4, rfl⟩; rw [HSU.out])
      | (go_at_call 74; ((with_reducible refine (guest_in_any 0 100000 _ [m.fee] _ (row_int1 _ _ _ (by simp))).mono ?_); rintro e w' ⟨rfl, X5, rfl⟩; rw [B4.out]))
      | (go_at_call 119; refine (office_person_any _ qc m.cash.length cc _ m.pleas _ (by simp [go_sem]) (by omega) (HB.out.pleas.mono exq)).mono ?_; rintro e w' ⟨rfl, X6, rfl⟩; rw [P1.out]))
    go_ret
    exact ⟨by rw [HAN.out]; simp, exq⟩
  have h1 : su ≤ 1000000000 := by simpa using hs1
  clear hs1
  cases b2
  case false =>
    have h2 : 4 < xs.length := by have := hb2; simp at this; omega
    clear hb2
    clear HG
    go_wp2_with (first
      | (go_at_call 116; refine (scale_Check_any ts _ (noGear, .slice none 0 0, .slice none 0 0, .slice none 0 0) _ (HBAY.out.mono exq) ⟨IsRow.nil _, IsRow.nil _, IsRow.nil _, ⟨by decide, by decide⟩, fun l hl => by cases hl⟩).mono ?_; rintro e w' ⟨rfl, X1, rfl⟩; rw [HCK.out])
      | (go_at_call 74; ((with_reducible refine (guest_in_any 2 8 _ [(m.cash.length : Int)] _ (row_int1 _ _ _ (by simp))).mono ?_); rintro e w' ⟨rfl, X2, rfl⟩; rw [B1.out]))
      | (go_at_call 74; ((with_reducible refine (guest_in_any 0 1000000000 _ m.cash _ (HB.out.cash.mono exq)).mono ?_); rintro e w' ⟨rfl, X3, rfl⟩; rw [C1.out]))
      | (go_at_call 117; refine (guest_sum_int_any m.cash 118 _ _ (HB.out.cash.mono exq) (enters_of Tryz.func118 (by kernel_rfl) rfl) (fun x W => guest_Check_1_any x W) HCB.out (by omega)).mono ?_; rintro e w' ⟨rfl, X4, rfl⟩; rw [HSU.out])
      | (go_at_call 74; ((with_reducible refine (guest_in_any 0 100000 _ [m.fee] _ (row_int1 _ _ _ (by simp))).mono ?_); rintro e w' ⟨rfl, X5, rfl⟩; rw [B4.out]))
      | (go_at_call 119; refine (office_person_any _ qc m.cash.length cc _ m.pleas _ (by simp [go_sem]) (by omega) (HB.out.pleas.mono exq)).mono ?_; rintro e w' ⟨rfl, X6, rfl⟩; rw [P1.out]))
    go_ret
    exact ⟨by rw [HAN.out]; simp, exq⟩
  have h2 : xs.length ≤ 4 := by have := hb2; simp at this; omega
  have h2o : m.outings.length ≤ 4 := by simpa using hb2
  have H2O := Lib.hid h2o
  clear h2o
  clear hb2
  have HXL := Lib.hid hxl
  clear hxl
  cases b3
  case false =>
    have h3 : 4 < m.refunds.length := by simpa using hb3
    clear hb3
    clear HG
    go_wp2_with (first
      | (go_at_call 116; refine (scale_Check_any ts _ (noGear, .slice none 0 0, .slice none 0 0, .slice none 0 0) _ (HBAY.out.mono exq) ⟨IsRow.nil _, IsRow.nil _, IsRow.nil _, ⟨by decide, by decide⟩, fun l hl => by cases hl⟩).mono ?_; rintro e w' ⟨rfl, X1, rfl⟩; rw [HCK.out])
      | (go_at_call 74; ((with_reducible refine (guest_in_any 2 8 _ [(m.cash.length : Int)] _ (row_int1 _ _ _ (by simp))).mono ?_); rintro e w' ⟨rfl, X2, rfl⟩; rw [B1.out]))
      | (go_at_call 74; ((with_reducible refine (guest_in_any 0 1000000000 _ m.cash _ (HB.out.cash.mono exq)).mono ?_); rintro e w' ⟨rfl, X3, rfl⟩; rw [C1.out]))
      | (go_at_call 117; refine (guest_sum_int_any m.cash 118 _ _ (HB.out.cash.mono exq) (enters_of Tryz.func118 (by kernel_rfl) rfl) (fun x W => guest_Check_1_any x W) HCB.out (by omega)).mono ?_; rintro e w' ⟨rfl, X4, rfl⟩; rw [HSU.out])
      | (go_at_call 74; ((with_reducible refine (guest_in_any 0 100000 _ [m.fee] _ (row_int1 _ _ _ (by simp))).mono ?_); rintro e w' ⟨rfl, X5, rfl⟩; rw [B4.out]))
      | (go_at_call 119; refine (office_person_any _ qc m.cash.length cc _ m.pleas _ (by simp [go_sem]) (by omega) (HB.out.pleas.mono exq)).mono ?_; rintro e w' ⟨rfl, X6, rfl⟩; rw [P1.out]))
    go_ret
    exact ⟨by rw [HAN.out]; simp, exq⟩
  have h3 : m.refunds.length ≤ 4 := by simpa using hb3
  clear hb3
  cases b4
  case false =>
    clear HG
    go_wp2_with (first
      | (go_at_call 116; refine (scale_Check_any ts _ (noGear, .slice none 0 0, .slice none 0 0, .slice none 0 0) _ (HBAY.out.mono exq) ⟨IsRow.nil _, IsRow.nil _, IsRow.nil _, ⟨by decide, by decide⟩, fun l hl => by cases hl⟩).mono ?_; rintro e w' ⟨rfl, X1, rfl⟩; rw [HCK.out])
      | (go_at_call 74; ((with_reducible refine (guest_in_any 2 8 _ [(m.cash.length : Int)] _ (row_int1 _ _ _ (by simp))).mono ?_); rintro e w' ⟨rfl, X2, rfl⟩; rw [B1.out]))
      | (go_at_call 74; ((with_reducible refine (guest_in_any 0 1000000000 _ m.cash _ (HB.out.cash.mono exq)).mono ?_); rintro e w' ⟨rfl, X3, rfl⟩; rw [C1.out]))
      | (go_at_call 117; refine (guest_sum_int_any m.cash 118 _ _ (HB.out.cash.mono exq) (enters_of Tryz.func118 (by kernel_rfl) rfl) (fun x W => guest_Check_1_any x W) HCB.out (by omega)).mono ?_; rintro e w' ⟨rfl, X4, rfl⟩; rw [HSU.out])
      | (go_at_call 74; ((with_reducible refine (guest_in_any 0 100000 _ [m.fee] _ (row_int1 _ _ _ (by simp))).mono ?_); rintro e w' ⟨rfl, X5, rfl⟩; rw [B4.out]))
      | (go_at_call 119; refine (office_person_any _ qc m.cash.length cc _ m.pleas _ (by simp [go_sem]) (by omega) (HB.out.pleas.mono exq)).mono ?_; rintro e w' ⟨rfl, X6, rfl⟩; rw [P1.out]))
    go_ret
    exact ⟨by rw [HAN.out]; simp, exq⟩
  cases b5
  case false =>
    have h5 : 4 < m.pleas.length := by simpa using hb5
    clear hb5
    clear HG
    go_wp2_with (first
      | (go_at_call 116; refine (scale_Check_any ts _ (noGear, .slice none 0 0, .slice none 0 0, .slice none 0 0) _ (HBAY.out.mono exq) ⟨IsRow.nil _, IsRow.nil _, IsRow.nil _, ⟨by decide, by decide⟩, fun l hl => by cases hl⟩).mono ?_; rintro e w' ⟨rfl, X1, rfl⟩; rw [HCK.out])
      | (go_at_call 74; ((with_reducible refine (guest_in_any 2 8 _ [(m.cash.length : Int)] _ (row_int1 _ _ _ (by simp))).mono ?_); rintro e w' ⟨rfl, X2, rfl⟩; rw [B1.out]))
      | (go_at_call 74; ((with_reducible refine (guest_in_any 0 1000000000 _ m.cash _ (HB.out.cash.mono exq)).mono ?_); rintro e w' ⟨rfl, X3, rfl⟩; rw [C1.out]))
      | (go_at_call 117; refine (guest_sum_int_any m.cash 118 _ _ (HB.out.cash.mono exq) (enters_of Tryz.func118 (by kernel_rfl) rfl) (fun x W => guest_Check_1_any x W) HCB.out (by omega)).mono ?_; rintro e w' ⟨rfl, X4, rfl⟩; rw [HSU.out])
      | (go_at_call 74; ((with_reducible refine (guest_in_any 0 100000 _ [m.fee] _ (row_int1 _ _ _ (by simp))).mono ?_); rintro e w' ⟨rfl, X5, rfl⟩; rw [B4.out]))
      | (go_at_call 119; refine (office_person_any _ qc m.cash.length cc _ m.pleas _ (by simp [go_sem]) (by omega) (HB.out.pleas.mono exq)).mono ?_; rintro e w' ⟨rfl, X6, rfl⟩; rw [P1.out]))
    go_ret
    exact ⟨by rw [HAN.out]; simp, exq⟩
  have h5 : m.pleas.length ≤ 4 := by simpa using hb5
  clear hb5
  cases p1
  case false =>
    clear HG
    go_wp2_with (first
      | (go_at_call 116; refine (scale_Check_any ts _ (noGear, .slice none 0 0, .slice none 0 0, .slice none 0 0) _ (HBAY.out.mono exq) ⟨IsRow.nil _, IsRow.nil _, IsRow.nil _, ⟨by decide, by decide⟩, fun l hl => by cases hl⟩).mono ?_; rintro e w' ⟨rfl, X1, rfl⟩; rw [HCK.out])
      | (go_at_call 74; ((with_reducible refine (guest_in_any 2 8 _ [(m.cash.length : Int)] _ (row_int1 _ _ _ (by simp))).mono ?_); rintro e w' ⟨rfl, X2, rfl⟩; rw [B1.out]))
      | (go_at_call 74; ((with_reducible refine (guest_in_any 0 1000000000 _ m.cash _ (HB.out.cash.mono exq)).mono ?_); rintro e w' ⟨rfl, X3, rfl⟩; rw [C1.out]))
      | (go_at_call 117; refine (guest_sum_int_any m.cash 118 _ _ (HB.out.cash.mono exq) (enters_of Tryz.func118 (by kernel_rfl) rfl) (fun x W => guest_Check_1_any x W) HCB.out (by omega)).mono ?_; rintro e w' ⟨rfl, X4, rfl⟩; rw [HSU.out])
      | (go_at_call 74; ((with_reducible refine (guest_in_any 0 100000 _ [m.fee] _ (row_int1 _ _ _ (by simp))).mono ?_); rintro e w' ⟨rfl, X5, rfl⟩; rw [B4.out]))
      | (go_at_call 119; refine (office_person_any _ qc m.cash.length cc _ m.pleas _ (by simp [go_sem]) (by omega) (HB.out.pleas.mono exq)).mono ?_; rintro e w' ⟨rfl, X6, rfl⟩; rw [P1.out]))
    go_ret
    exact ⟨by rw [HAN.out]; simp, exq⟩
  go_wp2_with (first
    | (go_at_call 116; refine (scale_Check_any ts _ (noGear, .slice none 0 0, .slice none 0 0, .slice none 0 0) _ (HBAY.out.mono exq) ⟨IsRow.nil _, IsRow.nil _, IsRow.nil _, ⟨by decide, by decide⟩, fun l hl => by cases hl⟩).mono ?_; rintro e w' ⟨rfl, X1, rfl⟩; rw [HCK.out])
    | (go_at_call 74; ((with_reducible refine (guest_in_any 2 8 _ [(m.cash.length : Int)] _ (row_int1 _ _ _ (by simp))).mono ?_); rintro e w' ⟨rfl, X2, rfl⟩; rw [B1.out]))
    | (go_at_call 74; ((with_reducible refine (guest_in_any 0 1000000000 _ m.cash _ (HB.out.cash.mono exq)).mono ?_); rintro e w' ⟨rfl, X3, rfl⟩; rw [C1.out]))
    | (go_at_call 117; refine (guest_sum_int_any m.cash 118 _ _ (HB.out.cash.mono exq) (enters_of Tryz.func118 (by kernel_rfl) rfl) (fun x W => guest_Check_1_any x W) HCB.out (by omega)).mono ?_; rintro e w' ⟨rfl, X4, rfl⟩; rw [HSU.out])
    | (go_at_call 74; ((with_reducible refine (guest_in_any 0 100000 _ [m.fee] _ (row_int1 _ _ _ (by simp))).mono ?_); rintro e w' ⟨rfl, X5, rfl⟩; rw [B4.out]))
    | (go_at_call 119; refine (office_person_any _ qc m.cash.length cc _ m.pleas _ (by simp [go_sem]) (by omega) (HB.out.pleas.mono exq)).mono ?_; rintro e w' ⟨rfl, X6, rfl⟩; rw [P1.out]))
  have hwV : w.Exts (World.ext _ X6) := exq
  have o0 : (World.ext _ X6).cell? ⟨w.heap.size, 0, none⟩ = some (.slice qb ts.length cb) := by simp [go_sem]
  have o1 : (World.ext _ X6).cell? ⟨w.heap.size, 1, none⟩ = some (.slice qc m.cash.length cc) := by simp [go_sem]
  have o2 : (World.ext _ X6).cell? ⟨w.heap.size, 2, none⟩ = some (.slice qo xs.length co) := by simp [go_sem]
  have o3 : (World.ext _ X6).cell? ⟨w.heap.size, 3, none⟩ = some (.slice qr m.refunds.length cr) := by simp [go_sem]
  have m0 : (World.ext _ X6).cell? ⟨(World.ext _ X1).heap.size, 0, none⟩ = some (.slice qb ts.length cb) := by simp [go_sem]
  have m1 : (World.ext _ X6).cell? ⟨(World.ext _ X1).heap.size, 1, none⟩ = some (.slice qc m.cash.length cc) := by simp [go_sem]
  have m2 : (World.ext _ X6).cell? ⟨(World.ext _ X1).heap.size, 2, none⟩ = some (.slice qo xs.length co) := by simp [go_sem]
  have m4 : (World.ext _ X6).cell? ⟨(World.ext _ X1).heap.size, 4, none⟩ = some (.int .i64 m.fee) := by simp [go_sem]
  have m5 : (World.ext _ X6).cell? ⟨(World.ext _ X1).heap.size, 5, none⟩ = some (.slice qp m.pleas.length cp) := by simp [go_sem]
  generalize (World.ext _ X1).heap.size = ob at *
  generalize World.ext _ X6 = V at *
  have n1 := Lays.of_cell o0
  have n2 := Lays.of_cell m0
  have HWV := Lib.hid hwV
  clear hwV
  rename_i i9_1_1 i9_1_2 i9_1_3 i9_1_4 i9_1_5 i9_1_6 i9_1_7
  revert m ts xs w hcl hol hrl hpl qb cb qc cc qo co qr cr qp cp bc oc hmc bo oo hmo2 br or_ hmr su ans HB HBAY HXO HMO HOS HTSE HCD HSU HQC HCC HQO HCO HQR HCR HZ1 B1 C1 HCB h1 h2 H2O HXL h3 B4 h5 P1 i9_1_1 X1 HCK HAN X2 X3 X4 i9_1_2 i9_1_3 X5 i9_1_4 X6 i9_1_5 i9_1_6 i9_1_7 ob V o0 o1 o2 o3 m0 m1 m2 m4 m5 n1 n2 HWV
  exact HG.out
end Go.Proofs.YtihkmkocgmkcjaaGreatDoor

/-
  The walk of guest's Check.
-/
namespace Go.Proofs.YtihkmkocgmkcjaaGreatDoor
open Go.RowKit Go.Maps Kr
set_option linter.unusedSimpArgs false
set_option linter.unusedVariables false

set_option maxRecDepth 4000 in
set_option maxHeartbeats 8000000 in
noncomputable def guest_Check_any_c2 : { G : Prop // G → guest_Check_any_c1.val } := by
  apply Subtype.mk
  case property =>
  intro hG
  have HG := Lib.hid hG
  clear hG
  intro m ts xs w hcl hol hrl hpl qb cb qc cc qo co qr cr qp cp bc oc hmc bo oo hmo2 br or_ hmr su ans HB HBAY HXO HMO HOS HTSE HCD HSU HQC HCC HQO HCO HQR HCR HZ1 B1 C1 HCB h1 h2 H2O HXL h3 B4 h5 P1 i9_1_1 X1 HCK HAN X2 X3 X4 i9_1_2 i9_1_3 X5 i9_1_4 X6 i9_1_5 i9_1_6 i9_1_7 ob V o0 o1 o2 o3 m0 m1 m2 m4 m5 n1 n2 HWV
  go_loopw [5, 74] (fun la i wr => ∃ k : Nat, k ≤ xs.length ∧ i = .int .i64 k ∧ la = .int .i64 (lastOf m.outings k) ∧ Hid (∀ j, j < k → outAt m.bay (m.cash.length : Int) m.outings j = true) ∧ V.Exts wr) (fun _ i _ => xs.length - (intOf i).toNat)
  case atStart => exact ⟨0, Nat.zero_le _, rfl, rfl, Lib.hid (fun j hj => by omega), World.Exts.refl _⟩
  case round =>
    obtain ⟨k, hk, rfl, rfl, HA, hE⟩ := hrel
    obtain ⟨X7, rfl⟩ := hE
    rcases Nat.lt_or_ge k xs.length with hlt | hge
    · obtain ⟨rfl, hlay⟩ := HQO.out (by omega)
      obtain ⟨⟨o, gs, lv, rv, sv⟩, hx⟩ := some_of_lt hlt
      have hcs := HCO.out k _ hx
      have hxm := HXO.out _ (List.mem_of_getElem? hx)
      have hmx := HMO.out _ (List.mem_of_getElem? hx)
      have hok2 : m.outings[k]? = some o := by rw [← HOS.out, List.getElem?_map, hx]; rfl
      have hga := hxm.at_.gs
      have hl1 := hxm.at_.l
      have hl2 := hxm.at_.r
      have hl3 := hxm.at_.s
      dsimp only at hga hl1 hl2 hl3 hcs hmx
      obtain ⟨q1, p1, e1⟩ := hl1.len
      obtain ⟨q2, p2, e2⟩ := hl2.len
      obtain ⟨q3, p3, e3⟩ := hl3.len
      obtain ⟨qg, cg, e4⟩ := hga.len
      subst e1 e2 e3 e4
      obtain ⟨g1, hg1⟩ : ∃ z, outOk m.bay (m.cash.length : Int) o = z := ⟨_, rfl⟩
      have hgA : outAt m.bay (m.cash.length : Int) m.outings k = (!decide (o.id ≤ lastOf m.outings k) && g1) := by rw [outAt_last hok2, hg1]
      have hxk : outAt m.bay (m.cash.length : Int) m.outings k = false → allN (outAt m.bay (m.cash.length : Int) m.outings) m.outings.length = false := fun hh => allN_false (by have := HXL.out; omega) hh
      have hls := lastOf_succ hok2
      have hEw : w.Exts (World.ext V X7) := HWV.out.trans ⟨X7, rfl⟩
      have hR := fun (W : World) (hE : w.Exts W) (c0 : W.cell? ⟨ob, 0, none⟩ = some (.slice qb ts.length cb)) (c1 : W.cell? ⟨ob, 1, none⟩ = some (.slice qc m.cash.length cc)) => office_right_any ob m ⟨.slice qb ts.length cb, .slice qc m.cash.length cc, .slice (some ⟨bo, oo, none⟩) xs.length co, .slice qr m.refunds.length cr, .slice qp m.pleas.length cp⟩ ts xs ⟨o, .slice qg o.guests.length cg, .slice q1 o.gear.loads.length p1, .slice q2 o.gear.runners.length p2, .slice q3 o.gear.strokes.length p3⟩ W (HBAY.out.mono hE) HTSE.out (HB.out.cash.mono hE) c0 c1 (hxm.mono hE) hmx.1 hmx.2 (HCD.out.mono hE) HZ1.out (by omega)
      dsimp only at hR
      simp only [hg1] at hR
      obtain ⟨la, hla⟩ : ∃ z, lastOf m.outings k = z := ⟨_, rfl⟩
      rw [hla] at hgA ⊢
      have HCS := Lib.hid hcs
      clear hcs
      have HRC := Lib.hid hR
      clear hR
      have HLS := Lib.hid hls
      clear hls
      clear hga hl1 hl2 hl3 hx hok2 hxm hla hmx hg1
      rcases Int.lt_or_le la o.id with hid | hid
      · have hd : decide (o.id ≤ la) = false := by simp; omega
        rw [hd] at hgA
        cases g1
        case false =>
          have hbad := hxk (by rw [hgA]; rfl)
          have HBAD := Lib.hid hbad
          clear hbad
          clear hxk hgA
          go_wp2_with (first
            | (refine wpList_load_mid rfl 112 _ rfl bo (oo + k * 23) rfl [.int .i64 o.id, .int .i64 o.pilot, .int .i64 o.seats, .int .i64 o.price, .int .i64 o.part, .int .i64 o.norm.total.lo, .int .i64 o.norm.total.hi, .int .i64 o.norm.added, .int .i64 o.norm.warm, .int .i64 o.norm.hard.lo, .int .i64 o.norm.hard.hi, .bool o.norm.stamp, (.slice qg o.guests.length cg), .bool o.weighed, (.slice q1 o.gear.loads.length p1), .int .i64 o.gear.added, .int .i64 o.gear.base, .int .i64 o.gear.jitter, (.slice q2 o.gear.runners.length p2), (.slice q3 o.gear.strokes.length p3), .int .i64 o.gear.spread, .bool o.gear.stamp, .int .u8 o.state] _ (fun j u hju => hEw.cell (HCS.out j u hju)) Tryz.underlying112 rfl (by kernel_rfl) ?_)
            | (refine wpList_store_new (t := 112) (cells := #[.int .i64 o.id, .int .i64 o.pilot, .int .i64 o.seats, .int .i64 o.price, .int .i64 o.part, .int .i64 o.norm.total.lo, .int .i64 o.norm.total.hi, .int .i64 o.norm.added, .int .i64 o.norm.warm, .int .i64 o.norm.hard.lo, .int .i64 o.norm.hard.hi, .bool o.norm.stamp, (.slice qg o.guests.length cg), .bool o.weighed, (.slice q1 o.gear.loads.length p1), .int .i64 o.gear.added, .int .i64 o.gear.base, .int .i64 o.gear.jitter, (.slice q2 o.gear.runners.length p2), (.slice q3 o.gear.strokes.length p3), .int .i64 o.gear.spread, .bool o.gear.stamp, .int .u8 o.state]) (by rfl) (by rfl) (by kernel_rfl) (by rfl) (by simp [Value.oneCell']) ?_)
            | (refine wpList_load_guarded (by rfl) 112 _ rfl (World.ext V X7).heap.size 0 rfl [.int .i64 o.id, .int .i64 o.pilot, .int .i64 o.seats, .int .i64 o.price, .int .i64 o.part, .int .i64 o.norm.total.lo, .int .i64 o.norm.total.hi, .int .i64 o.norm.added, .int .i64 o.norm.warm, .int .i64 o.norm.hard.lo, .int .i64 o.norm.hard.hi, .bool o.norm.stamp, (.slice qg o.guests.length cg), .bool o.weighed, (.slice q1 o.gear.loads.length p1), .int .i64 o.gear.added, .int .i64 o.gear.base, .int .i64 o.gear.jitter, (.slice q2 o.gear.runners.length p2), (.slice q3 o.gear.strokes.length p3), .int .i64 o.gear.spread, .bool o.gear.stamp, .int .u8 o.state] _ (fun j u hju => by rw [Nat.zero_add]; exact LaysAs.cell (cs := [.int .i64 o.id, .int .i64 o.pilot, .int .i64 o.seats, .int .i64 o.price, .int .i64 o.part, .int .i64 o.norm.total.lo, .int .i64 o.norm.total.hi, .int .i64 o.norm.added, .int .i64 o.norm.warm, .int .i64 o.norm.hard.lo, .int .i64 o.norm.hard.hi, .bool o.norm.stamp, (.slice qg o.guests.length cg), .bool o.weighed, (.slice q1 o.gear.loads.length p1), .int .i64 o.gear.added, .int .i64 o.gear.base, .int .i64 o.gear.jitter, (.slice q2 o.gear.runners.length p2), (.slice q3 o.gear.strokes.length p3), .int .i64 o.gear.spread, .bool o.gear.stamp, .int .u8 o.state]) (LaysAs.new (World.ext V X7) (.cells #[.int .i64 o.id, .int .i64 o.pilot, .int .i64 o.seats, .int .i64 o.price, .int .i64 o.part, .int .i64 o.norm.total.lo, .int .i64 o.norm.total.hi, .int .i64 o.norm.added, .int .i64 o.norm.warm, .int .i64 o.norm.hard.lo, .int .i64 o.norm.hard.hi, .bool o.norm.stamp, (.slice qg o.guests.length cg), .bool o.weighed, (.slice q1 o.gear.loads.length p1), .int .i64 o.gear.added, .int .i64 o.gear.base, .int .i64 o.gear.jitter, (.slice q2 o.gear.runners.length p2), (.slice q3 o.gear.strokes.length p3), .int .i64 o.gear.spread, .bool o.gear.stamp, .int .u8 o.state] 112)) j u hju) Tryz.underlying112 rfl (by kernel_rfl) ?_)
            | (go_at_call 120; refine (HRC.out _ (exf HWV.out) (by simp [go_sem, m0]) (by simp [go_sem, m1])).mono ?_; rintro e w' ⟨rfl, X8, rfl⟩))
          go_ret
          exact ⟨by rw [HAN.out, HBAD.out]; simp, (exf HWV.out)⟩
        have hgood : ∀ j, j < k + 1 → outAt m.bay (m.cash.length : Int) m.outings j = true := below_snoc HA.out (by rw [hgA]; rfl)
        have HGOOD := Lib.hid hgood
        clear hgood
        clear hxk hgA
        go_wp2_with (first
          | (refine wpList_load_mid rfl 112 _ rfl bo (oo + k * 23) rfl [.int .i64 o.id, .int .i64 o.pilot, .int .i64 o.seats, .int .i64 o.price, .int .i64 o.part, .int .i64 o.norm.total.lo, .int .i64 o.norm.total.hi, .int .i64 o.norm.added, .int .i64 o.norm.warm, .int .i64 o.norm.hard.lo, .int .i64 o.norm.hard.hi, .bool o.norm.stamp, (.slice qg o.guests.length cg), .bool o.weighed, (.slice q1 o.gear.loads.length p1), .int .i64 o.gear.added, .int .i64 o.gear.base, .int .i64 o.gear.jitter, (.slice q2 o.gear.runners.length p2), (.slice q3 o.gear.strokes.length p3), .int .i64 o.gear.spread, .bool o.gear.stamp, .int .u8 o.state] _ (fun j u hju => hEw.cell (HCS.out j u hju)) Tryz.underlying112 rfl (by kernel_rfl) ?_)
          | (refine wpList_store_new (t := 112) (cells := #[.int .i64 o.id, .int .i64 o.pilot, .int .i64 o.seats, .int .i64 o.price, .int .i64 o.part, .int .i64 o.norm.total.lo, .int .i64 o.norm.total.hi, .int .i64 o.norm.added, .int .i64 o.norm.warm, .int .i64 o.norm.hard.lo, .int .i64 o.norm.hard.hi, .bool o.norm.stamp, (.slice qg o.guests.length cg), .bool o.weighed, (.slice q1 o.gear.loads.length p1), .int .i64 o.gear.added, .int .i64 o.gear.base, .int .i64 o.gear.jitter, (.slice q2 o.gear.runners.length p2), (.slice q3 o.gear.strokes.length p3), .int .i64 o.gear.spread, .bool o.gear.stamp, .int .u8 o.state]) (by rfl) (by rfl) (by kernel_rfl) (by rfl) (by simp [Value.oneCell']) ?_)
          | (refine wpList_load_guarded (by rfl) 112 _ rfl (World.ext V X7).heap.size 0 rfl [.int .i64 o.id, .int .i64 o.pilot, .int .i64 o.seats, .int .i64 o.price, .int .i64 o.part, .int .i64 o.norm.total.lo, .int .i64 o.norm.total.hi, .int .i64 o.norm.added, .int .i64 o.norm.warm, .int .i64 o.norm.hard.lo, .int .i64 o.norm.hard.hi, .bool o.norm.stamp, (.slice qg o.guests.length cg), .bool o.weighed, (.slice q1 o.gear.loads.length p1), .int .i64 o.gear.added, .int .i64 o.gear.base, .int .i64 o.gear.jitter, (.slice q2 o.gear.runners.length p2), (.slice q3 o.gear.strokes.length p3), .int .i64 o.gear.spread, .bool o.gear.stamp, .int .u8 o.state] _ (fun j u hju => by rw [Nat.zero_add]; exact LaysAs.cell (cs := [.int .i64 o.id, .int .i64 o.pilot, .int .i64 o.seats, .int .i64 o.price, .int .i64 o.part, .int .i64 o.norm.total.lo, .int .i64 o.norm.total.hi, .int .i64 o.norm.added, .int .i64 o.norm.warm, .int .i64 o.norm.hard.lo, .int .i64 o.norm.hard.hi, .bool o.norm.stamp, (.slice qg o.guests.length cg), .bool o.weighed, (.slice q1 o.gear.loads.length p1), .int .i64 o.gear.added, .int .i64 o.gear.base, .int .i64 o.gear.jitter, (.slice q2 o.gear.runners.length p2), (.slice q3 o.gear.strokes.length p3), .int .i64 o.gear.spread, .bool o.gear.stamp, .int .u8 o.state]) (LaysAs.new (World.ext V X7) (.cells #[.int .i64 o.id, .int .i64 o.pilot, .int .i64 o.seats, .int .i64 o.price, .int .i64 o.part, .int .i64 o.norm.total.lo, .int .i64 o.norm.total.hi, .int .i64 o.norm.added, .int .i64 o.norm.warm, .int .i64 o.norm.hard.lo, .int .i64 o.norm.hard.hi, .bool o.norm.stamp, (.slice qg o.guests.length cg), .bool o.weighed, (.slice q1 o.gear.loads.length p1), .int .i64 o.gear.added, .int .i64 o.gear.base, .int .i64 o.gear.jitter, (.slice q2 o.gear.runners.length p2), (.slice q3 o.gear.strokes.length p3), .int .i64 o.gear.spread, .bool o.gear.stamp, .int .u8 o.state] 112)) j u hju) Tryz.underlying112 rfl (by kernel_rfl) ?_)
          | (go_at_call 120; refine (HRC.out _ (exf HWV.out) (by simp [go_sem, m0]) (by simp [go_sem, m1])).mono ?_; rintro e w' ⟨rfl, X8, rfl⟩))
        go_roundw
        case rel => exact ⟨k + 1, by omega, by go_num, by rw [HLS.out], HGOOD, exq⟩
        case measure => simp [intOf]; omega
      · rw [decide_eq_true hid] at hgA
        have hbad := hxk (by rw [hgA]; rfl)
        have HBAD := Lib.hid hbad
        clear hbad
        clear hxk hgA
        go_wp2_with (first
          | (refine wpList_load_mid rfl 112 _ rfl bo (oo + k * 23) rfl [.int .i64 o.id, .int .i64 o.pilot, .int .i64 o.seats, .int .i64 o.price, .int .i64 o.part, .int .i64 o.norm.total.lo, .int .i64 o.norm.total.hi, .int .i64 o.norm.added, .int .i64 o.norm.warm, .int .i64 o.norm.hard.lo, .int .i64 o.norm.hard.hi, .bool o.norm.stamp, (.slice qg o.guests.length cg), .bool o.weighed, (.slice q1 o.gear.loads.length p1), .int .i64 o.gear.added, .int .i64 o.gear.base, .int .i64 o.gear.jitter, (.slice q2 o.gear.runners.length p2), (.slice q3 o.gear.strokes.length p3), .int .i64 o.gear.spread, .bool o.gear.stamp, .int .u8 o.state] _ (fun j u hju => hEw.cell (HCS.out j u hju)) Tryz.underlying112 rfl (by kernel_rfl) ?_)
          | (refine wpList_store_new (t := 112) (cells := #[.int .i64 o.id, .int .i64 o.pilot, .int .i64 o.seats, .int .i64 o.price, .int .i64 o.part, .int .i64 o.norm.total.lo, .int .i64 o.norm.total.hi, .int .i64 o.norm.added, .int .i64 o.norm.warm, .int .i64 o.norm.hard.lo, .int .i64 o.norm.hard.hi, .bool o.norm.stamp, (.slice qg o.guests.length cg), .bool o.weighed, (.slice q1 o.gear.loads.length p1), .int .i64 o.gear.added, .int .i64 o.gear.base, .int .i64 o.gear.jitter, (.slice q2 o.gear.runners.length p2), (.slice q3 o.gear.strokes.length p3), .int .i64 o.gear.spread, .bool o.gear.stamp, .int .u8 o.state]) (by rfl) (by rfl) (by kernel_rfl) (by rfl) (by simp [Value.oneCell']) ?_)
          | (refine wpList_load_guarded (by rfl) 112 _ rfl (World.ext V X7).heap.size 0 rfl [.int .i64 o.id, .int .i64 o.pilot, .int .i64 o.seats, .int .i64 o.price, .int .i64 o.part, .int .i64 o.norm.total.lo, .int .i64 o.norm.total.hi, .int .i64 o.norm.added, .int .i64 o.norm.warm, .int .i64 o.norm.hard.lo, .int .i64 o.norm.hard.hi, .bool o.norm.stamp, (.slice qg o.guests.length cg), .bool o.weighed, (.slice q1 o.gear.loads.length p1), .int .i64 o.gear.added, .int .i64 o.gear.base, .int .i64 o.gear.jitter, (.slice q2 o.gear.runners.length p2), (.slice q3 o.gear.strokes.length p3), .int .i64 o.gear.spread, .bool o.gear.stamp, .int .u8 o.state] _ (fun j u hju => by rw [Nat.zero_add]; exact LaysAs.cell (cs := [.int .i64 o.id, .int .i64 o.pilot, .int .i64 o.seats, .int .i64 o.price, .int .i64 o.part, .int .i64 o.norm.total.lo, .int .i64 o.norm.total.hi, .int .i64 o.norm.added, .int .i64 o.norm.warm, .int .i64 o.norm.hard.lo, .int .i64 o.norm.hard.hi, .bool o.norm.stamp, (.slice qg o.guests.length cg), .bool o.weighed, (.slice q1 o.gear.loads.length p1), .int .i64 o.gear.added, .int .i64 o.gear.base, .int .i64 o.gear.jitter, (.slice q2 o.gear.runners.length p2), (.slice q3 o.gear.strokes.length p3), .int .i64 o.gear.spread, .bool o.gear.stamp, .int .u8 o.state]) (LaysAs.new (World.ext V X7) (.cells #[.int .i64 o.id, .int .i64 o.pilot, .int .i64 o.seats, .int .i64 o.price, .int .i64 o.part, .int .i64 o.norm.total.lo, .int .i64 o.norm.total.hi, .int .i64 o.norm.added, .int .i64 o.norm.warm, .int .i64 o.norm.hard.lo, .int .i64 o.norm.hard.hi, .bool o.norm.stamp, (.slice qg o.guests.length cg), .bool o.weighed, (.slice q1 o.gear.loads.length p1), .int .i64 o.gear.added, .int .i64 o.gear.base, .int .i64 o.gear.jitter, (.slice q2 o.gear.runners.length p2), (.slice q3 o.gear.strokes.length p3), .int .i64 o.gear.spread, .bool o.gear.stamp, .int .u8 o.state] 112)) j u hju) Tryz.underlying112 rfl (by kernel_rfl) ?_)
          | (go_at_call 120; refine (HRC.out _ (exf HWV.out) (by simp [go_sem, m0]) (by simp [go_sem, m1])).mono ?_; rintro e w' ⟨rfl, X8, rfl⟩))
        go_ret
        exact ⟨by rw [HAN.out, HBAD.out]; simp, (exf HWV.out)⟩
    · have hnl : ¬ k < xs.length := by omega
      have hkn : k = m.outings.length := by have := HXL.out; omega
      have hA := HA.out
      rw [hkn] at hA
      have hou : allN (outAt m.bay (m.cash.length : Int) m.outings) m.outings.length = true := allN_iff.2 hA
      have HOU := Lib.hid hou
      clear hou
      clear hA HA hkn
      go_wp2_with fail
      rename_i i9_2_1 i9_2_2 i9_2_3 i9_2_4 i9_2_5
      revert m ts xs w hcl hol hrl hpl qb cb qc cc qo co qr cr qp cp bc oc hmc bo oo hmo2 br or_ hmr su ans HB HBAY HXO HMO HOS HTSE HCD HSU HQC HCC HQO HCO HQR HCR HZ1 B1 C1 HCB h1 h2 H2O HXL h3 B4 h5 P1 i9_1_1 X1 HCK HAN X2 X3 X4 i9_1_2 i9_1_3 X5 i9_1_4 X6 i9_1_5 i9_1_6 ob V o0 o1 o2 o3 m0 m1 m2 m4 m5 n1 n2 HWV u2 u7 u75 u76 u77 u78 u79 u80 u81 u82 u83 u84 u85 u86 u87 u88 u89 u90 k hk X7 hge hnl HOU i9_2_1 i9_2_2 i9_2_3 i9_2_4 i9_2_5
      exact HG.out
end Go.Proofs.YtihkmkocgmkcjaaGreatDoor

/-
  The walk of guest's Check.
-/
namespace Go.Proofs.YtihkmkocgmkcjaaGreatDoor
open Go.RowKit Go.Maps Kr
set_option linter.unusedSimpArgs false
set_option linter.unusedVariables false

set_option maxRecDepth 4000 in
set_option maxHeartbeats 8000000 in
noncomputable def guest_Check_any_c3 : { G : Prop // G → guest_Check_any_c2.val } := by
  apply Subtype.mk
  case property =>
  intro hG
  have HG := Lib.hid hG
  clear hG
  intro m ts xs w hcl hol hrl hpl qb cb qc cc qo co qr cr qp cp bc oc hmc bo oo hmo2 br or_ hmr su ans HB HBAY HXO HMO HOS HTSE HCD HSU HQC HCC HQO HCO HQR HCR HZ1 B1 C1 HCB h1 h2 H2O HXL h3 B4 h5 P1 i9_1_1 X1 HCK HAN X2 X3 X4 i9_1_2 i9_1_3 X5 i9_1_4 X6 i9_1_5 i9_1_6 ob V o0 o1 o2 o3 m0 m1 m2 m4 m5 n1 n2 HWV u2 u7 u75 u76 u77 u78 u79 u80 u81 u82 u83 u84 u85 u86 u87 u88 u89 u90 k hk X7 hge hnl HOU i9_2_1 i9_2_2 i9_2_3 i9_2_4 i9_2_5
  go_loopw [8, 94] (fun mo i wr => ∃ k : Nat, k ≤ m.refunds.length ∧ i = .int .i64 k ∧ mo = .int .i64 (mostOf m.refunds k) ∧ Hid (∀ j, j < k → rfdAt m.refunds j = true) ∧ V.Exts wr) (fun _ i _ => m.refunds.length - (intOf i).toNat)
  case atStart => exact ⟨0, Nat.zero_le _, rfl, rfl, Lib.hid (fun j hj => by omega), exq⟩
  case round =>
    clear X7 hk hge
    obtain ⟨k, hk, rfl, rfl, HA, hE⟩ := hrel
    obtain ⟨X7, rfl⟩ := hE
    rcases Nat.lt_or_ge k m.refunds.length with hlt | hge
    · obtain ⟨rfl, hlay⟩ := HQR.out (by omega)
      obtain ⟨r, hx⟩ := some_of_lt hlt
      have hcs := HCR.out k r hx
      have c0 := hcs 0 _ rfl
      have c1 := hcs 1 _ rfl
      simp only [Nat.add_zero] at c0 c1
      have e0 := HWV.out.cell c0
      have e1 := HWV.out.cell c1
      have n9 := Lays.of_cell e0
      have hmb := mostOf_bd HA.out
      have hms := mostOf_succ hx
      obtain ⟨g1, hg1⟩ : ∃ z, inAll 0 (mostOf m.refunds k) [r.days] = z := ⟨_, rfl⟩
      obtain ⟨g3, hg3⟩ : ∃ z, inAll 0 100 [r.part] = z := ⟨_, rfl⟩
      have hgA : rfdAt m.refunds k = (g1 && g3) := by rw [rfdAt_most hx HA.out, ← inAll_one, ← inAll_one, hg1, hg3]
      have hxk : rfdAt m.refunds k = false → allN (rfdAt m.refunds) m.refunds.length = false := fun hh => allN_false hlt hh
      obtain ⟨mo, hmo9⟩ : ∃ z, mostOf m.refunds k = z := ⟨_, rfl⟩
      rw [hmo9] at hmb hg1 ⊢
      have HG1 := Lib.hid hg1
      clear hg1
      have HG3 := Lib.hid hg3
      clear hg3
      have HMS := Lib.hid hms
      clear hms
      clear hcs hx c0 c1 hmo9
      cases g1
      case false =>
        have hbad := hxk (by rw [hgA]; rfl)
        have HBAD := Lib.hid hbad
        clear hbad
        clear hxk hgA
        go_wp2_with (first
          | (go_at_call 74; ((with_reducible refine (guest_in_any 0 mo _ [r.days] _ (row_int1 _ _ _ (by simp))).mono ?_); rintro e w' ⟨rfl, X8, rfl⟩; rw [HG1.out]))
          | (go_at_call 74; ((with_reducible refine (guest_in_any 0 100 _ [r.part] _ (row_int1 _ _ _ (by simp))).mono ?_); rintro e w' ⟨rfl, X9, rfl⟩; rw [HG3.out])))
        go_ret
        exact ⟨by rw [HAN.out, HOU.out, HBAD.out]; simp, (exf HWV.out)⟩
      have hdb : 0 ≤ r.days ∧ r.days ≤ mo := by have := HG1.out; rw [inAll_one] at this; exact inb_iff.1 this
      cases g3
      case false =>
        have hbad := hxk (by rw [hgA]; rfl)
        have HBAD := Lib.hid hbad
        clear hbad
        clear hxk hgA
        go_wp2_with (first
          | (go_at_call 74; ((with_reducible refine (guest_in_any 0 mo _ [r.days] _ (row_int1 _ _ _ (by simp))).mono ?_); rintro e w' ⟨rfl, X8, rfl⟩; rw [HG1.out]))
          | (go_at_call 74; ((with_reducible refine (guest_in_any 0 100 _ [r.part] _ (row_int1 _ _ _ (by simp))).mono ?_); rintro e w' ⟨rfl, X9, rfl⟩; rw [HG3.out])))
        go_ret
        exact ⟨by rw [HAN.out, HOU.out, HBAD.out]; simp, (exf HWV.out)⟩
      have hgood : ∀ j, j < k + 1 → rfdAt m.refunds j = true := below_snoc HA.out (by rw [hgA]; rfl)
      have HGOOD := Lib.hid hgood
      clear hgood
      clear hxk hgA
      go_wp2_with (first
        | (go_at_call 74; ((with_reducible refine (guest_in_any 0 mo _ [r.days] _ (row_int1 _ _ _ (by simp))).mono ?_); rintro e w' ⟨rfl, X8, rfl⟩; rw [HG1.out]))
        | (go_at_call 74; ((with_reducible refine (guest_in_any 0 100 _ [r.part] _ (row_int1 _ _ _ (by simp))).mono ?_); rintro e w' ⟨rfl, X9, rfl⟩; rw [HG3.out])))
      go_roundw
      case rel => exact ⟨k + 1, by omega, by go_num, by rw [HMS.out], HGOOD, exq⟩
      case measure => simp [intOf]; omega
    · have hnl2 : ¬ k < m.refunds.length := by omega
      have hkn : k = m.refunds.length := by omega
      have hA := HA.out
      rw [hkn] at hA
      have hrf : allN (rfdAt m.refunds) m.refunds.length = true := allN_iff.2 hA
      have hF : BookFacts m := book_facts2 (by unfold headB; rw [← inAll_one 2 8, ← inAll_one 0 100000, B1.out, B4.out, decide_eq_true H2O.out, decide_eq_true h3, decide_eq_true h5]; rfl) C1.out HOU.out hrf P1.out
      have hn2 := hF.cash2
      obtain ⟨rfl, hlay⟩ := HQC.out (by omega)
      obtain ⟨y, hy⟩ := some_of_lt (show 1 < m.cash.length by omega)
      have c1 := HCC.out 1 y hy 0 _ rfl
      simp only [Nat.mul_one, Nat.add_zero] at c1
      have e1 := HWV.out.cell c1
      have n9 := Lays.of_cell e1
      have hge1 := getD_of (d := (0 : Int)) hy
      have hwX : w.Exts (World.ext V X7) := HWV.out.trans ⟨X7, rfl⟩
      have HGE1 := Lib.hid hge1
      clear hge1
      have HRF := Lib.hid hrf
      clear hrf
      have HF := Lib.hid hF
      clear hF
      have HWX := Lib.hid hwX
      clear hwX
      clear hA HA hkn hy c1
      go_wp2_with fail
      rename_i i9_3_1 i9_3_2 i9_3_3 i9_3_4 i9_3_5 i9_3_6 i9_3_7 i9_3_8 i9_3_9
      revert m ts xs w hcl hol hrl hpl qb cb cc qo co qr cr qp cp bc oc hmc bo oo hmo2 br or_ hmr su ans HBAY HXO HMO HOS HTSE HCD HSU HCC HQO HCO HQR HCR HZ1 B1 C1 HCB h1 h2 H2O HXL h3 B4 h5 P1 i9_1_1 HCK HAN i9_1_2 i9_1_3 i9_1_4 i9_1_5 i9_1_6 ob V o0 o2 o3 m0 m2 m4 m5 n1 n2 HWV i9_3_1 u7 u75 u76 u77 u78 u79 u80 u81 u82 u83 u84 u85 u86 u87 u88 u89 u90 i9_3_2 hnl HOU i9_2_2 i9_2_4 u2 u10 u95 u96 u97 u98 u99 u100 u101 u102 u103 u104 u105 u106 u107 u108 u109 u110 u111 u112 u113 u114 k hk X7 hge hnl2 hn2 hlay HB X1 X2 X3 X4 X5 X6 o1 m1 i9_2_1 i9_2_3 y e1 n9 HGE1 HRF HF HWX i9_3_3 i9_3_4 i9_3_5 i9_3_6 i9_3_7 i9_3_8 i9_3_9 HQC
      exact HG.out
end Go.Proofs.YtihkmkocgmkcjaaGreatDoor

/-
  The walk of guest's Check.
-/
namespace Go.Proofs.YtihkmkocgmkcjaaGreatDoor
open Go.RowKit Go.Maps Kr
set_option linter.unusedSimpArgs false
set_option linter.unusedVariables false

set_option maxRecDepth 4000 in
set_option maxHeartbeats 8000000 in
theorem guest_Check_any_last : guest_Check_any_c3.val := by
  intro m ts xs w hcl hol hrl hpl qb cb cc qo co qr cr qp cp bc oc hmc bo oo hmo2 br or_ hmr su ans HBAY HXO HMO HOS HTSE HCD HSU HCC HQO HCO HQR HCR HZ1 B1 C1 HCB h1 h2 H2O HXL h3 B4 h5 P1 i9_1_1 HCK HAN i9_1_2 i9_1_3 i9_1_4 i9_1_5 i9_1_6 ob V o0 o2 o3 m0 m2 m4 m5 n1 n2 HWV i9_3_1 u7 u75 u76 u77 u78 u79 u80 u81 u82 u83 u84 u85 u86 u87 u88 u89 u90 i9_3_2 hnl HOU i9_2_2 i9_2_4 u2 u10 u95 u96 u97 u98 u99 u100 u101 u102 u103 u104 u105 u106 u107 u108 u109 u110 u111 u112 u113 u114 k hk X7 hge hnl2 hn2 hlay HB X1 X2 X3 X4 X5 X6 o1 m1 i9_2_1 i9_2_3 y e1 n9 HGE1 HRF HF HWX i9_3_3 i9_3_4 i9_3_5 i9_3_6 i9_3_7 i9_3_8 i9_3_9 HQC
  refine wp_region_callsK 9 (fun i => i == 1 || i == 2 || i == 3 || i == 4) (fun c v W => CkPh m.cash.length (owedBy m.outings m.fee m.pleas) (heldOf m.outings m.fee m.pleas) c v W) (fun c => if c = 4 then some (.int .i64 (heldOf m.outings m.fee m.pleas)) else none) (by kernel_rfl) (fun ν => by kernel_rfl) (by kernel_rfl) (by kernel_rfl) (by kernel_rfl) (by kernel_rfl) (by kernel_rfl) ?mono ?known ?_
  rotate_left 2
  apply Exists.intro
  refine ⟨fun ν hkn => ?want, fun ν hkn L hL => ?walk, fun c oc hc hU ν hkn W hE hΦ => ?calls, fun ν hkn W hE hΦ => ?lastK⟩
  case walk =>
    repeat (first
      | (refine modTo_free rfl ?_; go_big_quiet_step (fail))
      | (refine modTo_call rfl (hkn _ _ rfl) ?_; go_big_quiet_step (fail))
      | (refine modTo_call rfl rfl ?_; go_big_quiet_step (fail)))
    refine modTo_end ?_
    exact hL
  case want =>
    intro i oi hi hU
    simp at hU
    rcases hU with ((rfl | rfl) | rfl) | rfl
    all_goals
      simp only [List.getElem?_cons_succ, List.getElem?_cons_zero, Option.some.injEq] at hi
      subst hi
      rfl
  case mono => exact fun c v W W' h hE => h.mono hE
  case known =>
    intro c v W u h hk
    by_cases hc : c = 4
    · subst hc
      rw [h.2.2.2 rfl]
      exact Option.some.inj hk
    · rw [if_neg hc] at hk; cases hk
  case calls =>
    have hwW : w.Exts W := HWX.out.trans hE
    simp at hU
    rcases hU with ((rfl | rfl) | rfl) | rfl
    · simp only [List.getElem?_cons_succ, List.getElem?_cons_zero, Option.some.injEq] at hc
      subst hc
      refine Oper.gives_fn rfl rfl rfl (enters_of Tryz.func123 (by kernel_rfl) rfl) ?_ rfl
      have hVW : V.Exts W := World.Exts.trans ⟨X7, rfl⟩ hE
      refine (office_owed_any ob m ⟨.slice qb ts.length cb, .slice (some ⟨bc, oc, none⟩) m.cash.length cc, .slice qo xs.length co, .slice qr m.refunds.length cr, .slice qp m.pleas.length cp⟩ ts xs W (HB.out.mono hwW) (hVW.cell m1) (hVW.cell m2) (hVW.cell m4) (hVW.cell m5) HF.out h2).mono ?_
      rintro e W' ⟨b, rfl, h8, h9⟩
      exact ⟨_, rfl, h9, fun _ => ⟨b, rfl, h8⟩, (fun h => by cases h), (fun h => by cases h), fun h => by cases h⟩
    · simp only [List.getElem?_cons_succ, List.getElem?_cons_zero, Option.some.injEq] at hc
      subst hc
      obtain ⟨b, e1, h1⟩ := (hΦ 1 rfl ⟨⟨1, .data⟩, by simp, rfl, rfl⟩).1 rfl
      refine Oper.gives_fn rfl rfl rfl (enters_of Tryz.func122 (by kernel_rfl) rfl) ?_ rfl
      show Calls Tryz.prog 122 #[ν 1] W _
      rw [e1]
      refine (maps_Values_any b W).mono ?_
      rintro e W' ⟨rfl, rfl⟩
      exact ⟨_, rfl, (World.Exts.refl _).alloc _, (fun h => by cases h), fun _ => ⟨W.heap.size, b, rfl, by simp, by simp [go_sem], h1.mono ((World.Exts.refl _).alloc _)⟩, (fun h => by cases h), fun h => by cases h⟩
    · simp only [List.getElem?_cons_succ, List.getElem?_cons_zero, Option.some.injEq] at hc
      subst hc
      obtain ⟨Bm, b, e1, h1, h3, c, D, h4, h5, h6⟩ := (hΦ 2 rfl ⟨⟨2, .data⟩, by simp, rfl, rfl⟩).2.1 rfl
      refine Oper.gives_fn rfl rfl rfl (enters_of Tryz.func121 (by kernel_rfl) rfl) ?_ rfl
      show Calls Tryz.prog 121 #[ν 2] W _
      rw [e1]
      refine (Collect_int_any 154 _ (enters_of Tryz.func154 (by kernel_rfl) rfl) _ _ (Maps.size D) (Nat.le_trans h5.size_le h4) W (values_stops 1 (by omega) Bm b c _ _ D W h1 h3 h5 h6)).mono ?_
      rintro e W' ⟨v, l, rfl, ⟨ks, hks, rfl⟩, h7, h8⟩
      have h9 := owed_sum HF.out hks
      exact ⟨_, rfl, h8, (fun h => by cases h), (fun h => by cases h), (fun _ => ⟨_, h7, h9.1, h9.2, fun x hx => by
        obtain ⟨j, -, rfl⟩ := List.mem_map.1 hx
        have := owed_small HF.out j
        omega⟩), fun h => by cases h⟩
    · simp only [List.getElem?_cons_succ, List.getElem?_cons_zero, Option.some.injEq] at hc
      subst hc
      obtain ⟨l, h1, h3, h4, h5⟩ := (hΦ 3 rfl ⟨⟨3, .data⟩, by simp, rfl, rfl⟩).2.2.1 rfl
      refine Oper.gives_fn (xs := [.tmp 118, .func 124]) rfl rfl rfl (enters_of Tryz.func117 (by kernel_rfl) rfl) ?_ rfl
      show Calls Tryz.prog 117 #[ν 3, .func (.func 124) #[] #[]] W _
      refine (guest_sum_int_any l 124 (ν 3) W h1 (enters_of Tryz.func124 (by kernel_rfl) rfl) (fun x W => guest_Check_2_any x W) h5 (by omega)).mono ?_
      rintro e W' ⟨rfl, h8⟩
      exact ⟨_, rfl, h8, (fun h => by cases h), (fun h => by cases h), (fun h => by cases h), fun _ => by rw [h3]⟩
  case lastK =>
    have e4 := (hΦ 4 (by decide) rfl).2.2.2 rfl
    simp only [List.drop_succ_cons, List.drop_zero]
    clear hkn hΦ
    generalize ν 1 = n1
    generalize ν 2 = n2
    generalize ν 3 = n3
    generalize ν 4 = n4 at e4 ⊢
    subst e4
    obtain ⟨X9, rfl⟩ := hE
    generalize heldOf m.outings m.fee m.pleas = hd at *
    by_cases he : hd = y
    · subst he
      go_wp2_with fail
      go_ret
      exact ⟨by rw [HAN.out, HOU.out, HRF.out, HGE1.out]; simp, (exf HWV.out)⟩
    · have s1 : (hd == y) = false := by simpa using he
      have s2 : decide (hd = y) = false := by simpa using he
      have s3 : (hd != y) = true := by simp [bne, s1]
      have s4 : decide (y = hd) = false := by simpa using fun e => he e.symm
      go_wp2_with fail
      go_ret
      exact ⟨by rw [HAN.out, HOU.out, HRF.out, HGE1.out, s4]; simp, (exf HWV.out)⟩
theorem guest_Check_any (m : Kr.Books) (v : BookV) (ts : List (Kr.Scale × Value)) (xs : List OutV) (w : World) (hgd : BooksGood w m v ts xs) (hmo : ∀ x ∈ xs, 0 ≤ x.o.state ∧ x.o.gear.loads.length ≤ 1000) (hcd : CondsAt w) :
    Calls Tryz.prog 73 #[.agg #[v.bay, v.cash, v.outs, v.rfds, .int .i64 m.fee, v.pleas]] w fun e w' => e = .returned (.int .i64 (checkB m)) ∧ w.Exts w' :=
  (guest_Check_any_c1.property (guest_Check_any_c2.property (guest_Check_any_c3.property guest_Check_any_last))) m v ts xs w hgd hmo hcd
end Go.Proofs.YtihkmkocgmkcjaaGreatDoor
