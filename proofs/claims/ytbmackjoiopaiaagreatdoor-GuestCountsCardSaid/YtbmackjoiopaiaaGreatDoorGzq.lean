/-
  Several texts in one: see the heads of its parts.
-/
import Derived.Test.YtbmackjoiopaiaaGreatDoorGCq
import Derived.Test.YtbmackjoiopaiaaGreatDoorGOq
import Derived.Test.YtbmackjoiopaiaaGreatDoorGy
import Derived.Test.YtbmackjoiopaiaaGreatDoorRowG

/-
  Walks of package guest: Balance, asked, Owed, Refund.
-/
namespace Go.Proofs.YtbmackjoiopaiaaGreatDoor
open Go.RowKit Go.Maps Kr
set_option linter.unusedSimpArgs false
set_option linter.unusedVariables false

set_option maxHeartbeats 2000000 in
theorem guest_Balance_any (m : Kr.Books) (v : BookV) (ts : List (Kr.Scale × Value)) (xs : List OutV) (w : World) (hgd : BooksGood w m v ts xs) (hmo : ∀ x ∈ xs, 0 ≤ x.o.state ∧ x.o.gear.loads.length ≤ 1000) (hcd : CondsAt w) :
    Calls Tryz.prog 7 #[.agg #[v.bay, v.cash, v.outs, v.rfds, .int .i64 m.fee, v.pleas]] w fun e w' => e = .returned (.tuple #[.int .i64 (if checkB m = 0 then m.cash.sum else 0), .int .i64 (checkB m)]) ∧ w.Exts w' := by
  have h := hgd.at_
  obtain ⟨vb, vc, vo, vr, vp⟩ := v
  obtain ⟨qb, cb, hqb⟩ := h.bay.row.len
  obtain ⟨qc, cc, hqc⟩ := h.cash.len
  obtain ⟨qo, co, hqo⟩ := h.outs.len
  obtain ⟨qr, cr, hqr⟩ := h.rfds.len
  obtain ⟨qp, cp, hqp⟩ := h.pleas.len
  dsimp only at hqb hqc hqr hqp hqo
  subst hqb hqc hqr hqp hqo
  have hcash := h.cash
  dsimp only at hcash
  clear h
  obtain ⟨cv, hcv⟩ : ∃ z, checkB m = z := ⟨_, rfl⟩
  by_cases hk : cv = 0
  · subst hk
    have hf := Kr.book_facts (checkB_zero hcv).2
    have hcb : ∀ x ∈ m.cash, 0 ≤ x ∧ x ≤ 1000000000000 := fun x hx => by have := hf.cash x hx; omega
    have hc8 := hf.cash8
    rw [hcv, if_pos rfl]
    have HGD := Lib.hid hgd
    clear hgd
    have HMO := Lib.hid hmo
    clear hmo
    have HCD := Lib.hid hcd
    clear hcd
    have HK := Lib.hid hcv
    clear hcv
    have HCB := Lib.hid hcb
    clear hcb
    have HCA := Lib.hid hcash
    clear hcash
    clear hf
    go_enter Tryz.func7, Tryz.ntmps7
    go_wp2_with (first
      | (go_at_call 35; refine (guest_Check_any m ⟨.slice qb ts.length cb, .slice qc m.cash.length cc, .slice qo xs.length co, .slice qr m.refunds.length cr, .slice qp m.pleas.length cp⟩ ts xs _ (HGD.out.mono exq) HMO.out (HCD.out.mono exq)).mono ?_; rintro e w' ⟨rfl, X1, rfl⟩; rw [HK.out])
      | (go_at_call 36; refine (guest_sum_int_any m.cash 37 _ _ (HCA.out.mono exq) (enters_of Tryz.func37 (by kernel_rfl) rfl) (fun x W => guest_Balance_1_any x W) HCB.out (by omega)).mono ?_; rintro e w' ⟨rfl, X4, rfl⟩))
    go_ret2
    exact ⟨rfl, exq⟩
  · rw [hcv, if_neg hk]
    have HGD := Lib.hid hgd
    clear hgd
    have HMO := Lib.hid hmo
    clear hmo
    have HCD := Lib.hid hcd
    clear hcd
    have HK := Lib.hid hcv
    clear hcv
    go_enter Tryz.func7, Tryz.ntmps7
    go_wp2_with (go_at_call 35; refine (guest_Check_any m ⟨.slice qb ts.length cb, .slice qc m.cash.length cc, .slice qo xs.length co, .slice qr m.refunds.length cr, .slice qp m.pleas.length cp⟩ ts xs _ (HGD.out.mono exq) HMO.out (HCD.out.mono exq)).mono ?_; rintro e w' ⟨rfl, X1, rfl⟩; rw [HK.out])
    go_ret2
    exact ⟨rfl, exq⟩

set_option maxHeartbeats 2000000 in
theorem guest_asked_any (m : Kr.Books) (v : BookV) (ts : List (Kr.Scale × Value)) (xs : List OutV) (i : Int) (w : World) (hgd : BooksGood w m v ts xs) (hmo : ∀ x ∈ xs, 0 ≤ x.o.state ∧ x.o.gear.loads.length ≤ 1000) (hcd : CondsAt w) :
    Calls Tryz.prog 43 #[.agg #[v.bay, v.cash, v.outs, v.rfds, .int .i64 m.fee, v.pleas], .int .i64 i] w fun e w' => ∃ p, e = .returned (.tuple #[.pointer p, .int .i64 (askB m i)]) ∧ (askB m i = 0 → ∃ ob, p = some ⟨ob, 0, none⟩ ∧ w'.cell? ⟨ob, 2, none⟩ = some v.outs ∧ w'.cell? ⟨ob, 3, none⟩ = some v.rfds) ∧ w.Exts w' := by
  have h := hgd.at_
  have hxl := hgd.xl
  have hol := hgd.outs
  obtain ⟨vb, vc, vo, vr, vp⟩ := v
  obtain ⟨qb, cb, hqb⟩ := h.bay.row.len
  obtain ⟨qc, cc, hqc⟩ := h.cash.len
  obtain ⟨qo, co, hqo⟩ := h.outs.len
  obtain ⟨qr, cr, hqr⟩ := h.rfds.len
  obtain ⟨qp, cp, hqp⟩ := h.pleas.len
  dsimp only at hqb hqc hqr hqp hqo
  subst hqb hqc hqr hqp hqo
  clear h
  obtain ⟨cv, hcv⟩ : ∃ z, checkB m = z := ⟨_, rfl⟩
  obtain ⟨b1, hb1⟩ : ∃ z, inAll 0 ((m.outings.length : Int) - 1) [i] = z := ⟨_, rfl⟩
  have hfin : askB m i = if cv = 0 then (if b1 then 0 else 2) else cv := by unfold askB; rw [hcv, ← inAll_one, hb1]
  rw [hfin]
  clear hfin
  rw [← hxl] at hb1 hol
  have HGD := Lib.hid hgd
  clear hgd
  have HMO := Lib.hid hmo
  clear hmo
  have HCD := Lib.hid hcd
  clear hcd
  have HK := Lib.hid hcv
  clear hcv
  have B1 := Lib.hid hb1
  clear hb1
  clear hxl
  by_cases hk : cv = 0
  · subst hk
    cases b1
    · go_enter Tryz.func43, Tryz.ntmps43
      go_wp2_with (first
        | (go_at_call 35; refine (guest_Check_any m ⟨.slice qb ts.length cb, .slice qc m.cash.length cc, .slice qo xs.length co, .slice qr m.refunds.length cr, .slice qp m.pleas.length cp⟩ ts xs _ (HGD.out.mono exq) HMO.out (HCD.out.mono exq)).mono ?_; rintro e w' ⟨rfl, X1, rfl⟩; rw [HK.out])
        | (go_at_call 44; refine (guest_in_any 0 ((xs.length : Int) - 1) _ [i] _ (row_int1 _ _ _ (by simp))).mono ?_; rintro e w' ⟨rfl, X2, rfl⟩; rw [B1.out]))
      go_ret2
      exact ⟨⟨_, rfl⟩, exq⟩
    · go_enter Tryz.func43, Tryz.ntmps43
      go_wp2_with (first
        | (go_at_call 35; refine (guest_Check_any m ⟨.slice qb ts.length cb, .slice qc m.cash.length cc, .slice qo xs.length co, .slice qr m.refunds.length cr, .slice qp m.pleas.length cp⟩ ts xs _ (HGD.out.mono exq) HMO.out (HCD.out.mono exq)).mono ?_; rintro e w' ⟨rfl, X1, rfl⟩; rw [HK.out])
        | (go_at_call 44; refine (guest_in_any 0 ((xs.length : Int) - 1) _ [i] _ (row_int1 _ _ _ (by simp))).mono ?_; rintro e w' ⟨rfl, X2, rfl⟩; rw [B1.out]))
      go_ret2
      exact ⟨_, rfl, ⟨_, rfl, by simp [go_sem], by simp [go_sem]⟩, exq⟩
  · rw [if_neg hk]
    go_enter Tryz.func43, Tryz.ntmps43
    go_wp2_with (go_at_call 35; refine (guest_Check_any m ⟨.slice qb ts.length cb, .slice qc m.cash.length cc, .slice qo xs.length co, .slice qr m.refunds.length cr, .slice qp m.pleas.length cp⟩ ts xs _ (HGD.out.mono exq) HMO.out (HCD.out.mono exq)).mono ?_; rintro e w' ⟨rfl, X1, rfl⟩; rw [HK.out])
    go_ret2
    exact ⟨_, rfl, fun h => absurd h hk, exq⟩
end Go.Proofs.YtbmackjoiopaiaaGreatDoor

/-
  Walks of package guest: Refund.
-/
namespace Go.Proofs.YtbmackjoiopaiaaGreatDoor
open Go.RowKit Go.Maps Kr
set_option linter.unusedSimpArgs false
set_option linter.unusedVariables false

set_option maxHeartbeats 2000000 in
theorem guest_Refund_any (m : Kr.Books) (v : BookV) (ts : List (Kr.Scale × Value)) (xs : List OutV) (i days : Int) (w : World) (hgd : BooksGood w m v ts xs) (hmo : ∀ x ∈ xs, 0 ≤ x.o.state ∧ x.o.gear.loads.length ≤ 1000) (hcd : CondsAt w) :
    Calls Tryz.prog 11 #[.agg #[v.bay, v.cash, v.outs, v.rfds, .int .i64 m.fee, v.pleas], .int .i64 i, .int .i64 days] w fun e w' => e = .returned (.tuple #[.int .i64 (refundVal m i days), .int .i64 (refundErr m i days)]) ∧ w.Exts w' := by
  have h := hgd.at_
  obtain ⟨vb, vc, vo, vr, vp⟩ := v
  obtain ⟨qb, cb, hqb⟩ := h.bay.row.len
  obtain ⟨qc, cc, hqc⟩ := h.cash.len
  obtain ⟨qo, co, hqo⟩ := h.outs.len
  obtain ⟨qr, cr, hqr⟩ := h.rfds.len
  obtain ⟨qp, cp, hqp⟩ := h.pleas.len
  dsimp only at hqb hqc hqr hqp hqo
  subst hqb hqc hqr hqp hqo
  obtain ⟨cv, hcv⟩ : ∃ z, askB m i = z := ⟨_, rfl⟩
  obtain ⟨b1, hb1⟩ : ∃ z, inAll 0 400 [days] = z := ⟨_, rfl⟩
  have hfe : refundErr m i days = if cv = 0 then (if b1 then 0 else 2) else cv := by unfold refundErr; rw [hcv, ← inAll_one, hb1]
  have hfv : refundVal m i days = if refundErr m i days = 0 then refundOf m.refunds (m.outings.getD i.toNat default).price days else 0 := rfl
  rw [hfv, hfe]
  clear hfv hfe
  have hask := fun (W : World) (hE : w.Exts W) => guest_asked_any m ⟨.slice qb ts.length cb, .slice qc m.cash.length cc, .slice qo xs.length co, .slice qr m.refunds.length cr, .slice qp m.pleas.length cp⟩ ts xs i W (hgd.mono hE) hmo (hcd.mono hE)
  rw [hcv] at hask
  have HASK := Lib.hid hask
  clear hask
  have HB := Lib.hid h
  clear h
  have B1 := Lib.hid hb1
  clear hb1
  clear hgd hmo hcd
  by_cases hk : cv = 0
  · subst hk
    have hz := askB_zero hcv
    have hf := Kr.book_facts (checkB_zero hz.1).2
    obtain ⟨o, ho⟩ := some_of_lt (show i.toNat < m.outings.length by omega)
    have hin : ((i.toNat : Nat) : Int) = i := by omega
    have hof := hf.out o (List.mem_of_getElem? ho)
    have hrf := fun r hr => (hf.rfd r hr).2
    have hprice := hof.price
    have hod := getD_of (d := (default : Kr.Outing)) ho
    rw [hod]
    have hcall := fun (ob : Nat) (W : World) (hE : w.Exts W) (h2 : W.cell? ⟨ob, 2, none⟩ = some (.slice qo xs.length co)) (h3 : W.cell? ⟨ob, 3, none⟩ = some (.slice qr m.refunds.length cr)) => office_refund_any ob m ⟨.slice qb ts.length cb, .slice qc m.cash.length cc, .slice qo xs.length co, .slice qr m.refunds.length cr, .slice qp m.pleas.length cp⟩ ts xs i.toNat o days W (HB.out.mono hE) h2 h3 ho hprice hrf
    rw [hin] at hcall
    have HCALL := Lib.hid hcall
    clear hcall
    clear hf hof hrf ho hz hod hin hcv
    cases b1
    all_goals
      go_enter Tryz.func11, Tryz.ntmps11
      go_wp2_with (first
        | (go_at_call 43; refine (HASK.out _ exq).mono ?_; rintro e w' ⟨p, rfl, hp, X1, rfl⟩; obtain ⟨ob, rfl, h2, h3⟩ := hp rfl; (have n1 := Lays.of_cell h2); clear hp)
        | (go_at_call 44; refine (guest_in_any 0 400 _ [days] _ (row_int1 _ _ _ (by simp))).mono ?_; rintro e w' ⟨rfl, X2, rfl⟩; rw [B1.out])
        | (go_at_call 45; refine (HCALL.out _ _ exq (by simp [go_sem, h2]) (by simp [go_sem, h3])).mono ?_; rintro e w' ⟨rfl, X3, rfl⟩))
      go_ret2
      exact ⟨rfl, exq⟩
  · rw [if_neg hk, if_neg hk]
    go_enter Tryz.func11, Tryz.ntmps11
    go_wp2_with (go_at_call 43; refine (HASK.out _ exq).mono ?_; rintro e w' ⟨p, rfl, -, X1, rfl⟩)
    go_ret2
    exact ⟨rfl, exq⟩
end Go.Proofs.YtbmackjoiopaiaaGreatDoor

/-
  Walks of package guest: Owed.
-/
namespace Go.Proofs.YtbmackjoiopaiaaGreatDoor
open Go.RowKit Go.Maps Kr
set_option linter.unusedSimpArgs false
set_option linter.unusedVariables false

theorem owed_look {W : World} {b n : Nat} {F : Int → Int} {who : Int} (h : OwedMap W b n F) (hacc : accB n who = true) (hkey : keyOf Tryz.prog 3 (.int .i64 who) = some (.int .i64 who)) : (Instr.lookup 96 (.map (some b)) (.int .i64 who) false).run Tryz.prog W = .ok (.int .i64 (F who)) W := by
  obtain ⟨c, D, -, hown, hM⟩ := h
  have hv := hM.at_ who (.held (.int .i64 0))
  rw [hacc, Bool.true_and] at hv
  have hv2 : D.atKey (.int .i64 who) (.held (.int .i64 0)) = .held (.int .i64 (F who)) := by
    rw [hv]
    by_cases hz : F who = 0
    · rw [hz]; simp
    · rw [if_pos (by simpa using hz)]
  exact look_own hown law_int Tryz.underlying96 (zero_int _) hkey hv2

set_option maxRecDepth 8000 in
set_option maxHeartbeats 4000000 in
theorem guest_Owed_any (m : Kr.Books) (v : BookV) (ts : List (Kr.Scale × Value)) (xs : List OutV) (who : Int) (w : World) (hgd : BooksGood w m v ts xs) (hmo : ∀ x ∈ xs, 0 ≤ x.o.state ∧ x.o.gear.loads.length ≤ 1000) (hcd : CondsAt w) (hw : (Lit.int .i64 who).wf = true) :
    Calls Tryz.prog 9 #[.agg #[v.bay, v.cash, v.outs, v.rfds, .int .i64 m.fee, v.pleas], .int .i64 who] w fun e w' => e = .returned (.tuple #[.int .i64 (owedVal m who), .int .i64 (owedErr m who)]) ∧ w.Exts w' := by
  have h := hgd.at_
  have hxl := hgd.xl
  have hcl := hgd.cash
  obtain ⟨vb, vc, vo, vr, vp⟩ := v
  obtain ⟨qb, cb, hqb⟩ := h.bay.row.len
  obtain ⟨qc, cc, hqc⟩ := h.cash.len
  obtain ⟨qo, co, hqo⟩ := h.outs.len
  obtain ⟨qr, cr, hqr⟩ := h.rfds.len
  obtain ⟨qp, cp, hqp⟩ := h.pleas.len
  dsimp only at hqb hqc hqr hqp hqo
  subst hqb hqc hqr hqp hqo
  obtain ⟨cv, hcv⟩ : ∃ z, checkB m = z := ⟨_, rfl⟩
  obtain ⟨b1, hb1⟩ : ∃ z, inAll 2 ((m.cash.length : Int) - 1) [who] = z := ⟨_, rfl⟩
  have hfe : owedErr m who = if cv = 0 then (if b1 then 0 else 2) else cv := by unfold owedErr; rw [hcv, ← inAll_one, hb1]
  have hfv : owedVal m who = if owedErr m who = 0 then owedBy m.outings m.fee m.pleas who else 0 := rfl
  rw [hfv, hfe]
  clear hfv hfe
  have HGD := Lib.hid hgd
  clear hgd
  have HMO := Lib.hid hmo
  clear hmo
  have HCD := Lib.hid hcd
  clear hcd
  by_cases hk : cv = 0
  · subst hk
    have hf := Kr.book_facts (checkB_zero hcv).2
    have hoo := hf.outs
    have hkey : keyOf Tryz.prog 3 (.int .i64 who) = some (.int .i64 who) := keyOf_int_mk Tryz.underlying3 hw
    have howed := fun (ob : Nat) (W : World) (hE : w.Exts W) (k1 : W.cell? ⟨ob, 1, none⟩ = some (.slice qc m.cash.length cc)) (k2 : W.cell? ⟨ob, 2, none⟩ = some (.slice qo xs.length co)) (k4 : W.cell? ⟨ob, 4, none⟩ = some (.int .i64 m.fee)) (k5 : W.cell? ⟨ob, 5, none⟩ = some (.slice qp m.pleas.length cp)) => office_owed_any ob m ⟨.slice qb ts.length cb, .slice qc m.cash.length cc, .slice qo xs.length co, .slice qr m.refunds.length cr, .slice qp m.pleas.length cp⟩ ts xs W (h.mono hE) k1 k2 k4 k5 hf (by omega)
    have HOWED := Lib.hid howed
    clear howed
    have HK := Lib.hid hcv
    clear hcv
    have HXL := Lib.hid hxl
    clear hxl
    clear h hf
    cases b1
    · have B1 := Lib.hid hb1
      clear hb1
      go_enter Tryz.func9, Tryz.ntmps9
      go_wp2_with (first
        | (go_at_call 35; refine (guest_Check_any m ⟨.slice qb ts.length cb, .slice qc m.cash.length cc, .slice qo xs.length co, .slice qr m.refunds.length cr, .slice qp m.pleas.length cp⟩ ts xs _ (HGD.out.mono exq) HMO.out (HCD.out.mono exq)).mono ?_; rintro e w' ⟨rfl, X1, rfl⟩; rw [HK.out])
        | (go_at_call 39; refine (office_person_any _ qc m.cash.length cc _ [who] _ (by simp [go_sem]) (by omega) (row_int1 _ _ _ (by simp))).mono ?_; rintro e w' ⟨rfl, X2, rfl⟩; rw [B1.out]))
      go_ret2
      exact ⟨rfl, exq⟩
    · have hwb : 2 ≤ who ∧ who ≤ (m.cash.length : Int) - 1 := by rw [inAll_one] at hb1; exact inb_iff.1 hb1
      have hacc : accB m.cash.length who = true := accB_iff.2 (by omega)
      have B1 := Lib.hid hb1
      clear hb1
      generalize owedBy m.outings m.fee m.pleas = F at HOWED ⊢
      go_enter Tryz.func9, Tryz.ntmps9
      go_wp2_with (first
        | (go_at_call 35; refine (guest_Check_any m ⟨.slice qb ts.length cb, .slice qc m.cash.length cc, .slice qo xs.length co, .slice qr m.refunds.length cr, .slice qp m.pleas.length cp⟩ ts xs _ (HGD.out.mono exq) HMO.out (HCD.out.mono exq)).mono ?_; rintro e w' ⟨rfl, X1, rfl⟩; rw [HK.out])
        | (go_at_call 39; refine (office_person_any _ qc m.cash.length cc _ [who] _ (by simp [go_sem]) (by omega) (row_int1 _ _ _ (by simp))).mono ?_; rintro e w' ⟨rfl, X2, rfl⟩; rw [B1.out])
        | (go_at_call 40; refine (HOWED.out _ _ exq (by simp [go_sem]) (by simp [go_sem]) (by simp [go_sem]) (by simp [go_sem])).mono ?_; rintro e w' ⟨b, rfl, hO, X3, rfl⟩; have hlk := owed_look hO hacc hkey; clear hO))
      go_ret2
      exact ⟨rfl, exq⟩
  · rw [if_neg hk, if_neg hk]
    have HK := Lib.hid hcv
    clear hcv
    clear h hxl
    go_enter Tryz.func9, Tryz.ntmps9
    go_wp2_with (go_at_call 35; refine (guest_Check_any m ⟨.slice qb ts.length cb, .slice qc m.cash.length cc, .slice qo xs.length co, .slice qr m.refunds.length cr, .slice qp m.pleas.length cp⟩ ts xs _ (HGD.out.mono exq) HMO.out (HCD.out.mono exq)).mono ?_; rintro e w' ⟨rfl, X1, rfl⟩; rw [HK.out])
    go_ret2
    exact ⟨rfl, exq⟩
end Go.Proofs.YtbmackjoiopaiaaGreatDoor

/-
  The walk of the law GuestCounts.
-/
namespace Go.Proofs.YtbmackjoiopaiaaGreatDoor
open Go.RowKit Kr
set_option linter.unusedSimpArgs false
set_option linter.unusedVariables false

theorem great_good {w : World} {m : Kr.Books} {v : BookV} {ts : List (Kr.Scale × Value)} {xs : List OutV} (h : BooksAt w m v ts xs) (hwf : ∀ x ∈ xs, OutWf x) (hg : greatB m ts xs = false) : BooksGood w m v ts xs ∧ ∀ x ∈ xs, 0 ≤ x.o.state ∧ x.o.gear.loads.length ≤ 1000 := by
  unfold greatB greatHd at hg
  simp only [Bool.or_eq_false_iff, decide_eq_false_iff_not] at hg
  obtain ⟨⟨-, h1, h2, h3, h4⟩, h5⟩ := hg
  have h6 : ∀ x ∈ xs, x.o.guests.length ≤ 8 ∧ x.o.gear.loads.length ≤ 10 ∧ x.o.gear.runners.length ≤ 12 ∧ x.o.gear.strokes.length ≤ 12 := fun x hx => by
    have h7 := List.any_eq_false.1 h5 x hx
    unfold greatAt great at h7
    simp only [Bool.or_eq_true, decide_eq_true_eq, not_or] at h7
    omega
  refine ⟨⟨h, fun x hx => ?_, by omega, by omega, by omega, by omega⟩, fun x hx => ?_⟩
  · have h7 := h6 x hx
    have h8 := h.out x hx
    exact ⟨h8, ⟨h8.l, h8.r, h8.s, ⟨by dsimp only; omega, by dsimp only; omega⟩, (hwf x hx).loads⟩, by omega⟩
  · have h7 := h6 x hx
    have h8 := (hwf x hx).state
    simp [Lit.wf] at h8
    have hm : IntKind.u8.min = 0 := by decide
    exact ⟨by omega, by omega⟩

set_option maxRecDepth 4000 in
set_option maxHeartbeats 4000000 in
theorem l10_GuestCounts_any (m : Kr.Books) (v : BookV) (ts : List (Kr.Scale × Value)) (xs : List OutV) (who i days : Int) (w : World) (h : BooksAt w m v ts xs) (hwf : ∀ x ∈ xs, OutWf x) (hw : (Lit.int .i64 who).wf = true) (hcd : CondsAt w) :
    Calls Tryz.prog 3 #[.agg #[v.bay, v.cash, v.outs, v.rfds, .int .i64 m.fee, v.pleas], .int .i64 who, .int .i64 i, .int .i64 days] w fun e w' => e = .returned (.bool true) ∧ w.Exts w' := by
  have hgg := great_good h hwf
  have hgr := fun (W : World) (hE : w.Exts W) => r10_Great_any m v ts xs W (h.mono hE)
  generalize greatB m ts xs = g at hgg hgr
  cases g
  case true =>
    obtain ⟨vb, vc, vo, vr, vp⟩ := v
    obtain ⟨qb, cb, hqb⟩ := h.bay.row.len
    obtain ⟨qc, cc, hqc⟩ := h.cash.len
    obtain ⟨qo, co, hqo⟩ := h.outs.len
    obtain ⟨qr, cr, hqr⟩ := h.rfds.len
    obtain ⟨qp, cp, hqp⟩ := h.pleas.len
    dsimp only at hqb hqc hqr hqp hqo
    subst hqb hqc hqr hqp hqo
    clear h hgg
    dsimp only at hgr
    have HGR := Lib.hid hgr
    clear hgr
    go_enter Tryz.func3, Tryz.ntmps3
    go_wp2_with (go_at_call 6; refine (HGR.out _ exq).mono ?_; rintro e w' ⟨rfl, X1, rfl⟩)
    go_ret
    exact ⟨rfl, exq⟩
  obtain ⟨hgd, hmo⟩ := hgg rfl
  have a1 := fun (W : World) (hE : w.Exts W) => guest_Balance_any m v ts xs W (hgd.mono hE) hmo (hcd.mono hE)
  have a2 := fun (W : World) (hE : w.Exts W) => r10_Balance_any m v ts xs W (hgd.mono hE)
  have a3 := fun (W : World) (hE : w.Exts W) => guest_Owed_any m v ts xs who W (hgd.mono hE) hmo (hcd.mono hE) hw
  have a4 := fun (W : World) (hE : w.Exts W) => r10_Owed_any m v ts xs who W (hgd.mono hE)
  have a5 := fun (W : World) (hE : w.Exts W) => guest_Refund_any m v ts xs i days W (hgd.mono hE) hmo (hcd.mono hE)
  have a6 := fun (W : World) (hE : w.Exts W) => r10_Refund_any m v ts xs i days W (hgd.mono hE)
  generalize (if checkB m = 0 then m.cash.sum else 0) = x1 at a1 a2
  generalize checkB m = x2 at a1 a2
  generalize owedVal m who = x3 at a3 a4
  generalize owedErr m who = x4 at a3 a4
  generalize refundVal m i days = x5 at a5 a6
  generalize refundErr m i days = x6 at a5 a6
  obtain ⟨vb, vc, vo, vr, vp⟩ := v
  obtain ⟨qb, cb, hqb⟩ := h.bay.row.len
  obtain ⟨qc, cc, hqc⟩ := h.cash.len
  obtain ⟨qo, co, hqo⟩ := h.outs.len
  obtain ⟨qr, cr, hqr⟩ := h.rfds.len
  obtain ⟨qp, cp, hqp⟩ := h.pleas.len
  dsimp only at hqb hqc hqr hqp hqo
  subst hqb hqc hqr hqp hqo
  clear h hgd hmo hwf hgg
  dsimp only at hgr a1 a2 a3 a4 a5 a6
  have HGR := Lib.hid hgr
  clear hgr
  have A1 := Lib.hid a1
  clear a1
  have A2 := Lib.hid a2
  clear a2
  have A3 := Lib.hid a3
  clear a3
  have A4 := Lib.hid a4
  clear a4
  have A5 := Lib.hid a5
  clear a5
  have A6 := Lib.hid a6
  clear a6
  go_enter Tryz.func3, Tryz.ntmps3
  go_wp2_with (first
    | (go_at_call 6; refine (HGR.out _ exq).mono ?_; rintro e w' ⟨rfl, X1, rfl⟩)
    | (go_at_call 7; refine (A1.out _ exq).mono ?_; rintro e w' ⟨rfl, X2, rfl⟩)
    | (go_at_call 8; refine (A2.out _ exq).mono ?_; rintro e w' ⟨rfl, X3, rfl⟩)
    | (go_at_call 9; refine (A3.out _ exq).mono ?_; rintro e w' ⟨rfl, X4, rfl⟩)
    | (go_at_call 10; refine (A4.out _ exq).mono ?_; rintro e w' ⟨rfl, X5, rfl⟩)
    | (go_at_call 11; refine (A5.out _ exq).mono ?_; rintro e w' ⟨rfl, X6, rfl⟩)
    | (go_at_call 12; refine (A6.out _ exq).mono ?_; rintro e w' ⟨rfl, X7, rfl⟩))
  go_ret
  exact ⟨rfl, exq⟩
end Go.Proofs.YtbmackjoiopaiaaGreatDoor
