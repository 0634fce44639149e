/-
  Several texts in one: see the heads of its parts.
-/
import Derived.Test.YtihkmkocgmkcjaaGreatDoorGsu
import Derived.Test.YtihkmkocgmkcjaaGreatDoorGCq
import Derived.Test.YtihkmkocgmkcjaaGreatDoorGOq
import Derived.Test.YtihkmkocgmkcjaaGreatDoorRowG

/-
  Walks: whether books are great.
-/
namespace Go.Proofs.YtihkmkocgmkcjaaGreatDoor
open Go.RowKit Kr
set_option linter.unusedSimpArgs false
set_option linter.unusedVariables false

def greatAt (ts : List (Kr.Scale × Value)) (x : OutV) : Bool := decide (8 < x.o.guests.length) || great ts x.o.gear
def greatHd (m : Kr.Books) (ts : List (Kr.Scale × Value)) : Bool := great ts noGear || (decide (12 < m.cash.length) || (decide (8 < m.outings.length) || (decide (8 < m.refunds.length) || decide (8 < m.pleas.length))))
def greatB (m : Kr.Books) (ts : List (Kr.Scale × Value)) (xs : List OutV) : Bool := greatHd m ts || xs.any (greatAt ts)
theorem any_snoc {α : Type} {p : α → Bool} {l : List α} {k : Nat} {x : α} (h : l[k]? = some x) (h1 : ∀ y ∈ l.take k, p y = false) (h2 : p x = false) : ∀ y ∈ l.take (k + 1), p y = false := by
  rw [take_snoc h]
  intro y hy
  rcases List.mem_append.1 hy with h3 | h3
  · exact h1 y h3
  · rw [List.mem_singleton.1 h3]; exact h2

set_option maxRecDepth 4000 in
set_option maxHeartbeats 8000000 in
theorem r10_Great_any (m : Kr.Books) (v : BookV) (ts : List (Kr.Scale × Value)) (xs : List OutV) (w : World) (h : BooksAt w m v ts xs) :
    Calls Tryz.prog 20 #[.agg #[v.bay, v.cash, v.outs, v.rfds, .int .i64 m.fee, v.pleas]] w fun e w' => e = .returned (.bool (greatB m ts xs)) ∧ w.Exts w' := by
  have hxl : xs.length = m.outings.length := by rw [← h.ose, List.length_map]
  obtain ⟨vb, vc, vo, vr, vp⟩ := v
  obtain ⟨qb, cb, hqb⟩ := h.bay.row.len
  obtain ⟨qc, cc, hqc⟩ := h.cash.len
  obtain ⟨qo, co, hqo⟩ := h.outs.len
  obtain ⟨qr, cr, hqr⟩ := h.rfds.len
  obtain ⟨qp, cp, hqp⟩ := h.pleas.len
  dsimp only at hqb hqc hqr hqp hqo
  subst hqb hqc hqr hqp hqo
  have hbay := h.bay
  dsimp only at hbay
  obtain ⟨_, bo, oo, _, eo, hmo, hqo, hco⟩ := h.outs.ex
  cases eo
  have hout := h.out
  clear h
  obtain ⟨b0, hb0⟩ : ∃ z, great ts noGear = z := ⟨_, rfl⟩
  have hfin : greatB m ts xs = ((b0 || (decide (12 < m.cash.length) || (decide (8 < xs.length) || (decide (8 < m.refunds.length) || decide (8 < m.pleas.length))))) || xs.any (greatAt ts)) := by unfold greatB greatHd; rw [hb0, hxl]
  rw [hfin]
  clear hfin hxl
  have HBAY := Lib.hid hbay
  clear hbay
  have HOUT := Lib.hid hout
  clear hout
  have B0 := Lib.hid hb0
  clear hb0
  have HQO := Lib.hid hqo
  clear hqo
  have HCO := Lib.hid hco
  clear hco
  go_enter Tryz.func20, Tryz.ntmps20
  cases b0
  case true =>
    go_wp2_with (go_at_call 6; refine (r04_Great_any ts _ noGear _ _ _ _ (HBAY.out.mono exq) (IsRow.nil _) (IsRow.nil _) (IsRow.nil _)).mono ?_; rintro e w' ⟨rfl, X1, rfl⟩; rw [B0.out])
    go_ret
    exact ⟨by simp [*], exq⟩
  by_cases k1 : 12 < m.cash.length
  case pos =>
    go_wp2_with (go_at_call 6; refine (r04_Great_any ts _ noGear _ _ _ _ (HBAY.out.mono exq) (IsRow.nil _) (IsRow.nil _) (IsRow.nil _)).mono ?_; rintro e w' ⟨rfl, X1, rfl⟩; rw [B0.out])
    go_ret
    exact ⟨by simp [*], exq⟩
  by_cases k2 : 8 < xs.length
  case pos =>
    go_wp2_with (go_at_call 6; refine (r04_Great_any ts _ noGear _ _ _ _ (HBAY.out.mono exq) (IsRow.nil _) (IsRow.nil _) (IsRow.nil _)).mono ?_; rintro e w' ⟨rfl, X1, rfl⟩; rw [B0.out])
    go_ret
    exact ⟨by simp [*], exq⟩
  by_cases k3 : 8 < m.refunds.length
  case pos =>
    go_wp2_with (go_at_call 6; refine (r04_Great_any ts _ noGear _ _ _ _ (HBAY.out.mono exq) (IsRow.nil _) (IsRow.nil _) (IsRow.nil _)).mono ?_; rintro e w' ⟨rfl, X1, rfl⟩; rw [B0.out])
    go_ret
    exact ⟨by simp [*], exq⟩
  by_cases k4 : 8 < m.pleas.length
  case pos =>
    go_wp2_with (go_at_call 6; refine (r04_Great_any ts _ noGear _ _ _ _ (HBAY.out.mono exq) (IsRow.nil _) (IsRow.nil _) (IsRow.nil _)).mono ?_; rintro e w' ⟨rfl, X1, rfl⟩; rw [B0.out])
    go_ret
    exact ⟨by simp [*], exq⟩
  have d1 : decide (12 < m.cash.length) = false := by simpa using k1
  have d2 : decide (8 < xs.length) = false := by simpa using k2
  have d3 : decide (8 < m.refunds.length) = false := by simpa using k3
  have d4 : decide (8 < m.pleas.length) = false := by simpa using k4
  rw [d1, d2, d3, d4]
  clear d1 d2 d3 d4
  go_wp2_with (go_at_call 6; refine (r04_Great_any ts _ noGear _ _ _ _ (HBAY.out.mono exq) (IsRow.nil _) (IsRow.nil _) (IsRow.nil _)).mono ?_; rintro e w' ⟨rfl, X1, rfl⟩; rw [B0.out])
  go_loopw [3] (fun i wr => ∃ k : Nat, k ≤ xs.length ∧ i = .int .i64 k ∧ Hid (∀ y ∈ xs.take k, greatAt ts y = false) ∧ (World.ext _ X1).Exts wr) (fun i _ => xs.length - (intOf i).toNat)
  case atStart => exact ⟨0, Nat.zero_le _, rfl, Lib.hid (fun y hy => by simp at hy), exq⟩
  case round =>
    obtain ⟨k, hk, rfl, HA, hE⟩ := hrel
    obtain ⟨X2, rfl⟩ := hE
    rcases Nat.lt_or_ge k xs.length with hlt | hge
    · obtain ⟨rfl, hlay⟩ := HQO.out (by omega)
      obtain ⟨x, hx⟩ := some_of_lt hlt
      have hcs := HCO.out k x hx
      have hxa := HOUT.out x (List.mem_of_getElem? hx)
      obtain ⟨qg, cg, e4⟩ := hxa.gs.len
      have c12 := hcs 12 _ rfl
      rw [e4] at c12
      have c14 := hcs 14 _ rfl
      have c15 := hcs 15 _ rfl
      have c16 := hcs 16 _ rfl
      have c17 := hcs 17 _ rfl
      have c18 := hcs 18 _ rfl
      have c19 := hcs 19 _ rfl
      have c20 := hcs 20 _ rfl
      have c21 := hcs 21 _ rfl
      obtain ⟨g1, hg1⟩ : ∃ z, great ts x.o.gear = z := ⟨_, rfl⟩
      have hat : greatAt ts x = (decide (8 < x.o.guests.length) || g1) := by unfold greatAt; rw [hg1]
      have hany : greatAt ts x = true → xs.any (greatAt ts) = true := fun h => List.any_eq_true.2 ⟨x, List.mem_of_getElem? hx, h⟩
      have HXA := Lib.hid hxa
      clear hxa
      have HG1 := Lib.hid hg1
      clear hg1
      clear hcs e4
      by_cases kg : 8 < x.o.guests.length
      · have h9 := hany (by rw [hat, decide_eq_true kg]; rfl)
        have dg : decide ((8 : Int) < (x.o.guests.length : Int)) = true := by simp; omega
        clear kg
        have H9 := Lib.hid h9
        clear h9
        clear hany hat hx
        go_wp2_with fail
        refine wp_region_ext (by kernel_rfl) (by kernel_rfl) ?_
        repeat (go_big_quiet_step ((go_at_call 6; exact Calls.in_ext_eq (r04_Great_any ts _ x.o.gear x.lv x.rv x.sv _ (HBAY.out.mono exq) (HXA.out.l.mono exq) (HXA.out.r.mono exq) (HXA.out.s.mono exq)) (congrArg Value.bool HG1.out))))
        refine wpQuiet_nil ?_
        rintro _ ⟨X, rfl⟩
        go_wp2_with fail
        go_ret
        exact ⟨by rw [H9.out]; rfl, exq⟩
      · rw [decide_eq_false kg] at hat
        have dg : decide ((8 : Int) < (x.o.guests.length : Int)) = false := by simp; omega
        clear kg
        cases g1
        case true =>
          have h9 := hany (by rw [hat]; rfl)
          have H9 := Lib.hid h9
          clear h9
          clear hany hat hx
          go_wp2_with fail
          refine wp_region_ext (by kernel_rfl) (by kernel_rfl) ?_
          repeat (go_big_quiet_step ((go_at_call 6; exact Calls.in_ext_eq (r04_Great_any ts _ x.o.gear x.lv x.rv x.sv _ (HBAY.out.mono exq) (HXA.out.l.mono exq) (HXA.out.r.mono exq) (HXA.out.s.mono exq)) (congrArg Value.bool HG1.out))))
          refine wpQuiet_nil ?_
          rintro _ ⟨X, rfl⟩
          go_wp2_with fail
          go_ret
          exact ⟨by rw [H9.out]; rfl, exq⟩
        have hgood := any_snoc hx HA.out (by rw [hat]; rfl)
        have HGOOD := Lib.hid hgood
        clear hgood
        clear hany hat hx
        go_wp2_with fail
        refine wp_region_ext (by kernel_rfl) (by kernel_rfl) ?_
        repeat (go_big_quiet_step ((go_at_call 6; exact Calls.in_ext_eq (r04_Great_any ts _ x.o.gear x.lv x.rv x.sv _ (HBAY.out.mono exq) (HXA.out.l.mono exq) (HXA.out.r.mono exq) (HXA.out.s.mono exq)) (congrArg Value.bool HG1.out))))
        refine wpQuiet_nil ?_
        rintro _ ⟨X, rfl⟩
        go_wp2_with fail
        go_roundw
        case rel => exact ⟨k + 1, by omega, by go_num, HGOOD, exq⟩
        case measure => simp [intOf]; omega
    · have hA := HA.out
      rw [show k = xs.length by omega, List.take_length] at hA
      have hany : xs.any (greatAt ts) = false := by rw [List.any_eq_false]; intro y hy; rw [hA y hy]; simp
      have HANY := Lib.hid hany
      clear hany
      clear hA HA
      go_wp2_with fail
      go_ret
      exact ⟨by rw [HANY.out]; rfl, exq⟩
end Go.Proofs.YtihkmkocgmkcjaaGreatDoor

/-
  Walks of package guest: Balance, asked, Owed, Refund.
-/
namespace Go.Proofs.YtihkmkocgmkcjaaGreatDoor
open Go.RowKit Go.Maps Kr
set_option linter.unusedSimpArgs false
set_option linter.unusedVariables false

set_option maxHeartbeats 2000000 in
theorem guest_asked_any (m : Kr.Books) (v : BookV) (ts : List (Kr.Scale × Value)) (xs : List OutV) (i : Int) (w : World) (hgd : BooksGood w m v ts xs) (hmo : ∀ x ∈ xs, 0 ≤ x.o.state ∧ x.o.gear.loads.length ≤ 1000) (hcd : CondsAt w) :
    Calls Tryz.prog 45 #[.agg #[v.bay, v.cash, v.outs, v.rfds, .int .i64 m.fee, v.pleas], .int .i64 i] w fun e w' => ∃ p, e = .returned (.tuple #[.pointer p, .int .i64 (askB m i)]) ∧ (askB m i = 0 → ∃ ob, p = some ⟨ob, 0, none⟩ ∧ w'.cell? ⟨ob, 2, none⟩ = some v.outs ∧ w'.cell? ⟨ob, 3, none⟩ = some v.rfds ∧ w'.cell? ⟨ob, 0, none⟩ = some v.bay) ∧ w.Exts w' := by
  have h := hgd.at_
  have hxl := hgd.xl
  have hol := hgd.outs
  obtain ⟨vb, vc, vo, vr, vp⟩ := v
  obtain ⟨qb, cb, hqb⟩ := h.bay.row.len
  obtain ⟨qc, cc, hqc⟩ := h.cash.len
  obtain ⟨qo, co, hqo⟩ := h.outs.len
  obtain ⟨qr, cr, hqr⟩ := h.rfds.len
  obtain ⟨qp, cp, hqp⟩ := h.pleas.len
  dsimp only at hqb hqc hqr hqp hqo
  subst hqb hqc hqr hqp hqo
  clear h
  obtain ⟨cv, hcv⟩ : ∃ z, checkB m = z := ⟨_, rfl⟩
  obtain ⟨b1, hb1⟩ : ∃ z, inAll 0 ((m.outings.length : Int) - 1) [i] = z := ⟨_, rfl⟩
  have hfin : askB m i = if cv = 0 then (if b1 then 0 else 2) else cv := by unfold askB; rw [hcv, ← inAll_one, hb1]
  rw [hfin]
  clear hfin
  rw [← hxl] at hb1 hol
  have HGD := Lib.hid hgd
  clear hgd
  have HMO := Lib.hid hmo
  clear hmo
  have HCD := Lib.hid hcd
  clear hcd
  have HK := Lib.hid hcv
  clear hcv
  have B1 := Lib.hid hb1
  clear hb1
  clear hxl
  by_cases hk : cv = 0
  · subst hk
    cases b1
    · go_enter Tryz.func45, Tryz.ntmps45
      go_wp2_with (first
        | (go_at_call 73; refine (guest_Check_any m ⟨.slice qb ts.length cb, .slice qc m.cash.length cc, .slice qo xs.length co, .slice qr m.refunds.length cr, .slice qp m.pleas.length cp⟩ ts xs _ (HGD.out.mono exq) HMO.out (HCD.out.mono exq)).mono ?_; rintro e w' ⟨rfl, X1, rfl⟩; rw [HK.out])
        | (go_at_call 74; refine (guest_in_any 0 ((xs.length : Int) - 1) _ [i] _ (row_int1 _ _ _ (by simp))).mono ?_; rintro e w' ⟨rfl, X2, rfl⟩; rw [B1.out]))
      go_ret2
      exact ⟨⟨_, rfl⟩, exq⟩
    · go_enter Tryz.func45, Tryz.ntmps45
      go_wp2_with (first
        | (go_at_call 73; refine (guest_Check_any m ⟨.slice qb ts.length cb, .slice qc m.cash.length cc, .slice qo xs.length co, .slice qr m.refunds.length cr, .slice qp m.pleas.length cp⟩ ts xs _ (HGD.out.mono exq) HMO.out (HCD.out.mono exq)).mono ?_; rintro e w' ⟨rfl, X1, rfl⟩; rw [HK.out])
        | (go_at_call 74; refine (guest_in_any 0 ((xs.length : Int) - 1) _ [i] _ (row_int1 _ _ _ (by simp))).mono ?_; rintro e w' ⟨rfl, X2, rfl⟩; rw [B1.out]))
      go_ret2
      exact ⟨_, rfl, ⟨_, rfl, by simp [go_sem], by simp [go_sem], by simp [go_sem]⟩, exq⟩
  · rw [if_neg hk]
    go_enter Tryz.func45, Tryz.ntmps45
    go_wp2_with (go_at_call 73; refine (guest_Check_any m ⟨.slice qb ts.length cb, .slice qc m.cash.length cc, .slice qo xs.length co, .slice qr m.refunds.length cr, .slice qp m.pleas.length cp⟩ ts xs _ (HGD.out.mono exq) HMO.out (HCD.out.mono exq)).mono ?_; rintro e w' ⟨rfl, X1, rfl⟩; rw [HK.out])
    go_ret2
    exact ⟨_, rfl, fun h => absurd h hk, exq⟩
end Go.Proofs.YtihkmkocgmkcjaaGreatDoor

/-
  Walks of package guest: Refund.
-/
namespace Go.Proofs.YtihkmkocgmkcjaaGreatDoor
open Go.RowKit Go.Maps Kr
set_option linter.unusedSimpArgs false
set_option linter.unusedVariables false

end Go.Proofs.YtihkmkocgmkcjaaGreatDoor

/-
  Walks of package guest: Owed.
-/
namespace Go.Proofs.YtihkmkocgmkcjaaGreatDoor
open Go.RowKit Go.Maps Kr
set_option linter.unusedSimpArgs false
set_option linter.unusedVariables false

theorem owed_look {W : World} {b n : Nat} {F : Int → Int} {who : Int} (h : OwedMap W b n F) (hacc : accB n who = true) (hkey : keyOf Tryz.prog 3 (.int .i64 who) = some (.int .i64 who)) : (Instr.lookup 210 (.map (some b)) (.int .i64 who) false).run Tryz.prog W = .ok (.int .i64 (F who)) W := by
  obtain ⟨c, D, -, hown, hM⟩ := h
  have hv := hM.at_ who (.held (.int .i64 0))
  rw [hacc, Bool.true_and] at hv
  have hv2 : D.atKey (.int .i64 who) (.held (.int .i64 0)) = .held (.int .i64 (F who)) := by
    rw [hv]
    by_cases hz : F who = 0
    · rw [hz]; simp
    · rw [if_pos (by simpa using hz)]
  exact look_own hown law_int Tryz.underlying210 (zero_int _) hkey hv2

end Go.Proofs.YtihkmkocgmkcjaaGreatDoor

/-
  The walk of the law GuestCounts.
-/
namespace Go.Proofs.YtihkmkocgmkcjaaGreatDoor
open Go.RowKit Kr
set_option linter.unusedSimpArgs false
set_option linter.unusedVariables false

theorem great_good {w : World} {m : Kr.Books} {v : BookV} {ts : List (Kr.Scale × Value)} {xs : List OutV} (h : BooksAt w m v ts xs) (hwf : ∀ x ∈ xs, OutWf x) (hg : greatB m ts xs = false) : BooksGood w m v ts xs ∧ ∀ x ∈ xs, 0 ≤ x.o.state ∧ x.o.gear.loads.length ≤ 1000 := by
  unfold greatB greatHd at hg
  simp only [Bool.or_eq_false_iff, decide_eq_false_iff_not] at hg
  obtain ⟨⟨-, h1, h2, h3, h4⟩, h5⟩ := hg
  have h6 : ∀ x ∈ xs, x.o.guests.length ≤ 8 ∧ x.o.gear.loads.length ≤ 10 ∧ x.o.gear.runners.length ≤ 12 ∧ x.o.gear.strokes.length ≤ 12 := fun x hx => by
    have h7 := List.any_eq_false.1 h5 x hx
    unfold greatAt great at h7
    simp only [Bool.or_eq_true, decide_eq_true_eq, not_or] at h7
    omega
  refine ⟨⟨h, fun x hx => ?_, by omega, by omega, by omega, by omega⟩, fun x hx => ?_⟩
  · have h7 := h6 x hx
    have h8 := h.out x hx
    exact ⟨h8, ⟨h8.l, h8.r, h8.s, ⟨by dsimp only; omega, by dsimp only; omega⟩, (hwf x hx).loads⟩, by omega⟩
  · have h7 := h6 x hx
    have h8 := (hwf x hx).state
    simp [Lit.wf] at h8
    have hm : IntKind.u8.min = 0 := by decide
    exact ⟨by omega, by omega⟩

end Go.Proofs.YtihkmkocgmkcjaaGreatDoor
