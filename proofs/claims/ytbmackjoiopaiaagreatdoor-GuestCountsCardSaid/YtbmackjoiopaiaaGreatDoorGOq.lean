/-
  Several texts in one: see the heads of its parts.
-/
import Derived.Test.YtbmackjoiopaiaaGreatDoorGBq
import Derived.Test.YtbmackjoiopaiaaGreatDoorGe
import Derived.Test.YtbmackjoiopaiaaGreatDoorGno

/-
  Walks of the reference of guests: Balance, Owed, asked, Refund, Great.
-/
namespace Go.Proofs.YtbmackjoiopaiaaGreatDoor
open Go.RowKit Kr
set_option linter.unusedSimpArgs false
set_option linter.unusedVariables false

theorem owedR_out {os : List Kr.Outing} {k : Nat} {o : Kr.Outing} {fee : Int} (h : os[k]? = some o) (i : Int) : owedR (os.take (k + 1)) fee [] i = owedR (os.take k) fee [] i + if o.state = 0 ∧ (o.guests.any fun x => x == i) = true then o.price else 0 := by
  unfold owedR
  rw [take_snoc h, List.map_append, List.sum_append]
  simp
theorem owedR_plea {os : List Kr.Outing} {k : Nat} {a fee : Int} {pleas : List Int} (h : pleas[k]? = some a) (i : Int) : owedR os fee (pleas.take (k + 1)) i = owedR os fee (pleas.take k) i + if a = i then fee else 0 := by
  unfold owedR
  rw [take_snoc h, List.map_append, List.sum_append]
  simp
  omega
theorem checkB_zero {m : Kr.Books} (h : checkB m = 0) : bayOk m.bay = true ∧ booksB m = true := by
  unfold checkB at h
  split at h
  · rename_i h1
    split at h
    · rename_i h2; exact ⟨h1, h2⟩
    · omega
  · omega

set_option maxHeartbeats 2000000 in
theorem r10_Balance_any (m : Kr.Books) (v : BookV) (ts : List (Kr.Scale × Value)) (xs : List OutV) (w : World) (hgd : BooksGood w m v ts xs) :
    Calls Tryz.prog 8 #[.agg #[v.bay, v.cash, v.outs, v.rfds, .int .i64 m.fee, v.pleas]] w fun e w' => e = .returned (.tuple #[.int .i64 (if checkB m = 0 then m.cash.sum else 0), .int .i64 (checkB m)]) ∧ w.Exts w' := by
  have h := hgd.at_
  obtain ⟨vb, vc, vo, vr, vp⟩ := v
  obtain ⟨qb, cb, hqb⟩ := h.bay.row.len
  obtain ⟨qc, cc, hqc⟩ := h.cash.len
  obtain ⟨qo, co, hqo⟩ := h.outs.len
  obtain ⟨qr, cr, hqr⟩ := h.rfds.len
  obtain ⟨qp, cp, hqp⟩ := h.pleas.len
  dsimp only at hqb hqc hqr hqp hqo
  subst hqb hqc hqr hqp hqo
  obtain ⟨_, bc, oc, _, ec, hmc, hqc, hcc⟩ := h.cash.ex
  cases ec
  clear h
  by_cases hk : checkB m = 0
  · have hf := Kr.book_facts (checkB_zero hk).2
    have hcash := hf.cash
    have hc8 := hf.cash8
    rw [if_pos hk]
    have hbd := fun k => sum_bdN (M := 1000000000) (by omega) (m.cash.take k) fun x hx => hcash x (List.mem_of_mem_take hx)
    rw [hk]
    have HGD := Lib.hid hgd
    clear hgd
    have HK := Lib.hid hk
    clear hk
    have HQC := Lib.hid hqc
    clear hqc
    have HCC := Lib.hid hcc
    clear hcc
    have HBD := Lib.hid hbd
    clear hbd
    have HCA := Lib.hid hcash
    clear hcash
    clear hf
    go_enter Tryz.func8, Tryz.ntmps8
    go_wp2_with (go_at_call 38; refine (r10_Check_any m ⟨.slice qb ts.length cb, .slice qc m.cash.length cc, .slice qo xs.length co, .slice qr m.refunds.length cr, .slice qp m.pleas.length cp⟩ ts xs _ (HGD.out.mono exq)).mono ?_; rintro e w' ⟨rfl, X1, rfl⟩; rw [HK.out])
    go_loopw [6, 5] (fun i s wr => ∃ k : Nat, k ≤ m.cash.length ∧ i = .int .i64 k ∧ s = .int .i64 (m.cash.take k).sum ∧ (World.ext _ X1).Exts wr) (fun i _ _ => m.cash.length - (intOf i).toNat)
    case atStart => exact ⟨0, Nat.zero_le _, rfl, rfl, World.Exts.refl _⟩
    case round =>
      obtain ⟨k, hk, rfl, rfl, hE⟩ := hrel
      obtain ⟨X2, rfl⟩ := hE
      have hbd := HBD.out k
      have hkl : (m.cash.take k).length = k := by rw [List.length_take]; omega
      rw [hkl] at hbd
      clear hkl
      rcases Nat.lt_or_ge k m.cash.length with hlt | hge
      · obtain ⟨rfl, hlay⟩ := HQC.out (by omega)
        obtain ⟨y, hy⟩ := some_of_lt hlt
        have c0 := HCC.out k y hy 0 _ rfl
        simp only [Nat.mul_one, Nat.add_zero] at c0
        have hyb := HCA.out y (List.mem_of_getElem? hy)
        have hsn := sum_part hy
        obtain ⟨sk, hsk⟩ : ∃ z, (m.cash.take k).sum = z := ⟨_, rfl⟩
        rw [hsk] at hbd hsn ⊢
        have HSN := Lib.hid hsn
        clear hsn
        clear hsk hy
        go_wp2_with fail
        go_roundw
        case rel => exact ⟨k + 1, by omega, by go_num, by rw [HSN.out], exq⟩
        case measure => simp [intOf]; omega
      · have hkn : k = m.cash.length := by omega
        have e : (m.cash.take k).sum = m.cash.sum := by rw [hkn, List.take_length]
        rw [e]
        clear e hkn hbd
        go_wp2_with fail
        go_ret2
        exact ⟨rfl, exq⟩
  · rw [if_neg hk]
    obtain ⟨cv, hcv⟩ : ∃ z, checkB m = z := ⟨_, rfl⟩
    rw [hcv] at hk ⊢
    have HGD := Lib.hid hgd
    clear hgd
    have HK := Lib.hid hcv
    clear hcv
    go_enter Tryz.func8, Tryz.ntmps8
    go_wp2_with (go_at_call 38; refine (r10_Check_any m ⟨.slice qb ts.length cb, .slice qc m.cash.length cc, .slice qo xs.length co, .slice qr m.refunds.length cr, .slice qp m.pleas.length cp⟩ ts xs _ (HGD.out.mono exq)).mono ?_; rintro e w' ⟨rfl, X1, rfl⟩; rw [HK.out])
    go_ret2
    exact ⟨rfl, exq⟩

/-- The error of books and an outing. -/
def askB (m : Kr.Books) (i : Int) : Int := if checkB m = 0 then (if inb 0 ((m.outings.length : Int) - 1) i then 0 else 2) else checkB m
set_option maxHeartbeats 2000000 in
theorem r10_asked_any (m : Kr.Books) (v : BookV) (ts : List (Kr.Scale × Value)) (xs : List OutV) (i : Int) (w : World) (hgd : BooksGood w m v ts xs) :
    Calls Tryz.prog 46 #[.agg #[v.bay, v.cash, v.outs, v.rfds, .int .i64 m.fee, v.pleas], .int .i64 i] w fun e w' => e = .returned (.int .i64 (askB m i)) ∧ w.Exts w' := by
  have h := hgd.at_
  have hxl := hgd.xl
  have hol := hgd.outs
  obtain ⟨vb, vc, vo, vr, vp⟩ := v
  obtain ⟨qb, cb, hqb⟩ := h.bay.row.len
  obtain ⟨qc, cc, hqc⟩ := h.cash.len
  obtain ⟨qo, co, hqo⟩ := h.outs.len
  obtain ⟨qr, cr, hqr⟩ := h.rfds.len
  obtain ⟨qp, cp, hqp⟩ := h.pleas.len
  dsimp only at hqb hqc hqr hqp hqo
  subst hqb hqc hqr hqp hqo
  clear h
  obtain ⟨cv, hcv⟩ : ∃ z, checkB m = z := ⟨_, rfl⟩
  obtain ⟨b1, hb1⟩ : ∃ z, inb 0 ((m.outings.length : Int) - 1) i = z := ⟨_, rfl⟩
  have hfin : askB m i = if cv = 0 then (if b1 then 0 else 2) else cv := by unfold askB; rw [hcv, hb1]
  rw [hfin]
  clear hfin
  rw [← hxl] at hb1 hol
  have HGD := Lib.hid hgd
  clear hgd
  have HK := Lib.hid hcv
  clear hcv
  have B1 := Lib.hid hb1
  clear hb1
  clear hxl
  by_cases hk : cv = 0
  · subst hk
    cases b1
    all_goals
      go_enter Tryz.func46, Tryz.ntmps46
      go_wp2_with (first
        | (go_at_call 38; refine (r10_Check_any m ⟨.slice qb ts.length cb, .slice qc m.cash.length cc, .slice qo xs.length co, .slice qr m.refunds.length cr, .slice qp m.pleas.length cp⟩ ts xs _ (HGD.out.mono exq)).mono ?_; rintro e w' ⟨rfl, X1, rfl⟩; rw [HK.out])
        | (go_at_call 41; refine (r10_within_any i 0 ((xs.length : Int) - 1) _).mono ?_; rintro e w' ⟨rfl, X2, rfl⟩; rw [B1.out]))
      go_ret
      exact ⟨rfl, exq⟩
  · rw [if_neg hk]
    go_enter Tryz.func46, Tryz.ntmps46
    go_wp2_with (go_at_call 38; refine (r10_Check_any m ⟨.slice qb ts.length cb, .slice qc m.cash.length cc, .slice qo xs.length co, .slice qr m.refunds.length cr, .slice qp m.pleas.length cp⟩ ts xs _ (HGD.out.mono exq)).mono ?_; rintro e w' ⟨rfl, X1, rfl⟩; rw [HK.out])
    go_ret
    exact ⟨rfl, exq⟩

/-- A refund, or the error. -/
def refundErr (m : Kr.Books) (i days : Int) : Int := if askB m i = 0 then (if inb 0 400 days then 0 else 2) else askB m i
def refundVal (m : Kr.Books) (i days : Int) : Int := if refundErr m i days = 0 then refundOf m.refunds (m.outings.getD i.toNat default).price days else 0
theorem askB_zero {m : Kr.Books} {i : Int} (h : askB m i = 0) : checkB m = 0 ∧ 0 ≤ i ∧ i < (m.outings.length : Int) := by
  unfold askB at h
  split at h
  · rename_i h1
    split at h
    · rename_i h2
      have := inb_iff.1 h2
      exact ⟨h1, by omega, by omega⟩
    · omega
  · contradiction
set_option maxHeartbeats 2000000 in
theorem r10_Refund_any (m : Kr.Books) (v : BookV) (ts : List (Kr.Scale × Value)) (xs : List OutV) (i days : Int) (w : World) (hgd : BooksGood w m v ts xs) :
    Calls Tryz.prog 12 #[.agg #[v.bay, v.cash, v.outs, v.rfds, .int .i64 m.fee, v.pleas], .int .i64 i, .int .i64 days] w fun e w' => e = .returned (.tuple #[.int .i64 (refundVal m i days), .int .i64 (refundErr m i days)]) ∧ w.Exts w' := by
  have h := hgd.at_
  have hrl := hgd.rfds
  obtain ⟨vb, vc, vo, vr, vp⟩ := v
  obtain ⟨qb, cb, hqb⟩ := h.bay.row.len
  obtain ⟨qc, cc, hqc⟩ := h.cash.len
  obtain ⟨qo, co, hqo⟩ := h.outs.len
  obtain ⟨qr, cr, hqr⟩ := h.rfds.len
  obtain ⟨qp, cp, hqp⟩ := h.pleas.len
  dsimp only at hqb hqc hqr hqp hqo
  subst hqb hqc hqr hqp hqo
  obtain ⟨cv, hcv⟩ : ∃ z, askB m i = z := ⟨_, rfl⟩
  obtain ⟨b1, hb1⟩ : ∃ z, inb 0 400 days = z := ⟨_, rfl⟩
  have hfe : refundErr m i days = if cv = 0 then (if b1 then 0 else 2) else cv := by unfold refundErr; rw [hcv, hb1]
  have hfv : refundVal m i days = if refundErr m i days = 0 then refundOf m.refunds (m.outings.getD i.toNat default).price days else 0 := rfl
  rw [hfv, hfe]
  clear hfv hfe
  have HGD := Lib.hid hgd
  clear hgd
  have HB := Lib.hid h
  clear h
  have B1 := Lib.hid hb1
  clear hb1
  by_cases hk : cv = 0
  · subst hk
    have hz := askB_zero hcv
    have hf := Kr.book_facts (checkB_zero hz.1).2
    obtain ⟨o, ho⟩ := some_of_lt (show i.toNat < m.outings.length by omega)
    have hin : ((i.toNat : Nat) : Int) = i := by omega
    have hof := hf.out o (List.mem_of_getElem? ho)
    have hrf := fun r hr => (hf.rfd r hr).2
    have hprice := hof.price
    have hod := getD_of (d := (default : Kr.Outing)) ho
    rw [hod]
    have hcall := fun (W : World) (hE : w.Exts W) => r10_refund_any m ⟨.slice qb ts.length cb, .slice qc m.cash.length cc, .slice qo xs.length co, .slice qr m.refunds.length cr, .slice qp m.pleas.length cp⟩ ts xs i.toNat o days W (HB.out.mono hE) ho hrl hprice hrf
    rw [hin] at hcall
    have HK := Lib.hid hcv
    clear hcv
    have HCALL := Lib.hid hcall
    clear hcall
    clear hf hof hrf ho hz hod hin
    cases b1
    all_goals
      go_enter Tryz.func12, Tryz.ntmps12
      go_wp2_with (first
        | (go_at_call 46; refine (r10_asked_any m ⟨.slice qb ts.length cb, .slice qc m.cash.length cc, .slice qo xs.length co, .slice qr m.refunds.length cr, .slice qp m.pleas.length cp⟩ ts xs i _ (HGD.out.mono exq)).mono ?_; rintro e w' ⟨rfl, X1, rfl⟩; rw [HK.out])
        | (go_at_call 41; refine (r10_within_any days 0 400 _).mono ?_; rintro e w' ⟨rfl, X2, rfl⟩; rw [B1.out])
        | (go_at_call 47; refine (HCALL.out _ exq).mono ?_; rintro e w' ⟨rfl, X3, rfl⟩))
      go_ret2
      exact ⟨rfl, exq⟩
  · have HK := Lib.hid hcv
    clear hcv
    rw [if_neg hk, if_neg hk]
    go_enter Tryz.func12, Tryz.ntmps12
    go_wp2_with (go_at_call 46; refine (r10_asked_any m ⟨.slice qb ts.length cb, .slice qc m.cash.length cc, .slice qo xs.length co, .slice qr m.refunds.length cr, .slice qp m.pleas.length cp⟩ ts xs i _ (HGD.out.mono exq)).mono ?_; rintro e w' ⟨rfl, X1, rfl⟩; rw [HK.out])
    go_ret2
    exact ⟨rfl, exq⟩
end Go.Proofs.YtbmackjoiopaiaaGreatDoor

/-
  Walks of the reference of guests: Owed.
-/
namespace Go.Proofs.YtbmackjoiopaiaaGreatDoor
open Go.RowKit Kr
set_option linter.unusedSimpArgs false
set_option linter.unusedVariables false

def owedErr (m : Kr.Books) (who : Int) : Int := if checkB m = 0 then (if inb 2 ((m.cash.length : Int) - 1) who then 0 else 2) else checkB m
def owedVal (m : Kr.Books) (who : Int) : Int := if owedErr m who = 0 then owedBy m.outings m.fee m.pleas who else 0
theorem owedR_bd {m : Kr.Books} (hf : BookFacts m) (os : List Kr.Outing) (ps : List Int) (ho : ∀ o ∈ os, o ∈ m.outings) (h1 : os.length ≤ 4) (h2 : ps.length ≤ 4) (i : Int) : 0 ≤ owedR os m.fee ps i ∧ owedR os m.fee ps i ≤ 4000000 := by
  rw [owedR_eq i fun o h => (hf.out o (ho o h)).alone i]
  have h3 := owedBy_bd (os := os) (fee := m.fee) (pleas := ps) (fun o h => by
    have h13 := hf.out o (ho o h)
    have h14 := h13.seats
    have h15 := h13.few
    exact ⟨h13.price, by omega⟩) hf.fee i
  omega
end Go.Proofs.YtbmackjoiopaiaaGreatDoor

/-
  The walk of the reference's Owed.
-/
namespace Go.Proofs.YtbmackjoiopaiaaGreatDoor
open Go.RowKit Kr
set_option linter.unusedSimpArgs false
set_option linter.unusedVariables false

set_option maxRecDepth 4000 in
set_option maxHeartbeats 8000000 in
noncomputable def r10_Owed_any_c1 : { G : Prop // G → ∀ (m : Kr.Books) (v : BookV) (ts : List (Kr.Scale × Value)) (xs : List OutV) (who : Int) (w : World) (_ : BooksGood w m v ts xs),
    Calls Tryz.prog 10 #[.agg #[v.bay, v.cash, v.outs, v.rfds, .int .i64 m.fee, v.pleas], .int .i64 who] w fun e w' => e = .returned (.tuple #[.int .i64 (owedVal m who), .int .i64 (owedErr m who)]) ∧ w.Exts w' } := by
  apply Subtype.mk
  case property =>
  intro hG
  have HG := Lib.hid hG
  clear hG
  intro m v ts xs who w hgd
  have h := hgd.at_
  have hxl := hgd.xl
  have hcl := hgd.cash
  obtain ⟨vb, vc, vo, vr, vp⟩ := v
  obtain ⟨qb, cb, hqb⟩ := h.bay.row.len
  obtain ⟨qc, cc, hqc⟩ := h.cash.len
  obtain ⟨qo, co, hqo⟩ := h.outs.len
  obtain ⟨qr, cr, hqr⟩ := h.rfds.len
  obtain ⟨qp, cp, hqp⟩ := h.pleas.len
  dsimp only at hqb hqc hqr hqp hqo
  subst hqb hqc hqr hqp hqo
  obtain ⟨_, bo, oo, _, eo, hmo, hqo, hco⟩ := h.outs.ex
  cases eo
  obtain ⟨_, bp, op_, _, ep, hmp, hqp, hcp⟩ := h.pleas.ex
  cases ep
  have hos := h.ose
  have hout := h.out
  clear h
  obtain ⟨cv, hcv⟩ : ∃ z, checkB m = z := ⟨_, rfl⟩
  obtain ⟨b1, hb1⟩ : ∃ z, inb 2 ((m.cash.length : Int) - 1) who = z := ⟨_, rfl⟩
  have hfe : owedErr m who = if cv = 0 then (if b1 then 0 else 2) else cv := by unfold owedErr; rw [hcv, hb1]
  have hfv : owedVal m who = if owedErr m who = 0 then owedBy m.outings m.fee m.pleas who else 0 := rfl
  rw [hfv, hfe]
  clear hfv hfe
  have HGD := Lib.hid hgd
  clear hgd
  have B1 := Lib.hid hb1
  clear hb1
  have HXL := Lib.hid hxl
  clear hxl
  have HOS := Lib.hid hos
  clear hos
  have HOUT := Lib.hid hout
  clear hout
  have HQO := Lib.hid hqo
  clear hqo
  have HCO := Lib.hid hco
  clear hco
  have HQP := Lib.hid hqp
  clear hqp
  have HCP := Lib.hid hcp
  clear hcp
  by_cases hk : cv = 0
  case neg =>
    have HK := Lib.hid hcv
    clear hcv
    rw [if_neg hk, if_neg hk]
    clear HG
    go_enter Tryz.func10, Tryz.ntmps10
    go_wp2_with (go_at_call 38; refine (r10_Check_any m ⟨.slice qb ts.length cb, .slice qc m.cash.length cc, .slice qo xs.length co, .slice qr m.refunds.length cr, .slice qp m.pleas.length cp⟩ ts xs _ (HGD.out.mono exq)).mono ?_; rintro e w' ⟨rfl, X1, rfl⟩; rw [HK.out])
    go_ret2
    exact ⟨rfl, exq⟩
  subst hk
  have hf := Kr.book_facts (checkB_zero hcv).2
  have hbo := fun k => owedR_bd hf (m.outings.take k) [] (fun o ho => List.mem_of_mem_take ho) (by rw [List.length_take]; have := hf.outs; omega) (by simp) who
  have hbp := fun k => owedR_bd hf m.outings (m.pleas.take k) (fun o ho => ho) hf.outs (by rw [List.length_take]; have := hf.pleas; omega) who
  have hend := owedR_eq (os := m.outings) (fee := m.fee) (pleas := m.pleas) who fun o h => (hf.out o h).alone who
  have hoo := hf.outs
  have hpp := hf.pleas
  have hfee := hf.fee
  have hof := hf.out
  have HK := Lib.hid hcv
  clear hcv
  have HBO := Lib.hid hbo
  clear hbo
  have HBP := Lib.hid hbp
  clear hbp
  have HEND := Lib.hid hend
  clear hend
  have HOF := Lib.hid hof
  clear hof
  have HOO := Lib.hid hoo
  clear hoo
  clear hf
  cases b1
  case false =>
    clear HG
    go_enter Tryz.func10, Tryz.ntmps10
    go_wp2_with (first
      | (go_at_call 38; refine (r10_Check_any m ⟨.slice qb ts.length cb, .slice qc m.cash.length cc, .slice qo xs.length co, .slice qr m.refunds.length cr, .slice qp m.pleas.length cp⟩ ts xs _ (HGD.out.mono exq)).mono ?_; rintro e w' ⟨rfl, X1, rfl⟩; rw [HK.out])
      | (go_at_call 41; refine (r10_within_any who 2 ((m.cash.length : Int) - 1) _).mono ?_; rintro e w' ⟨rfl, X2, rfl⟩; rw [B1.out]))
    go_ret2
    exact ⟨rfl, exq⟩
  go_enter Tryz.func10, Tryz.ntmps10
  go_wp2_with (first
    | (go_at_call 38; refine (r10_Check_any m ⟨.slice qb ts.length cb, .slice qc m.cash.length cc, .slice qo xs.length co, .slice qr m.refunds.length cr, .slice qp m.pleas.length cp⟩ ts xs _ (HGD.out.mono exq)).mono ?_; rintro e w' ⟨rfl, X1, rfl⟩; rw [HK.out])
    | (go_at_call 41; refine (r10_within_any who 2 ((m.cash.length : Int) - 1) _).mono ?_; rintro e w' ⟨rfl, X2, rfl⟩; rw [B1.out]))
  have hwV : w.Exts (World.ext _ X2) := exq
  have o2 : (World.ext _ X2).cell? ⟨w.heap.size, 2, none⟩ = some (.slice qo xs.length co) := by simp [go_sem]
  have o4 : (World.ext _ X2).cell? ⟨w.heap.size, 4, none⟩ = some (.int .i64 m.fee) := by simp [go_sem]
  have o5 : (World.ext _ X2).cell? ⟨w.heap.size, 5, none⟩ = some (.slice qp m.pleas.length cp) := by simp [go_sem]
  generalize World.ext _ X2 = V at *
  have n1 := Lays.of_cell o2
  have HWV := Lib.hid hwV
  clear hwV
  rename_i i9_1_1 i9_1_2 i9_1_3
  revert m ts xs who w hcl qb cb qc cc qo co qr cr qp cp bo oo hmo bp op_ hmp HGD HXL HOS HOUT HQO HCO HQP HCP hpp hfee HK HBO HBP HEND HOF HOO B1 i9_1_1 X1 X2 i9_1_2 i9_1_3 V o2 o4 o5 n1 HWV
  exact HG.out
end Go.Proofs.YtbmackjoiopaiaaGreatDoor

/-
  The walk of the reference's Owed.
-/
namespace Go.Proofs.YtbmackjoiopaiaaGreatDoor
open Go.RowKit Kr
set_option linter.unusedSimpArgs false
set_option linter.unusedVariables false

set_option maxRecDepth 4000 in
set_option maxHeartbeats 8000000 in
noncomputable def r10_Owed_any_c2 : { G : Prop // G → r10_Owed_any_c1.val } := by
  apply Subtype.mk
  case property =>
  intro hG
  have HG := Lib.hid hG
  clear hG
  intro m ts xs who w hcl qb cb qc cc qo co qr cr qp cp bo oo hmo bp op_ hmp HGD HXL HOS HOUT HQO HCO HQP HCP hpp hfee HK HBO HBP HEND HOF HOO B1 i9_1_1 X1 X2 i9_1_2 i9_1_3 V o2 o4 o5 n1 HWV
  go_loopw [8, 7] (fun i s wr => ∃ k : Nat, k ≤ xs.length ∧ i = .int .i64 k ∧ s = .int .i64 (owedR (m.outings.take k) m.fee [] who) ∧ V.Exts wr) (fun i _ _ => xs.length - (intOf i).toNat)
  case atStart => exact ⟨0, Nat.zero_le _, rfl, by simp [owedR], World.Exts.refl _⟩
  case round =>
    obtain ⟨k, hk, rfl, rfl, hE⟩ := hrel
    obtain ⟨X3, rfl⟩ := hE
    have hb9 := HBO.out k
    rcases Nat.lt_or_ge k xs.length with hlt | hge
    · obtain ⟨rfl, hlay⟩ := HQO.out (by omega)
      obtain ⟨⟨o, gs, lv, rv, sv⟩, hx⟩ := some_of_lt hlt
      have hcs := HCO.out k _ hx
      have hxa := HOUT.out _ (List.mem_of_getElem? hx)
      have hok : m.outings[k]? = some o := by rw [← HOS.out, List.getElem?_map, hx]; rfl
      have hof := HOF.out o (List.mem_of_getElem? hok)
      have hpr := hof.price
      have hse := hof.seats
      have hfew := hof.few
      have hsn := owedR_out (fee := m.fee) hok who
      have hga := hxa.gs
      have hl1 := hxa.l
      have hl2 := hxa.r
      have hl3 := hxa.s
      dsimp only at hga hl1 hl2 hl3 hcs
      obtain ⟨q1, p1, e1⟩ := hl1.len
      obtain ⟨q2, p2, e2⟩ := hl2.len
      obtain ⟨q3, p3, e3⟩ := hl3.len
      obtain ⟨qg, cg, e4⟩ := hga.len
      subst e1 e2 e3 e4
      have hEw : w.Exts (World.ext V X3) := HWV.out.trans ⟨X3, rfl⟩
      obtain ⟨g1, hg1⟩ : ∃ z, (o.guests.any fun x => x == who) = z := ⟨_, rfl⟩
      rw [hg1] at hsn
      obtain ⟨sk, hsk⟩ : ∃ z, owedR (m.outings.take k) m.fee [] who = z := ⟨_, rfl⟩
      rw [hsk] at hb9 hsn ⊢
      have HCS := Lib.hid hcs
      clear hcs
      have HGA := Lib.hid hga
      clear hga
      have G1 := Lib.hid hg1
      clear hg1
      clear hxa hok hof hl1 hl2 hl3 hx hsk
      by_cases hst : o.state = 0
      · have s1 : (o.state == 0) = true := by simpa using hst
        have s2 : decide (o.state = 0) = true := by simpa using hst
        cases g1
        · rw [if_neg (by simp)] at hsn
          clear hst
          have HSN := Lib.hid hsn
          clear hsn
          go_wp2_with (first
        | (refine wpList_load_mid rfl 87 _ rfl bo (oo + k * 23) rfl [.int .i64 o.id, .int .i64 o.pilot, .int .i64 o.seats, .int .i64 o.price, .int .i64 o.part, .int .i64 o.norm.total.lo, .int .i64 o.norm.total.hi, .int .i64 o.norm.added, .int .i64 o.norm.warm, .int .i64 o.norm.hard.lo, .int .i64 o.norm.hard.hi, .bool o.norm.stamp, (.slice qg o.guests.length cg), .bool o.weighed, (.slice q1 o.gear.loads.length p1), .int .i64 o.gear.added, .int .i64 o.gear.base, .int .i64 o.gear.jitter, (.slice q2 o.gear.runners.length p2), (.slice q3 o.gear.strokes.length p3), .int .i64 o.gear.spread, .bool o.gear.stamp, .int .u8 o.state] _ (fun j u hju => hEw.cell (HCS.out j u hju)) Tryz.underlying87 rfl (by kernel_rfl) ?_)
        | (refine wpList_store_new (t := 87) (cells := #[.int .i64 o.id, .int .i64 o.pilot, .int .i64 o.seats, .int .i64 o.price, .int .i64 o.part, .int .i64 o.norm.total.lo, .int .i64 o.norm.total.hi, .int .i64 o.norm.added, .int .i64 o.norm.warm, .int .i64 o.norm.hard.lo, .int .i64 o.norm.hard.hi, .bool o.norm.stamp, (.slice qg o.guests.length cg), .bool o.weighed, (.slice q1 o.gear.loads.length p1), .int .i64 o.gear.added, .int .i64 o.gear.base, .int .i64 o.gear.jitter, (.slice q2 o.gear.runners.length p2), (.slice q3 o.gear.strokes.length p3), .int .i64 o.gear.spread, .bool o.gear.stamp, .int .u8 o.state]) (by rfl) (by rfl) (by kernel_rfl) (by rfl) (by simp [Value.oneCell']) ?_)
        | (go_at_call 42; refine (r10_Has_any o.guests _ who _ (HGA.out.mono (exf HWV.out)) (by omega)).mono ?_; rintro e w' ⟨rfl, X4, rfl⟩; rw [G1.out]))
          go_roundw
          case rel => exact ⟨k + 1, by omega, by go_num, by rw [HSN.out, Int.add_zero], exq⟩
          case measure => simp [intOf]; omega
        · rw [if_pos ⟨hst, rfl⟩] at hsn
          clear hst
          have HSN := Lib.hid hsn
          clear hsn
          go_wp2_with (first
        | (refine wpList_load_mid rfl 87 _ rfl bo (oo + k * 23) rfl [.int .i64 o.id, .int .i64 o.pilot, .int .i64 o.seats, .int .i64 o.price, .int .i64 o.part, .int .i64 o.norm.total.lo, .int .i64 o.norm.total.hi, .int .i64 o.norm.added, .int .i64 o.norm.warm, .int .i64 o.norm.hard.lo, .int .i64 o.norm.hard.hi, .bool o.norm.stamp, (.slice qg o.guests.length cg), .bool o.weighed, (.slice q1 o.gear.loads.length p1), .int .i64 o.gear.added, .int .i64 o.gear.base, .int .i64 o.gear.jitter, (.slice q2 o.gear.runners.length p2), (.slice q3 o.gear.strokes.length p3), .int .i64 o.gear.spread, .bool o.gear.stamp, .int .u8 o.state] _ (fun j u hju => hEw.cell (HCS.out j u hju)) Tryz.underlying87 rfl (by kernel_rfl) ?_)
        | (refine wpList_store_new (t := 87) (cells := #[.int .i64 o.id, .int .i64 o.pilot, .int .i64 o.seats, .int .i64 o.price, .int .i64 o.part, .int .i64 o.norm.total.lo, .int .i64 o.norm.total.hi, .int .i64 o.norm.added, .int .i64 o.norm.warm, .int .i64 o.norm.hard.lo, .int .i64 o.norm.hard.hi, .bool o.norm.stamp, (.slice qg o.guests.length cg), .bool o.weighed, (.slice q1 o.gear.loads.length p1), .int .i64 o.gear.added, .int .i64 o.gear.base, .int .i64 o.gear.jitter, (.slice q2 o.gear.runners.length p2), (.slice q3 o.gear.strokes.length p3), .int .i64 o.gear.spread, .bool o.gear.stamp, .int .u8 o.state]) (by rfl) (by rfl) (by kernel_rfl) (by rfl) (by simp [Value.oneCell']) ?_)
        | (go_at_call 42; refine (r10_Has_any o.guests _ who _ (HGA.out.mono (exf HWV.out)) (by omega)).mono ?_; rintro e w' ⟨rfl, X4, rfl⟩; rw [G1.out]))
          go_roundw
          case rel => exact ⟨k + 1, by omega, by go_num, by rw [HSN.out], exq⟩
          case measure => simp [intOf]; omega
      · rw [if_neg (fun hh => hst hh.1)] at hsn
        have s1 : (o.state == 0) = false := by simpa using hst
        have s2 : decide (o.state = 0) = false := by simpa using hst
        have HSN := Lib.hid hsn
        clear hsn
        clear hst
        go_wp2_with (first
        | (refine wpList_load_mid rfl 87 _ rfl bo (oo + k * 23) rfl [.int .i64 o.id, .int .i64 o.pilot, .int .i64 o.seats, .int .i64 o.price, .int .i64 o.part, .int .i64 o.norm.total.lo, .int .i64 o.norm.total.hi, .int .i64 o.norm.added, .int .i64 o.norm.warm, .int .i64 o.norm.hard.lo, .int .i64 o.norm.hard.hi, .bool o.norm.stamp, (.slice qg o.guests.length cg), .bool o.weighed, (.slice q1 o.gear.loads.length p1), .int .i64 o.gear.added, .int .i64 o.gear.base, .int .i64 o.gear.jitter, (.slice q2 o.gear.runners.length p2), (.slice q3 o.gear.strokes.length p3), .int .i64 o.gear.spread, .bool o.gear.stamp, .int .u8 o.state] _ (fun j u hju => hEw.cell (HCS.out j u hju)) Tryz.underlying87 rfl (by kernel_rfl) ?_)
        | (refine wpList_store_new (t := 87) (cells := #[.int .i64 o.id, .int .i64 o.pilot, .int .i64 o.seats, .int .i64 o.price, .int .i64 o.part, .int .i64 o.norm.total.lo, .int .i64 o.norm.total.hi, .int .i64 o.norm.added, .int .i64 o.norm.warm, .int .i64 o.norm.hard.lo, .int .i64 o.norm.hard.hi, .bool o.norm.stamp, (.slice qg o.guests.length cg), .bool o.weighed, (.slice q1 o.gear.loads.length p1), .int .i64 o.gear.added, .int .i64 o.gear.base, .int .i64 o.gear.jitter, (.slice q2 o.gear.runners.length p2), (.slice q3 o.gear.strokes.length p3), .int .i64 o.gear.spread, .bool o.gear.stamp, .int .u8 o.state]) (by rfl) (by rfl) (by kernel_rfl) (by rfl) (by simp [Value.oneCell']) ?_)
        | (go_at_call 42; refine (r10_Has_any o.guests _ who _ (HGA.out.mono (exf HWV.out)) (by omega)).mono ?_; rintro e w' ⟨rfl, X4, rfl⟩; rw [G1.out]))
        go_roundw
        case rel => exact ⟨k + 1, by omega, by go_num, by rw [HSN.out, Int.add_zero], exq⟩
        case measure => simp [intOf]; omega
    · have hnl : ¬ k < xs.length := by omega
      have e : owedR (m.outings.take k) m.fee [] who = owedR m.outings m.fee (m.pleas.take 0) who := by rw [show k = m.outings.length by have := HXL.out; omega, List.take_length, List.take_zero]
      rw [e]
      clear e hb9
      go_wp2_with fail
      rename_i i9_2_1 i9_2_2 i9_2_3 i9_2_4 i9_2_5
      revert m ts xs who w hcl qb cb qc cc qo co qr cr qp cp bo oo hmo bp op_ hmp HGD HXL HOS HOUT HQO HCO HQP HCP hpp hfee HK HBO HBP HEND HOF HOO B1 i9_1_1 X1 X2 i9_1_2 V o2 o4 o5 n1 HWV u9 u23 u24 u25 u26 u27 u28 u29 u30 u31 u32 u33 u34 u35 u36 u37 u38 u39 u40 u41 u42 u43 u44 u45 u46 u47 k hk X3 hge hnl i9_2_1 i9_2_2 i9_2_3 i9_2_4 i9_2_5
      exact HG.out
end Go.Proofs.YtbmackjoiopaiaaGreatDoor

/-
  The walk of the reference's Owed.
-/
namespace Go.Proofs.YtbmackjoiopaiaaGreatDoor
open Go.RowKit Kr
set_option linter.unusedSimpArgs false
set_option linter.unusedVariables false

set_option maxRecDepth 4000 in
set_option maxHeartbeats 8000000 in
theorem r10_Owed_any_last : r10_Owed_any_c2.val := by
  intro m ts xs who w hcl qb cb qc cc qo co qr cr qp cp bo oo hmo bp op_ hmp HGD HXL HOS HOUT HQO HCO HQP HCP hpp hfee HK HBO HBP HEND HOF HOO B1 i9_1_1 X1 X2 i9_1_2 V o2 o4 o5 n1 HWV u9 u23 u24 u25 u26 u27 u28 u29 u30 u31 u32 u33 u34 u35 u36 u37 u38 u39 u40 u41 u42 u43 u44 u45 u46 u47 k hk X3 hge hnl i9_2_1 i9_2_2 i9_2_3 i9_2_4 i9_2_5
  go_loopw [10, 7] (fun i s wr => ∃ k : Nat, k ≤ m.pleas.length ∧ i = .int .i64 k ∧ s = .int .i64 (owedR m.outings m.fee (m.pleas.take k) who) ∧ V.Exts wr) (fun i _ _ => m.pleas.length - (intOf i).toNat)
  case atStart => exact ⟨0, Nat.zero_le _, rfl, rfl, exq⟩
  case round =>
    clear X3 hk hge
    obtain ⟨k, hk, rfl, rfl, hE⟩ := hrel
    obtain ⟨X3, rfl⟩ := hE
    have hb9 := HBP.out k
    rcases Nat.lt_or_ge k m.pleas.length with hlt | hge
    · obtain ⟨rfl, hlay⟩ := HQP.out (by omega)
      obtain ⟨y, hy⟩ := some_of_lt hlt
      have c0 := HCP.out k y hy 0 _ rfl
      simp only [Nat.mul_one, Nat.add_zero] at c0
      have e0 := HWV.out.cell c0
      have n9 := Lays.of_cell e0
      have hsn := owedR_plea (os := m.outings) (fee := m.fee) hy who
      obtain ⟨sk, hsk⟩ : ∃ z, owedR m.outings m.fee (m.pleas.take k) who = z := ⟨_, rfl⟩
      rw [hsk] at hb9 hsn ⊢
      clear hsk hy c0
      by_cases hyw : y = who
      · rw [if_pos hyw] at hsn
        have s1 : (y == who) = true := by simpa using hyw
        have s2 : decide (y = who) = true := by simpa using hyw
        have HSN := Lib.hid hsn
        clear hsn
        clear hyw
        go_wp2_with fail
        go_roundw
        case rel => exact ⟨k + 1, by omega, by go_num, by rw [HSN.out], exq⟩
        case measure => simp [intOf]; omega
      · rw [if_neg hyw] at hsn
        have s1 : (y == who) = false := by simpa using hyw
        have s2 : decide (y = who) = false := by simpa using hyw
        have HSN := Lib.hid hsn
        clear hsn
        clear hyw
        go_wp2_with fail
        go_roundw
        case rel => exact ⟨k + 1, by omega, by go_num, by rw [HSN.out, Int.add_zero], exq⟩
        case measure => simp [intOf]; omega
    · have hnl2 : ¬ k < m.pleas.length := by omega
      have e : owedR m.outings m.fee (m.pleas.take k) who = owedBy m.outings m.fee m.pleas who := by rw [show k = m.pleas.length by omega, List.take_length]; exact HEND.out
      rw [e]
      clear e hb9
      go_wp2_with fail
      go_ret2
      exact ⟨rfl, (exf HWV.out)⟩
theorem r10_Owed_any (m : Kr.Books) (v : BookV) (ts : List (Kr.Scale × Value)) (xs : List OutV) (who : Int) (w : World) (hgd : BooksGood w m v ts xs) :
    Calls Tryz.prog 10 #[.agg #[v.bay, v.cash, v.outs, v.rfds, .int .i64 m.fee, v.pleas], .int .i64 who] w fun e w' => e = .returned (.tuple #[.int .i64 (owedVal m who), .int .i64 (owedErr m who)]) ∧ w.Exts w' :=
  (r10_Owed_any_c1.property (r10_Owed_any_c2.property r10_Owed_any_last)) m v ts xs who w hgd
end Go.Proofs.YtbmackjoiopaiaaGreatDoor
