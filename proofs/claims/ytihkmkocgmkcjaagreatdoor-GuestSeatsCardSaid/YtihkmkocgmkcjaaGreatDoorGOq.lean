/-
  Several texts in one: see the heads of its parts.
-/
import Derived.Test.YtihkmkocgmkcjaaGreatDoorGBq
import Derived.Test.YtihkmkocgmkcjaaGreatDoorGe
import Derived.Test.YtihkmkocgmkcjaaGreatDoorGno

/-
  Walks of the reference of guests: Balance, Owed, asked, Refund, Great.
-/
namespace Go.Proofs.YtihkmkocgmkcjaaGreatDoor
open Go.RowKit Kr
set_option linter.unusedSimpArgs false
set_option linter.unusedVariables false

theorem owedR_out {os : List Kr.Outing} {k : Nat} {o : Kr.Outing} {fee : Int} (h : os[k]? = some o) (i : Int) : owedR (os.take (k + 1)) fee [] i = owedR (os.take k) fee [] i + if o.state = 0 ∧ (o.guests.any fun x => x == i) = true then o.price else 0 := by
  unfold owedR
  rw [take_snoc h, List.map_append, List.sum_append]
  simp
theorem owedR_plea {os : List Kr.Outing} {k : Nat} {a fee : Int} {pleas : List Int} (h : pleas[k]? = some a) (i : Int) : owedR os fee (pleas.take (k + 1)) i = owedR os fee (pleas.take k) i + if a = i then fee else 0 := by
  unfold owedR
  rw [take_snoc h, List.map_append, List.sum_append]
  simp
  omega
theorem checkB_zero {m : Kr.Books} (h : checkB m = 0) : bayOk m.bay = true ∧ booksB m = true := by
  unfold checkB at h
  split at h
  · rename_i h1
    split at h
    · rename_i h2; exact ⟨h1, h2⟩
    · omega
  · omega

/-- The error of books and an outing. -/
def askB (m : Kr.Books) (i : Int) : Int := if checkB m = 0 then (if inb 0 ((m.outings.length : Int) - 1) i then 0 else 2) else checkB m
set_option maxHeartbeats 2000000 in
theorem r10_asked_any (m : Kr.Books) (v : BookV) (ts : List (Kr.Scale × Value)) (xs : List OutV) (i : Int) (w : World) (hgd : BooksGood w m v ts xs) :
    Calls Tryz.prog 46 #[.agg #[v.bay, v.cash, v.outs, v.rfds, .int .i64 m.fee, v.pleas], .int .i64 i] w fun e w' => e = .returned (.int .i64 (askB m i)) ∧ w.Exts w' := by
  have h := hgd.at_
  have hxl := hgd.xl
  have hol := hgd.outs
  obtain ⟨vb, vc, vo, vr, vp⟩ := v
  obtain ⟨qb, cb, hqb⟩ := h.bay.row.len
  obtain ⟨qc, cc, hqc⟩ := h.cash.len
  obtain ⟨qo, co, hqo⟩ := h.outs.len
  obtain ⟨qr, cr, hqr⟩ := h.rfds.len
  obtain ⟨qp, cp, hqp⟩ := h.pleas.len
  dsimp only at hqb hqc hqr hqp hqo
  subst hqb hqc hqr hqp hqo
  clear h
  obtain ⟨cv, hcv⟩ : ∃ z, checkB m = z := ⟨_, rfl⟩
  obtain ⟨b1, hb1⟩ : ∃ z, inb 0 ((m.outings.length : Int) - 1) i = z := ⟨_, rfl⟩
  have hfin : askB m i = if cv = 0 then (if b1 then 0 else 2) else cv := by unfold askB; rw [hcv, hb1]
  rw [hfin]
  clear hfin
  rw [← hxl] at hb1 hol
  have HGD := Lib.hid hgd
  clear hgd
  have HK := Lib.hid hcv
  clear hcv
  have B1 := Lib.hid hb1
  clear hb1
  clear hxl
  by_cases hk : cv = 0
  · subst hk
    cases b1
    all_goals
      go_enter Tryz.func46, Tryz.ntmps46
      go_wp2_with (first
        | (go_at_call 75; refine (r10_Check_any m ⟨.slice qb ts.length cb, .slice qc m.cash.length cc, .slice qo xs.length co, .slice qr m.refunds.length cr, .slice qp m.pleas.length cp⟩ ts xs _ (HGD.out.mono exq)).mono ?_; rintro e w' ⟨rfl, X1, rfl⟩; rw [HK.out])
        | (go_at_call 76; refine (r10_within_any i 0 ((xs.length : Int) - 1) _).mono ?_; rintro e w' ⟨rfl, X2, rfl⟩; rw [B1.out]))
      go_ret
      exact ⟨rfl, exq⟩
  · rw [if_neg hk]
    go_enter Tryz.func46, Tryz.ntmps46
    go_wp2_with (go_at_call 75; refine (r10_Check_any m ⟨.slice qb ts.length cb, .slice qc m.cash.length cc, .slice qo xs.length co, .slice qr m.refunds.length cr, .slice qp m.pleas.length cp⟩ ts xs _ (HGD.out.mono exq)).mono ?_; rintro e w' ⟨rfl, X1, rfl⟩; rw [HK.out])
    go_ret
    exact ⟨rfl, exq⟩

/-- A refund, or the error. -/
def refundErr (m : Kr.Books) (i days : Int) : Int := if askB m i = 0 then (if inb 0 400 days then 0 else 2) else askB m i
def refundVal (m : Kr.Books) (i days : Int) : Int := if refundErr m i days = 0 then refundOf m.refunds (m.outings.getD i.toNat default).price days else 0
theorem askB_zero {m : Kr.Books} {i : Int} (h : askB m i = 0) : checkB m = 0 ∧ 0 ≤ i ∧ i < (m.outings.length : Int) := by
  unfold askB at h
  split at h
  · rename_i h1
    split at h
    · rename_i h2
      have := inb_iff.1 h2
      exact ⟨h1, by omega, by omega⟩
    · omega
  · contradiction
end Go.Proofs.YtihkmkocgmkcjaaGreatDoor

/-
  Walks of the reference of guests: Owed.
-/
namespace Go.Proofs.YtihkmkocgmkcjaaGreatDoor
open Go.RowKit Kr
set_option linter.unusedSimpArgs false
set_option linter.unusedVariables false

def owedErr (m : Kr.Books) (who : Int) : Int := if checkB m = 0 then (if inb 2 ((m.cash.length : Int) - 1) who then 0 else 2) else checkB m
def owedVal (m : Kr.Books) (who : Int) : Int := if owedErr m who = 0 then owedBy m.outings m.fee m.pleas who else 0
theorem owedR_bd {m : Kr.Books} (hf : BookFacts m) (os : List Kr.Outing) (ps : List Int) (ho : ∀ o ∈ os, o ∈ m.outings) (h1 : os.length ≤ 4) (h2 : ps.length ≤ 4) (i : Int) : 0 ≤ owedR os m.fee ps i ∧ owedR os m.fee ps i ≤ 4000000 := by
  rw [owedR_eq i fun o h => (hf.out o (ho o h)).alone i]
  have h3 := owedBy_bd (os := os) (fee := m.fee) (pleas := ps) (fun o h => by
    have h13 := hf.out o (ho o h)
    have h14 := h13.seats
    have h15 := h13.few
    exact ⟨h13.price, by omega⟩) hf.fee i
  omega
end Go.Proofs.YtihkmkocgmkcjaaGreatDoor

/-
  The walk of the reference's Owed.
-/
namespace Go.Proofs.YtihkmkocgmkcjaaGreatDoor
open Go.RowKit Kr
set_option linter.unusedSimpArgs false
set_option linter.unusedVariables false

end Go.Proofs.YtihkmkocgmkcjaaGreatDoor

/-
  The walk of the reference's Owed.
-/
namespace Go.Proofs.YtihkmkocgmkcjaaGreatDoor
open Go.RowKit Kr
set_option linter.unusedSimpArgs false
set_option linter.unusedVariables false

end Go.Proofs.YtihkmkocgmkcjaaGreatDoor

/-
  The walk of the reference's Owed.
-/
namespace Go.Proofs.YtihkmkocgmkcjaaGreatDoor
open Go.RowKit Kr
set_option linter.unusedSimpArgs false
set_option linter.unusedVariables false

end Go.Proofs.YtihkmkocgmkcjaaGreatDoor
