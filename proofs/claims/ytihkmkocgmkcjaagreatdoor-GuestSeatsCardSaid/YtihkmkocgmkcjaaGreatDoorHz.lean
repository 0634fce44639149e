/-
  Several texts in one: see the heads of its parts.
-/
import Derived.Test.YtihkmkocgmkcjaaGreatDoorGOq
import Derived.Test.YtihkmkocgmkcjaaGreatDoorGzq
import Derived.Test.YtihkmkocgmkcjaaGreatDoorJdk
import Derived.Test.YtihkmkocgmkcjaaGreatDoorRowG
import Derived.Test.YtihkmkocgmkcjaaGreatDoorJb
import Derived.Test.YtihkmkocgmkcjaaGreatDoorRows
import Derived.ProofKit
import Derived.LaidMore
import Derived.Stop.Joined

/-
  Walks of the reference of guests: Free.
-/
namespace Go.Proofs.YtihkmkocgmkcjaaGreatDoor
open Go.RowKit Kr
set_option linter.unusedSimpArgs false
set_option linter.unusedVariables false

/-- How many seats are free. -/
def freeVal (m : Kr.Books) (i : Int) : Int := if askB m i = 0 then (if (m.outings.getD i.toNat default).state = 0 then (m.outings.getD i.toNat default).seats - ((m.outings.getD i.toNat default).guests.length : Int) else 0) else 0
set_option maxHeartbeats 2000000 in
theorem r10_Free_any (m : Kr.Books) (v : BookV) (ts : List (Kr.Scale × Value)) (xs : List OutV) (i : Int) (w : World) (hgd : BooksGood w m v ts xs) :
    Calls Tryz.prog 22 #[.agg #[v.bay, v.cash, v.outs, v.rfds, .int .i64 m.fee, v.pleas], .int .i64 i] w fun e w' => e = .returned (.tuple #[.int .i64 (freeVal m i), .int .i64 (askB m i)]) ∧ w.Exts w' := by
  have h := hgd.at_
  have hxl := hgd.xl
  obtain ⟨vb, vc, vo, vr, vp⟩ := v
  obtain ⟨qb, cb, hqb⟩ := h.bay.row.len
  obtain ⟨qc, cc, hqc⟩ := h.cash.len
  obtain ⟨qo, co, hqo⟩ := h.outs.len
  obtain ⟨qr, cr, hqr⟩ := h.rfds.len
  obtain ⟨qp, cp, hqp⟩ := h.pleas.len
  dsimp only at hqb hqc hqr hqp hqo
  subst hqb hqc hqr hqp hqo
  obtain ⟨_, bo, oo, _, eo, hmo, hqo, hco⟩ := h.outs.ex
  cases eo
  have hos := h.ose
  have hout := h.out
  clear h
  obtain ⟨cv, hcv⟩ : ∃ z, askB m i = z := ⟨_, rfl⟩
  unfold freeVal
  rw [hcv]
  have HGD := Lib.hid hgd
  clear hgd
  by_cases hk : cv = 0
  · subst hk
    have hz := askB_zero hcv
    have hf := Kr.book_facts (checkB_zero hz.1).2
    obtain ⟨x, hx⟩ := some_of_lt (show i.toNat < xs.length by omega)
    obtain ⟨rfl, hlay⟩ := hqo (by omega)
    have hok : m.outings[i.toNat]? = some x.o := by rw [← hos, List.getElem?_map, hx]; rfl
    have hof := hf.out x.o (List.mem_of_getElem? hok)
    have hse := hof.seats
    have hfew := hof.few
    have hcs := hco i.toNat x hx
    obtain ⟨qg, cg, e4⟩ := (hout x (List.mem_of_getElem? hx)).gs.len
    have c2 := hcs 2 _ rfl
    have c12 := hcs 12 _ rfl
    have c22 := hcs 22 _ rfl
    rw [e4] at c12
    rw [getD_of hok, if_pos rfl]
    have w1 : 0 ≤ i := hz.2.1
    have w2 : i < (xs.length : Int) := by omega
    have HK := Lib.hid hcv
    clear hcv
    clear hcs hok hx hof hf hz hxl hos hout e4 hqo hco
    by_cases hst : x.o.state = 0
    · rw [if_pos hst]
      have s2 : decide (x.o.state = 0) = true := by simpa using hst
      have s1 : (x.o.state == 0) = true := by simpa using hst
      rw [hst] at c22
      clear hst
      go_enter Tryz.func22, Tryz.ntmps22
      go_wp2_with (go_at_call 46; refine (r10_asked_any m ⟨.slice qb ts.length cb, .slice qc m.cash.length cc, .slice (some ⟨bo, oo, none⟩) xs.length co, .slice qr m.refunds.length cr, .slice qp m.pleas.length cp⟩ ts xs i _ (HGD.out.mono exq)).mono ?_; rintro e w' ⟨rfl, X1, rfl⟩; rw [HK.out])
      refine wp_region_ext (by kernel_rfl) (by kernel_rfl) ?_
      repeat (go_big_quiet_step (fail))
      refine wpQuiet_nil ?_
      rintro _ ⟨X, rfl⟩
      go_wp2_with fail
      go_ret2
      exact ⟨rfl, exq⟩
    · rw [if_neg hst]
      have s2 : decide (x.o.state = 0) = false := by simpa using hst
      have s1 : (x.o.state == 0) = false := by simpa using hst
      have s3 : (x.o.state != 0) = true := by simp [bne, s1]
      clear hst
      go_enter Tryz.func22, Tryz.ntmps22
      go_wp2_with (go_at_call 46; refine (r10_asked_any m ⟨.slice qb ts.length cb, .slice qc m.cash.length cc, .slice (some ⟨bo, oo, none⟩) xs.length co, .slice qr m.refunds.length cr, .slice qp m.pleas.length cp⟩ ts xs i _ (HGD.out.mono exq)).mono ?_; rintro e w' ⟨rfl, X1, rfl⟩; rw [HK.out])
      go_ret2
      exact ⟨rfl, exq⟩
  · rw [if_neg hk]
    have HK := Lib.hid hcv
    clear hcv
    clear hxl
    go_enter Tryz.func22, Tryz.ntmps22
    go_wp2_with (go_at_call 46; refine (r10_asked_any m ⟨.slice qb ts.length cb, .slice qc m.cash.length cc, .slice qo xs.length co, .slice qr m.refunds.length cr, .slice qp m.pleas.length cp⟩ ts xs i _ (HGD.out.mono exq)).mono ?_; rintro e w' ⟨rfl, X1, rfl⟩; rw [HK.out])
    go_ret2
    exact ⟨rfl, exq⟩
end Go.Proofs.YtihkmkocgmkcjaaGreatDoor

/-
  Walks of package guest: Free.
-/
namespace Go.Proofs.YtihkmkocgmkcjaaGreatDoor
open Go.RowKit Kr
set_option linter.unusedSimpArgs false
set_option linter.unusedVariables false

set_option maxRecDepth 4000 in
set_option maxHeartbeats 2000000 in
theorem guest_Free_any (m : Kr.Books) (v : BookV) (ts : List (Kr.Scale × Value)) (xs : List OutV) (i : Int) (w : World) (hgd : BooksGood w m v ts xs) (hmo : ∀ x ∈ xs, 0 ≤ x.o.state ∧ x.o.gear.loads.length ≤ 1000) (hcd : CondsAt w) :
    Calls Tryz.prog 21 #[.agg #[v.bay, v.cash, v.outs, v.rfds, .int .i64 m.fee, v.pleas], .int .i64 i] w fun e w' => e = .returned (.tuple #[.int .i64 (freeVal m i), .int .i64 (askB m i)]) ∧ w.Exts w' := by
  have h := hgd.at_
  have hxl := hgd.xl
  obtain ⟨cv, hcv⟩ : ∃ z, askB m i = z := ⟨_, rfl⟩
  have hask := fun (W : World) (hE : w.Exts W) => guest_asked_any m v ts xs i W (hgd.mono hE) hmo (hcd.mono hE)
  obtain ⟨vb, vc, vo, vr, vp⟩ := v
  obtain ⟨qb, cb, hqb⟩ := h.bay.row.len
  obtain ⟨qc, cc, hqc⟩ := h.cash.len
  obtain ⟨qo, co, hqo⟩ := h.outs.len
  obtain ⟨qr, cr, hqr⟩ := h.rfds.len
  obtain ⟨qp, cp, hqp⟩ := h.pleas.len
  dsimp only at hqb hqc hqr hqp hqo
  subst hqb hqc hqr hqp hqo
  obtain ⟨_, bo, oo, _, eo, hmo2, hqo, hco⟩ := h.outs.ex
  cases eo
  have hos := h.ose
  have hout := h.out
  clear h hgd hmo hcd
  unfold freeVal
  rw [hcv] at hask ⊢
  dsimp only at hask
  by_cases hk : cv = 0
  · subst hk
    have hz := askB_zero hcv
    have hf := Kr.book_facts (checkB_zero hz.1).2
    obtain ⟨⟨o, gs, lv, rv, sv⟩, hx⟩ := some_of_lt (show i.toNat < xs.length by omega)
    obtain ⟨rfl, hlay⟩ := hqo (by omega)
    have hok : m.outings[i.toNat]? = some o := by rw [← hos, List.getElem?_map, hx]; rfl
    have hof := hf.out o (List.mem_of_getElem? hok)
    have hse := hof.seats
    have hfew := hof.few
    have hcs := hco i.toNat _ hx
    have hxa := hout _ (List.mem_of_getElem? hx)
    have hga := hxa.gs
    have hl1 := hxa.l
    have hl2 := hxa.r
    have hl3 := hxa.s
    dsimp only at hga hl1 hl2 hl3 hcs
    obtain ⟨q1, p1, e1⟩ := hl1.len
    obtain ⟨q2, p2, e2⟩ := hl2.len
    obtain ⟨q3, p3, e3⟩ := hl3.len
    obtain ⟨qg, cg, e4⟩ := hga.len
    subst e1 e2 e3 e4
    rw [getD_of hok, if_pos rfl]
    have w1 : 0 ≤ i := hz.2.1
    have w2 : i < (xs.length : Int) := by omega
    have HASK := Lib.hid hask
    clear hask
    have HCS := Lib.hid hcs
    clear hcs
    clear hok hx hof hf hz hxl hos hout hqo hco hcv hxa hga hl1 hl2 hl3
    by_cases hst : o.state = 0
    · rw [if_pos hst]
      have s2 : decide (o.state = 0) = true := by simpa using hst
      have s1 : (o.state == 0) = true := by simpa using hst
      have s3 : (o.state != 0) = false := by simp [bne, s1]
      clear hst
      go_enter Tryz.func21, Tryz.ntmps21
      go_wp2_with (first
        | (go_at_call 45; refine (HASK.out _ exq).mono ?_; rintro e w' ⟨p, rfl, -, X1, rfl⟩)
        | (refine wpList_load_mid rfl 112 _ rfl bo (oo + i.toNat * 23) rfl [.int .i64 o.id, .int .i64 o.pilot, .int .i64 o.seats, .int .i64 o.price, .int .i64 o.part, .int .i64 o.norm.total.lo, .int .i64 o.norm.total.hi, .int .i64 o.norm.added, .int .i64 o.norm.warm, .int .i64 o.norm.hard.lo, .int .i64 o.norm.hard.hi, .bool o.norm.stamp, (.slice qg o.guests.length cg), .bool o.weighed, (.slice q1 o.gear.loads.length p1), .int .i64 o.gear.added, .int .i64 o.gear.base, .int .i64 o.gear.jitter, (.slice q2 o.gear.runners.length p2), (.slice q3 o.gear.strokes.length p3), .int .i64 o.gear.spread, .bool o.gear.stamp, .int .u8 o.state] _ (fun j u hju => World.Exts.cell (a := w) exq (HCS.out j u hju)) Tryz.underlying112 rfl (by kernel_rfl) ?_)
        | (refine wpList_store_new (t := 112) (cells := #[.int .i64 o.id, .int .i64 o.pilot, .int .i64 o.seats, .int .i64 o.price, .int .i64 o.part, .int .i64 o.norm.total.lo, .int .i64 o.norm.total.hi, .int .i64 o.norm.added, .int .i64 o.norm.warm, .int .i64 o.norm.hard.lo, .int .i64 o.norm.hard.hi, .bool o.norm.stamp, (.slice qg o.guests.length cg), .bool o.weighed, (.slice q1 o.gear.loads.length p1), .int .i64 o.gear.added, .int .i64 o.gear.base, .int .i64 o.gear.jitter, (.slice q2 o.gear.runners.length p2), (.slice q3 o.gear.strokes.length p3), .int .i64 o.gear.spread, .bool o.gear.stamp, .int .u8 o.state]) (by rfl) (by rfl) (by kernel_rfl) (by rfl) (by simp [Value.oneCell']) ?_))
      go_ret2
      exact ⟨rfl, exq⟩
    · rw [if_neg hst]
      have s2 : decide (o.state = 0) = false := by simpa using hst
      have s1 : (o.state == 0) = false := by simpa using hst
      have s3 : (o.state != 0) = true := by simp [bne, s1]
      clear hst
      go_enter Tryz.func21, Tryz.ntmps21
      go_wp2_with (first
        | (go_at_call 45; refine (HASK.out _ exq).mono ?_; rintro e w' ⟨p, rfl, -, X1, rfl⟩)
        | (refine wpList_load_mid rfl 112 _ rfl bo (oo + i.toNat * 23) rfl [.int .i64 o.id, .int .i64 o.pilot, .int .i64 o.seats, .int .i64 o.price, .int .i64 o.part, .int .i64 o.norm.total.lo, .int .i64 o.norm.total.hi, .int .i64 o.norm.added, .int .i64 o.norm.warm, .int .i64 o.norm.hard.lo, .int .i64 o.norm.hard.hi, .bool o.norm.stamp, (.slice qg o.guests.length cg), .bool o.weighed, (.slice q1 o.gear.loads.length p1), .int .i64 o.gear.added, .int .i64 o.gear.base, .int .i64 o.gear.jitter, (.slice q2 o.gear.runners.length p2), (.slice q3 o.gear.strokes.length p3), .int .i64 o.gear.spread, .bool o.gear.stamp, .int .u8 o.state] _ (fun j u hju => World.Exts.cell (a := w) exq (HCS.out j u hju)) Tryz.underlying112 rfl (by kernel_rfl) ?_)
        | (refine wpList_store_new (t := 112) (cells := #[.int .i64 o.id, .int .i64 o.pilot, .int .i64 o.seats, .int .i64 o.price, .int .i64 o.part, .int .i64 o.norm.total.lo, .int .i64 o.norm.total.hi, .int .i64 o.norm.added, .int .i64 o.norm.warm, .int .i64 o.norm.hard.lo, .int .i64 o.norm.hard.hi, .bool o.norm.stamp, (.slice qg o.guests.length cg), .bool o.weighed, (.slice q1 o.gear.loads.length p1), .int .i64 o.gear.added, .int .i64 o.gear.base, .int .i64 o.gear.jitter, (.slice q2 o.gear.runners.length p2), (.slice q3 o.gear.strokes.length p3), .int .i64 o.gear.spread, .bool o.gear.stamp, .int .u8 o.state]) (by rfl) (by rfl) (by kernel_rfl) (by rfl) (by simp [Value.oneCell']) ?_))
      go_ret2
      exact ⟨rfl, exq⟩
  · rw [if_neg hk]
    have HASK := Lib.hid hask
    clear hask
    clear hxl hcv
    go_enter Tryz.func21, Tryz.ntmps21
    go_wp2_with (go_at_call 45; refine (HASK.out _ exq).mono ?_; rintro e w' ⟨p, rfl, -, X1, rfl⟩)
    go_ret2
    exact ⟨rfl, exq⟩
end Go.Proofs.YtihkmkocgmkcjaaGreatDoor

/-
  An outing of books as it lies; walks of the reference of guests: fits.
-/
namespace Go.Proofs.YtihkmkocgmkcjaaGreatDoor
open Go.RowKit Kr
set_option linter.unusedSimpArgs false
set_option linter.unusedVariables false

theorem out_open {w : World} {m : Kr.Books} {v : BookV} {ts : List (Kr.Scale × Value)} {xs : List OutV} (h : BooksGood w m v ts xs) {i : Nat} {o : Kr.Outing} (ho : m.outings[i]? = some o) :
    ∃ bo oo co q1 p1 q2 p2 q3 p3 qg cg, v.outs = .slice (some ⟨bo, oo, none⟩) xs.length co ∧ Lays w bo ∧ (∀ (j : Nat) (u : Value), [.int .i64 o.id, .int .i64 o.pilot, .int .i64 o.seats, .int .i64 o.price, .int .i64 o.part, .int .i64 o.norm.total.lo, .int .i64 o.norm.total.hi, .int .i64 o.norm.added, .int .i64 o.norm.warm, .int .i64 o.norm.hard.lo, .int .i64 o.norm.hard.hi, .bool o.norm.stamp, .slice qg o.guests.length cg, .bool o.weighed, .slice q1 o.gear.loads.length p1, .int .i64 o.gear.added, .int .i64 o.gear.base, .int .i64 o.gear.jitter, .slice q2 o.gear.runners.length p2, .slice q3 o.gear.strokes.length p3, .int .i64 o.gear.spread, .bool o.gear.stamp, .int .u8 o.state][j]? = some u → w.cell? ⟨bo, oo + i * 23 + j, none⟩ = some u) ∧
      GearAt w (o.gear, .slice q1 o.gear.loads.length p1, .slice q2 o.gear.runners.length p2, .slice q3 o.gear.strokes.length p3) ∧ IsRow (fun x : Int => [.int .i64 x]) 1 w (.slice qg o.guests.length cg) o.guests ∧ i < xs.length := by
  obtain ⟨x, hx⟩ : ∃ x, xs[i]? = some x := by
    have h1 := ho
    rw [← h.at_.ose, List.getElem?_map] at h1
    cases hxi : xs[i]? with
    | none => rw [hxi] at h1; cases h1
    | some x => exact ⟨x, rfl⟩
  have hxo : x.o = o := by
    have h1 := ho
    rw [← h.at_.ose, List.getElem?_map, hx] at h1
    exact Option.some.inj h1
  have hil := (List.getElem?_eq_some_iff.1 hx).1
  have hxm := h.out x (List.mem_of_getElem? hx)
  obtain ⟨qo, bo, oo, co, eo, hmo, hqo, hco⟩ := h.at_.outs.ex
  obtain ⟨rfl, hlay⟩ := hqo (by omega)
  have hcs := hco i x hx
  obtain ⟨o', gs, lv, rv, sv⟩ := x
  dsimp only at hxo
  subst hxo
  have hga := hxm.at_.gs
  have hge := hxm.gear
  dsimp only at hga hge hcs
  obtain ⟨q1, p1, e1⟩ := hge.l.len
  obtain ⟨q2, p2, e2⟩ := hge.r.len
  obtain ⟨q3, p3, e3⟩ := hge.s.len
  obtain ⟨qg, cg, e4⟩ := hga.len
  dsimp only at e1 e2 e3
  subst e1 e2 e3 e4
  exact ⟨bo, oo, co, q1, p1, q2, p2, q3, p3, qg, cg, eo, hlay, hcs, hge, hga, hil⟩

/-- Whether an outing fits. -/
def fitsOf (b : List Kr.Scale) (o : Kr.Outing) : Int := bif o.weighed then (judgeR b o.gear o.norm).1.2 else 0
set_option maxRecDepth 4000 in
set_option maxHeartbeats 2000000 in
theorem r10_fits_any (m : Kr.Books) (v : BookV) (ts : List (Kr.Scale × Value)) (xs : List OutV) (i : Nat) (w : World) (hgd : BooksGood w m v ts xs) (o : Kr.Outing) (hok : m.outings[i]? = some o) :
    Calls Tryz.prog 48 #[.agg #[v.bay, v.cash, v.outs, v.rfds, .int .i64 m.fee, v.pleas], .int .i64 i] w fun e w' => e = .returned (.int .u8 (fitsOf m.bay o)) ∧ w.Exts w' := by
  have h := hgd.at_
  obtain ⟨bo, oo, c0, q1, p1, q2, p2, q3, p3, qg, cg, ev, hlay, hcs, hge, hga, hil⟩ := out_open hgd hok
  obtain ⟨vb, vc, vo, vr, vp⟩ := v
  obtain ⟨qb, cb, hqb⟩ := h.bay.row.len
  obtain ⟨qc, cc, hqc⟩ := h.cash.len
  obtain ⟨qo, co, hqo⟩ := h.outs.len
  obtain ⟨qr, cr, hqr⟩ := h.rfds.len
  obtain ⟨qp, cp, hqp⟩ := h.pleas.len
  dsimp only at hqb hqc hqr hqp hqo
  subst hqb hqc hqr hqp hqo
  cases ev
  have htse := h.tse
  have hbay := h.bay
  dsimp only at hbay
  have hj := fun (W : World) (hE : w.Exts W) => r04_Judge_any ts _ o.gear _ _ _ o.norm W (hbay.mono hE) (hge.mono hE)
  rw [htse] at hj
  clear h hgd hok htse hbay hge hga
  unfold fitsOf
  generalize judgeR m.bay o.gear o.norm = J at hj ⊢
  have w1 : (0 : Int) ≤ (i : Int) := by omega
  have w2 : (i : Int) < (xs.length : Int) := by omega
  generalize o.weighed = wg at hcs ⊢
  have HJ := Lib.hid hj
  clear hj
  have HCS := Lib.hid hcs
  clear hcs
  cases wg
  ·
    go_enter Tryz.func48, Tryz.ntmps48
    go_wp2_with (first
      | (refine wpList_load_mid rfl 112 _ rfl bo (oo + i * 23) rfl [.int .i64 o.id, .int .i64 o.pilot, .int .i64 o.seats, .int .i64 o.price, .int .i64 o.part, .int .i64 o.norm.total.lo, .int .i64 o.norm.total.hi, .int .i64 o.norm.added, .int .i64 o.norm.warm, .int .i64 o.norm.hard.lo, .int .i64 o.norm.hard.hi, .bool o.norm.stamp, .slice qg o.guests.length cg, .bool false, .slice q1 o.gear.loads.length p1, .int .i64 o.gear.added, .int .i64 o.gear.base, .int .i64 o.gear.jitter, .slice q2 o.gear.runners.length p2, .slice q3 o.gear.strokes.length p3, .int .i64 o.gear.spread, .bool o.gear.stamp, .int .u8 o.state] _ (fun j u hju => World.Exts.cell (a := w) exq (HCS.out j u hju)) Tryz.underlying112 rfl (by kernel_rfl) ?_)
      | (refine wpList_store_new (t := 112) (cells := #[.int .i64 o.id, .int .i64 o.pilot, .int .i64 o.seats, .int .i64 o.price, .int .i64 o.part, .int .i64 o.norm.total.lo, .int .i64 o.norm.total.hi, .int .i64 o.norm.added, .int .i64 o.norm.warm, .int .i64 o.norm.hard.lo, .int .i64 o.norm.hard.hi, .bool o.norm.stamp, .slice qg o.guests.length cg, .bool false, .slice q1 o.gear.loads.length p1, .int .i64 o.gear.added, .int .i64 o.gear.base, .int .i64 o.gear.jitter, .slice q2 o.gear.runners.length p2, .slice q3 o.gear.strokes.length p3, .int .i64 o.gear.spread, .bool o.gear.stamp, .int .u8 o.state]) (by first | rfl | (simp [go_sem]; done)) (by rfl) (by kernel_rfl) (by rfl) (by simp [Value.oneCell']) ?_))
    go_ret
    exact ⟨rfl, exq⟩
  ·
    go_enter Tryz.func48, Tryz.ntmps48
    go_wp2_with (first
      | (refine wpList_load_mid rfl 112 _ rfl bo (oo + i * 23) rfl [.int .i64 o.id, .int .i64 o.pilot, .int .i64 o.seats, .int .i64 o.price, .int .i64 o.part, .int .i64 o.norm.total.lo, .int .i64 o.norm.total.hi, .int .i64 o.norm.added, .int .i64 o.norm.warm, .int .i64 o.norm.hard.lo, .int .i64 o.norm.hard.hi, .bool o.norm.stamp, .slice qg o.guests.length cg, .bool true, .slice q1 o.gear.loads.length p1, .int .i64 o.gear.added, .int .i64 o.gear.base, .int .i64 o.gear.jitter, .slice q2 o.gear.runners.length p2, .slice q3 o.gear.strokes.length p3, .int .i64 o.gear.spread, .bool o.gear.stamp, .int .u8 o.state] _ (fun j u hju => World.Exts.cell (a := w) exq (HCS.out j u hju)) Tryz.underlying112 rfl (by kernel_rfl) ?_)
      | (refine wpList_store_new (t := 112) (cells := #[.int .i64 o.id, .int .i64 o.pilot, .int .i64 o.seats, .int .i64 o.price, .int .i64 o.part, .int .i64 o.norm.total.lo, .int .i64 o.norm.total.hi, .int .i64 o.norm.added, .int .i64 o.norm.warm, .int .i64 o.norm.hard.lo, .int .i64 o.norm.hard.hi, .bool o.norm.stamp, .slice qg o.guests.length cg, .bool true, .slice q1 o.gear.loads.length p1, .int .i64 o.gear.added, .int .i64 o.gear.base, .int .i64 o.gear.jitter, .slice q2 o.gear.runners.length p2, .slice q3 o.gear.strokes.length p3, .int .i64 o.gear.spread, .bool o.gear.stamp, .int .u8 o.state]) (by first | rfl | (simp [go_sem]; done)) (by rfl) (by kernel_rfl) (by rfl) (by simp [Value.oneCell']) ?_)
      | (go_at_call 40; refine (HJ.out _ exq).mono ?_; rintro e w' ⟨vp, rfl, hvp, X1, rfl⟩; obtain ⟨qj, cj, rfl⟩ := hvp.len; clear hvp))
    go_ret
    exact ⟨rfl, exq⟩
end Go.Proofs.YtihkmkocgmkcjaaGreatDoor

/-
  Walks of the reference of guests: Fits, SameInts, Pieces.
-/
namespace Go.Proofs.YtihkmkocgmkcjaaGreatDoor
open Go.RowKit Kr
set_option linter.unusedSimpArgs false
set_option linter.unusedVariables false

theorem r10_SameInts_any (l : List Int) (v v' : Value) (w : World) (h : IsRow (fun x : Int => [.int .i64 x]) 1 w v l) (h' : IsRow (fun x : Int => [.int .i64 x]) 1 w v' l) :
    Calls Tryz.prog 27 #[v, v'] w fun e w' => e = .returned (.bool true) ∧ w.Exts w' := by
  have hs := fun (W : World) (hE : w.Exts W) => r04_SameInts_any l v v' W (h.mono hE) (h'.mono hE)
  obtain ⟨p, c, rfl⟩ := h.len
  obtain ⟨p', c', rfl⟩ := h'.len
  clear h h'
  have HS := Lib.hid hs
  clear hs
  go_enter Tryz.func27, Tryz.ntmps27
  go_wp2_with (go_at_call 44; refine (HS.out _ exq).mono ?_; rintro e w' ⟨rfl, X1, rfl⟩)
  go_ret
  exact ⟨rfl, exq⟩

/-- Whether an outing of books fits. -/
def fitsVal (m : Kr.Books) (i : Int) : Int := if askB m i = 0 then fitsOf m.bay (m.outings.getD i.toNat default) else 0
theorem ask_out {m : Kr.Books} {i : Int} (h : askB m i = 0) : ∃ o, m.outings[i.toNat]? = some o ∧ m.outings.getD i.toNat default = o ∧ ((i.toNat : Nat) : Int) = i := by
  have hz := askB_zero h
  obtain ⟨o, ho⟩ := some_of_lt (show i.toNat < m.outings.length by omega)
  exact ⟨o, ho, getD_of ho, by omega⟩
set_option maxHeartbeats 2000000 in
theorem r10_Fits_any (m : Kr.Books) (v : BookV) (ts : List (Kr.Scale × Value)) (xs : List OutV) (i : Int) (w : World) (hgd : BooksGood w m v ts xs) :
    Calls Tryz.prog 24 #[.agg #[v.bay, v.cash, v.outs, v.rfds, .int .i64 m.fee, v.pleas], .int .i64 i] w fun e w' => e = .returned (.tuple #[.int .u8 (fitsVal m i), .int .i64 (askB m i)]) ∧ w.Exts w' := by
  have h := hgd.at_
  obtain ⟨vb, vc, vo, vr, vp⟩ := v
  obtain ⟨qb, cb, hqb⟩ := h.bay.row.len
  obtain ⟨qc, cc, hqc⟩ := h.cash.len
  obtain ⟨qo, co, hqo⟩ := h.outs.len
  obtain ⟨qr, cr, hqr⟩ := h.rfds.len
  obtain ⟨qp, cp, hqp⟩ := h.pleas.len
  dsimp only at hqb hqc hqr hqp hqo
  subst hqb hqc hqr hqp hqo
  have hask := fun (W : World) (hE : w.Exts W) => r10_asked_any m _ ts xs i W (hgd.mono hE)
  dsimp only at hask
  clear h
  obtain ⟨cv, hcv⟩ : ∃ z, askB m i = z := ⟨_, rfl⟩
  unfold fitsVal
  rw [hcv] at hask ⊢
  have HASK := Lib.hid hask
  clear hask
  by_cases hk : cv = 0
  · subst hk
    obtain ⟨o, ho, hd, hin⟩ := ask_out hcv
    rw [hd, if_pos rfl]
    have hfit := fun (W : World) (hE : w.Exts W) => r10_fits_any m _ ts xs i.toNat W (hgd.mono hE) o ho
    rw [hin] at hfit
    dsimp only at hfit
    generalize fitsOf m.bay o = F at hfit ⊢
    have HF := Lib.hid hfit
    clear hfit
    clear hcv hgd ho hd hin
    go_enter Tryz.func24, Tryz.ntmps24
    go_wp2_with (first
      | (go_at_call 46; refine (HASK.out _ exq).mono ?_; rintro e w' ⟨rfl, X1, rfl⟩)
      | (go_at_call 48; refine (HF.out _ exq).mono ?_; rintro e w' ⟨rfl, X2, rfl⟩))
    go_ret2
    exact ⟨rfl, exq⟩
  · rw [if_neg hk]
    clear hcv hgd
    go_enter Tryz.func24, Tryz.ntmps24
    go_wp2_with (go_at_call 46; refine (HASK.out _ exq).mono ?_; rintro e w' ⟨rfl, X1, rfl⟩)
    go_ret2
    exact ⟨rfl, exq⟩
end Go.Proofs.YtihkmkocgmkcjaaGreatDoor

/-
  Walks of package guest: fits, Fits.
-/
namespace Go.Proofs.YtihkmkocgmkcjaaGreatDoor
open Go.RowKit Kr
set_option linter.unusedSimpArgs false
set_option linter.unusedVariables false

/-- What is known of the operations of the region that asks 'Judge'. -/
def FitsPh (ob : Nat) (u err : Int) (c : Nat) (v : Value) : Prop :=
  (c = 1 → v = .pointer (some ⟨ob, 0, none⟩)) ∧ ((c = 9 ∨ c = 10) → ∃ vp, v = .tuple #[vp, .int .u8 u, .int .i64 err]) ∧ (c = 12 → v = .int .u8 u) ∧ (c = 13 → v = .int .i64 err)
theorem judge_err0 {b : List Kr.Scale} {g : Gear} {n : Norm} (h : (judgeR b g n).2 ≠ 0) : (judgeR b g n).1.2 = 0 := by
  revert h
  unfold judgeR
  split
  · exact fun _ => rfl
  split
  · exact fun _ => rfl
  split
  · exact fun _ => rfl
  split
  · exact fun _ => rfl
  · exact fun h => absurd rfl h

set_option maxRecDepth 4000 in
set_option maxHeartbeats 8000000 in
theorem office_fits_any (ob : Nat) (m : Kr.Books) (v : BookV) (ts : List (Kr.Scale × Value)) (xs : List OutV) (i : Nat) (w : World) (hgd : BooksGood w m v ts xs) (hcd : CondsAt w) (o : Kr.Outing) (hok : m.outings[i]? = some o)
    (h0 : w.cell? ⟨ob, 0, none⟩ = some v.bay) (h2 : w.cell? ⟨ob, 2, none⟩ = some v.outs) :
    Calls Tryz.prog 47 #[.pointer (some ⟨ob, 0, none⟩), .int .i64 i] w fun e w' => e = .returned (.int .u8 (fitsOf m.bay o)) ∧ w.Exts w' := by
  have h := hgd.at_
  obtain ⟨bo, oo, c0, q1, p1, q2, p2, q3, p3, qg, cg, ev, hlay, hcs, hge, hga, hil⟩ := out_open hgd hok
  obtain ⟨vb, vc, vo, vr, vp⟩ := v
  obtain ⟨qb, cb, hqb⟩ := h.bay.row.len
  obtain ⟨qc, cc, hqc⟩ := h.cash.len
  obtain ⟨qo, co, hqo⟩ := h.outs.len
  obtain ⟨qr, cr, hqr⟩ := h.rfds.len
  obtain ⟨qp, cp, hqp⟩ := h.pleas.len
  dsimp only at hqb hqc hqr hqp hqo
  subst hqb hqc hqr hqp hqo
  cases ev
  have htse := h.tse
  have hbay := h.bay
  dsimp only at hbay h0 h2
  have hj := fun (W : World) (hE : w.Exts W) => scale_Judge_any ts _ o.gear _ _ _ o.norm W (hbay.mono hE) (hge.mono hE) (hcd.mono hE)
  rw [htse] at hj
  have hje : (judgeR m.bay o.gear o.norm).2 ≠ 0 → (judgeR m.bay o.gear o.norm).1.2 = 0 := fun h => judge_err0 h
  have hlob := Lays.of_cell h0
  clear h hgd hok htse hbay hge hga hcd
  unfold fitsOf
  generalize judgeR m.bay o.gear o.norm = J at hj hje ⊢
  obtain ⟨⟨jl, u⟩, err⟩ := J
  dsimp only at hj hje ⊢
  have hjc : ∀ W : World, w.Exts W → Calls Tryz.prog 38 #[.agg #[.slice qb ts.length cb], .agg #[.slice q1 o.gear.loads.length p1, .int .i64 o.gear.added, .int .i64 o.gear.base, .int .i64 o.gear.jitter, .slice q2 o.gear.runners.length p2, .slice q3 o.gear.strokes.length p3, .int .i64 o.gear.spread, .bool o.gear.stamp], .agg #[.int .i64 o.norm.total.lo, .int .i64 o.norm.total.hi, .int .i64 o.norm.added, .int .i64 o.norm.warm, .int .i64 o.norm.hard.lo, .int .i64 o.norm.hard.hi, .bool o.norm.stamp]] W fun e w' => ∃ vp, e = .returned (.tuple #[vp, .int .u8 u, .int .i64 err]) ∧ W.Exts w' := fun W hE => by
    refine (hj W hE).mono ?_
    rintro e w' ⟨vp, rfl, -, hE2⟩
    exact ⟨vp, rfl, hE2⟩
  clear hj
  have w1 : (0 : Int) ≤ (i : Int) := by omega
  have w2 : (i : Int) < (xs.length : Int) := by omega
  generalize o.weighed = wg at hcs ⊢
  have HJC := Lib.hid hjc
  clear hjc
  have HJE := Lib.hid hje
  clear hje
  have HCS := Lib.hid hcs
  clear hcs
  cases wg
  · go_enter Tryz.func47, Tryz.ntmps47
    go_wp2_with (first
      | (refine wpList_load_mid rfl 112 _ rfl bo (oo + i * 23) rfl [.int .i64 o.id, .int .i64 o.pilot, .int .i64 o.seats, .int .i64 o.price, .int .i64 o.part, .int .i64 o.norm.total.lo, .int .i64 o.norm.total.hi, .int .i64 o.norm.added, .int .i64 o.norm.warm, .int .i64 o.norm.hard.lo, .int .i64 o.norm.hard.hi, .bool o.norm.stamp, .slice qg o.guests.length cg, .bool false, .slice q1 o.gear.loads.length p1, .int .i64 o.gear.added, .int .i64 o.gear.base, .int .i64 o.gear.jitter, .slice q2 o.gear.runners.length p2, .slice q3 o.gear.strokes.length p3, .int .i64 o.gear.spread, .bool o.gear.stamp, .int .u8 o.state] _ (fun j u hju => World.Exts.cell (a := w) exq (HCS.out j u hju)) Tryz.underlying112 rfl (by kernel_rfl) ?_)
      | (refine wpList_store_new (t := 112) (cells := #[.int .i64 o.id, .int .i64 o.pilot, .int .i64 o.seats, .int .i64 o.price, .int .i64 o.part, .int .i64 o.norm.total.lo, .int .i64 o.norm.total.hi, .int .i64 o.norm.added, .int .i64 o.norm.warm, .int .i64 o.norm.hard.lo, .int .i64 o.norm.hard.hi, .bool o.norm.stamp, .slice qg o.guests.length cg, .bool false, .slice q1 o.gear.loads.length p1, .int .i64 o.gear.added, .int .i64 o.gear.base, .int .i64 o.gear.jitter, .slice q2 o.gear.runners.length p2, .slice q3 o.gear.strokes.length p3, .int .i64 o.gear.spread, .bool o.gear.stamp, .int .u8 o.state]) (by first | rfl | (simp [go_sem]; done)) (by rfl) (by kernel_rfl) (by rfl) (by simp [Value.oneCell']) ?_))
    go_ret
    exact ⟨rfl, exq⟩
  · go_enter Tryz.func47, Tryz.ntmps47
    go_wp2_with (first
      | (refine wpList_load_mid rfl 112 _ rfl bo (oo + i * 23) rfl [.int .i64 o.id, .int .i64 o.pilot, .int .i64 o.seats, .int .i64 o.price, .int .i64 o.part, .int .i64 o.norm.total.lo, .int .i64 o.norm.total.hi, .int .i64 o.norm.added, .int .i64 o.norm.warm, .int .i64 o.norm.hard.lo, .int .i64 o.norm.hard.hi, .bool o.norm.stamp, .slice qg o.guests.length cg, .bool true, .slice q1 o.gear.loads.length p1, .int .i64 o.gear.added, .int .i64 o.gear.base, .int .i64 o.gear.jitter, .slice q2 o.gear.runners.length p2, .slice q3 o.gear.strokes.length p3, .int .i64 o.gear.spread, .bool o.gear.stamp, .int .u8 o.state] _ (fun j u hju => World.Exts.cell (a := w) exq (HCS.out j u hju)) Tryz.underlying112 rfl (by kernel_rfl) ?_)
      | (refine wpList_store_new (t := 112) (cells := #[.int .i64 o.id, .int .i64 o.pilot, .int .i64 o.seats, .int .i64 o.price, .int .i64 o.part, .int .i64 o.norm.total.lo, .int .i64 o.norm.total.hi, .int .i64 o.norm.added, .int .i64 o.norm.warm, .int .i64 o.norm.hard.lo, .int .i64 o.norm.hard.hi, .bool o.norm.stamp, .slice qg o.guests.length cg, .bool true, .slice q1 o.gear.loads.length p1, .int .i64 o.gear.added, .int .i64 o.gear.base, .int .i64 o.gear.jitter, .slice q2 o.gear.runners.length p2, .slice q3 o.gear.strokes.length p3, .int .i64 o.gear.spread, .bool o.gear.stamp, .int .u8 o.state]) (by first | rfl | (simp [go_sem]; done)) (by rfl) (by kernel_rfl) (by rfl) (by simp [Value.oneCell']) ?_))
    refine wp_region_callsK 16 (fun i => i == 1 || i == 9 || i == 10 || i == 11 || i == 12 || i == 13) (fun c v W => FitsPh ob u err c v) (fun c => if c = 13 then some (.int .i64 err) else if c = 12 then some (.int .u8 u) else if c = 1 then some (.pointer (some ⟨ob, 0, none⟩)) else none) (by kernel_rfl) (fun ν => by kernel_rfl) (by kernel_rfl) (by kernel_rfl) (by kernel_rfl) (by kernel_rfl) (by kernel_rfl) ?mono ?known ?_
    rotate_left 2
    apply Exists.intro
    refine ⟨fun ν hkn => ?want, fun ν hkn L hL => ?walk, fun c oc hc hU ν hkn W hE hΦ => ?calls, fun ν hkn W hE hΦ => ?lastK⟩
    case walk =>
      repeat (first
        | (refine modTo_free rfl ?_; go_big_quiet_step (fail))
        | (refine modTo_call rfl (hkn _ _ rfl) ?_; go_big_quiet_step (fail))
        | (refine modTo_call rfl rfl ?_; go_big_quiet_step (fail)))
      refine modTo_end ?_
      exact hL
    case want =>
      intro i oi hi hU
      simp at hU
      rcases hU with ((((rfl | rfl) | rfl) | rfl) | rfl) | rfl
      all_goals
        simp only [List.getElem?_cons_succ, List.getElem?_cons_zero, Option.some.injEq] at hi
        subst hi
        rfl
    case mono => exact fun c v W W' h hE => h
    case known =>
      intro c v W u' h hk
      by_cases hc : c = 13
      · subst hc
        rw [h.2.2.2 rfl]
        exact Option.some.inj hk
      · rw [if_neg hc] at hk
        by_cases hc2 : c = 12
        · subst hc2
          rw [h.2.2.1 rfl]
          exact Option.some.inj hk
        · rw [if_neg hc2] at hk
          by_cases hc1 : c = 1
          · subst hc1
            rw [h.1 rfl]
            exact Option.some.inj hk
          · rw [if_neg hc1] at hk; cases hk
    case calls =>
      have hwW : w.Exts W := World.Exts.trans exq hE
      simp at hU
      rcases hU with ((((rfl | rfl) | rfl) | rfl) | rfl) | rfl
      · simp only [List.getElem?_cons_succ, List.getElem?_cons_zero, Option.some.injEq] at hc
        subst hc
        exact .inr ⟨.pointer (some ⟨ob, 0, none⟩), W, by kernel_rfl, World.Exts.refl _, fun _ => rfl, (fun h => by rcases h with h | h <;> cases h), (fun h => by cases h), fun h => by cases h⟩
      · simp only [List.getElem?_cons_succ, List.getElem?_cons_zero, Option.some.injEq] at hc
        subst hc
        refine Oper.gives_fn rfl rfl rfl (enters_of Tryz.func38 (by kernel_rfl) rfl) ?_ rfl
        refine (HJC.out W hwW).mono ?_
        rintro e W' ⟨vp, rfl, h2⟩
        exact ⟨_, rfl, h2, (fun h => by cases h), (fun _ => ⟨vp, rfl⟩), (fun h => by cases h), fun h => by cases h⟩
      · simp only [List.getElem?_cons_succ, List.getElem?_cons_zero, Option.some.injEq] at hc
        subst hc
        have h8 := (hΦ 9 rfl ⟨⟨9, .data⟩, by simp, rfl, rfl⟩).2.1 (.inl rfl)
        exact .inr ⟨ν 9, W, by kernel_rfl, World.Exts.refl _, (fun h => by cases h), (fun _ => h8), (fun h => by cases h), fun h => by cases h⟩
      · simp only [List.getElem?_cons_succ, List.getElem?_cons_zero, Option.some.injEq] at hc
        subst hc
        obtain ⟨vp, h9⟩ := (hΦ 10 rfl ⟨⟨10, .data⟩, by simp, rfl, rfl⟩).2.1 (.inr rfl)
        refine .inr ⟨vp, W, ?run10, World.Exts.refl _, (fun h => by cases h), (fun h => by rcases h with h | h <;> cases h), (fun h => by cases h), fun h => by cases h⟩
        case run10 => exact run_extract_of rfl h9 rfl
      · simp only [List.getElem?_cons_succ, List.getElem?_cons_zero, Option.some.injEq] at hc
        subst hc
        obtain ⟨vp, h9⟩ := (hΦ 10 rfl ⟨⟨10, .data⟩, by simp, rfl, rfl⟩).2.1 (.inr rfl)
        refine .inr ⟨.int .u8 u, W, ?run11, World.Exts.refl _, (fun h => by cases h), (fun h => by rcases h with h | h <;> cases h), (fun _ => rfl), fun h => by cases h⟩
        case run11 => exact run_extract_of rfl h9 rfl
      · simp only [List.getElem?_cons_succ, List.getElem?_cons_zero, Option.some.injEq] at hc
        subst hc
        obtain ⟨vp, h9⟩ := (hΦ 10 rfl ⟨⟨10, .data⟩, by simp, rfl, rfl⟩).2.1 (.inr rfl)
        refine .inr ⟨.int .i64 err, W, ?run12, World.Exts.refl _, (fun h => by cases h), (fun h => by rcases h with h | h <;> cases h), (fun h => by cases h), fun _ => rfl⟩
        case run12 => exact run_extract_of rfl h9 rfl
    case lastK =>
      have e12 := (hΦ 12 (by decide) rfl).2.2.1 rfl
      have e13 := (hΦ 13 (by decide) rfl).2.2.2 rfl
      simp only [List.drop_succ_cons, List.drop_zero]
      clear hkn hΦ
      generalize ν 1 = n1
      generalize ν 9 = n9
      generalize ν 10 = n10
      generalize ν 11 = n11
      generalize ν 12 = n12 at e12 ⊢
      generalize ν 13 = n13 at e13 ⊢
      subst e12 e13
      obtain ⟨XJ, rfl⟩ := hE
      by_cases he : err = 0
      · subst he
        go_wp2_with fail
        go_ret
        exact ⟨rfl, exq⟩
      · have hu := HJE.out he
        have e1 : (err != 0) = true := by simpa using he
        clear he
        go_wp2_with fail
        go_ret
        exact ⟨by rw [hu]; rfl, exq⟩

set_option maxHeartbeats 2000000 in
theorem guest_Fits_any (m : Kr.Books) (v : BookV) (ts : List (Kr.Scale × Value)) (xs : List OutV) (i : Int) (w : World) (hgd : BooksGood w m v ts xs) (hmo : ∀ x ∈ xs, 0 ≤ x.o.state ∧ x.o.gear.loads.length ≤ 1000) (hcd : CondsAt w) :
    Calls Tryz.prog 23 #[.agg #[v.bay, v.cash, v.outs, v.rfds, .int .i64 m.fee, v.pleas], .int .i64 i] w fun e w' => e = .returned (.tuple #[.int .u8 (fitsVal m i), .int .i64 (askB m i)]) ∧ w.Exts w' := by
  have h := hgd.at_
  have hask := fun (W : World) (hE : w.Exts W) => guest_asked_any m v ts xs i W (hgd.mono hE) hmo (hcd.mono hE)
  obtain ⟨cv, hcv⟩ : ∃ z, askB m i = z := ⟨_, rfl⟩
  unfold fitsVal
  rw [hcv] at hask ⊢
  by_cases hk : cv = 0
  · subst hk
    obtain ⟨o, ho, hd, hin⟩ := ask_out hcv
    rw [hd, if_pos rfl]
    have hfit := fun (ob : Nat) (W : World) (hE : w.Exts W) (h0 : W.cell? ⟨ob, 0, none⟩ = some v.bay) (h2 : W.cell? ⟨ob, 2, none⟩ = some v.outs) => office_fits_any ob m v ts xs i.toNat W (hgd.mono hE) (hcd.mono hE) o ho h0 h2
    rw [hin] at hfit
    generalize fitsOf m.bay o = F at hfit ⊢
    obtain ⟨vb, vc, vo, vr, vp⟩ := v
    obtain ⟨qb, cb, hqb⟩ := h.bay.row.len
    obtain ⟨qc, cc, hqc⟩ := h.cash.len
    obtain ⟨qo, co, hqo⟩ := h.outs.len
    obtain ⟨qr, cr, hqr⟩ := h.rfds.len
    obtain ⟨qp, cp, hqp⟩ := h.pleas.len
    dsimp only at hqb hqc hqr hqp hqo
    subst hqb hqc hqr hqp hqo
    dsimp only at hask hfit ⊢
    have HASK := Lib.hid hask
    clear hask
    have HF := Lib.hid hfit
    clear hfit
    clear hcv hgd ho hd hin h hmo hcd
    go_enter Tryz.func23, Tryz.ntmps23
    go_wp2_with (first
      | (go_at_call 45; refine (HASK.out _ exq).mono ?_; rintro e w' ⟨p, rfl, hp, X1, rfl⟩; obtain ⟨ob, rfl, h2, -, h0⟩ := hp rfl; (have n1 := Lays.of_cell h2); clear hp)
      | (go_at_call 47; refine (HF.out _ _ exq (by simp [go_sem, h0]) (by simp [go_sem, h2])).mono ?_; rintro e w' ⟨rfl, X2, rfl⟩))
    go_ret2
    exact ⟨rfl, exq⟩
  · rw [if_neg hk]
    obtain ⟨vb, vc, vo, vr, vp⟩ := v
    obtain ⟨qb, cb, hqb⟩ := h.bay.row.len
    obtain ⟨qc, cc, hqc⟩ := h.cash.len
    obtain ⟨qo, co, hqo⟩ := h.outs.len
    obtain ⟨qr, cr, hqr⟩ := h.rfds.len
    obtain ⟨qp, cp, hqp⟩ := h.pleas.len
    dsimp only at hqb hqc hqr hqp hqo
    subst hqb hqc hqr hqp hqo
    dsimp only at hask ⊢
    have HASK := Lib.hid hask
    clear hask
    clear hcv hgd h hmo hcd
    go_enter Tryz.func23, Tryz.ntmps23
    go_wp2_with (go_at_call 45; refine (HASK.out _ exq).mono ?_; rintro e w' ⟨p, rfl, -, X1, rfl⟩)
    go_ret2
    exact ⟨rfl, exq⟩
end Go.Proofs.YtihkmkocgmkcjaaGreatDoor

/-
  Walks of guests and of their reference: Pieces.
-/
namespace Go.Proofs.YtihkmkocgmkcjaaGreatDoor
open Go.RowKit Kr
set_option linter.unusedSimpArgs false
set_option linter.unusedVariables false

theorem range_sub {w : World} {b off : Nat} {cs : List Value} (h : ∀ (j : Nat) (u : Value), cs[j]? = some u → w.cell? ⟨b, off + j, none⟩ = some u) (a n : Nat) : ∀ (j : Nat) (u : Value), ((cs.drop a).take n)[j]? = some u → w.cell? ⟨b, off + a + j, none⟩ = some u := by
  intro j u hj
  rw [List.getElem?_take] at hj
  split at hj
  · rw [List.getElem?_drop] at hj
    have h1 := h (a + j) u hj
    rwa [← Nat.add_assoc] at h1
  · cases hj
/-- The pieces that have to be added to an outing of books. -/
def piecesR (m : Kr.Books) (i : Int) (ps : List Int) : List Nat × Int := if askB m i = 0 then (bif (m.outings.getD i.toNat default).weighed then ballastR m.bay (m.outings.getD i.toNat default).gear (m.outings.getD i.toNat default).norm ps else ([], 8)) else ([], askB m i)
/-- What is known of the operations of the region that asks 'Ballast'. -/
def PiecesPh (l : List Nat) (err : Int) (c : Nat) (v : Value) (W : World) : Prop :=
  (c = 15 → ∃ vp, v = .tuple #[vp, .int .i64 err] ∧ IsRow (fun x : Nat => [.int .i64 (x : Int)]) 1 W vp l) ∧ (c = 16 → IsRow (fun x : Nat => [.int .i64 (x : Int)]) 1 W v l) ∧ (c = 17 → v = .int .i64 err)
theorem PiecesPh.mono {l : List Nat} {err : Int} {c : Nat} {v : Value} {W W' : World} (h : PiecesPh l err c v W) (hE : W.Exts W') : PiecesPh l err c v W' :=
  ⟨fun e => by obtain ⟨vp, h1, h2⟩ := h.1 e; exact ⟨vp, h1, h2.mono hE⟩, fun e => (h.2.1 e).mono hE, h.2.2⟩

set_option maxRecDepth 4000 in
set_option maxHeartbeats 1600000 in
theorem r10_Pieces_any (m : Kr.Books) (v : BookV) (ts : List (Kr.Scale × Value)) (xs : List OutV) (i : Int) (ps : List Int) (pv : Value) (w : World) (hgd : BooksGood w m v ts xs) (hp : IsRow (fun x : Int => [.int .i64 x]) 1 w pv ps) :
    Calls Tryz.prog 26 #[.agg #[v.bay, v.cash, v.outs, v.rfds, .int .i64 m.fee, v.pleas], .int .i64 i, pv] w fun e w' => ∃ vp, e = .returned (.tuple #[vp, .int .i64 (piecesR m i ps).2]) ∧ IsRow (fun x : Nat => [.int .i64 (x : Int)]) 1 w' vp (piecesR m i ps).1 ∧ w.Exts w' := by
  have h := hgd.at_
  have hask := fun (W : World) (hE : w.Exts W) => r10_asked_any m v ts xs i W (hgd.mono hE)
  obtain ⟨cv, hcv⟩ : ∃ z, askB m i = z := ⟨_, rfl⟩
  obtain ⟨qi, ci, rfl⟩ := hp.len
  unfold piecesR
  rw [hcv] at hask ⊢
  by_cases hk : cv = 0
  · subst hk
    obtain ⟨o, ho, hd, hin⟩ := ask_out hcv
    have hz := askB_zero hcv
    rw [hd, if_pos rfl]
    obtain ⟨bo, oo, c0, q1, p1, q2, p2, q3, p3, qg, cg, ev, hlay, hcs, hge, hga, hil⟩ := out_open hgd ho
    obtain ⟨vb, vc, vo, vr, vp⟩ := v
    obtain ⟨qb, cb, hqb⟩ := h.bay.row.len
    obtain ⟨qc, cc, hqc⟩ := h.cash.len
    obtain ⟨qo, co, hqo⟩ := h.outs.len
    obtain ⟨qr, cr, hqr⟩ := h.rfds.len
    obtain ⟨qp, cp, hqp⟩ := h.pleas.len
    dsimp only at hqb hqc hqr hqp hqo
    subst hqb hqc hqr hqp hqo
    cases ev
    have htse := h.tse
    have hbay := h.bay
    dsimp only at hbay hask ⊢
    have hj := fun (W : World) (hE : w.Exts W) => r04_Ballast_any ts _ o.gear _ _ _ o.norm ps _ W (hbay.mono hE) (hge.mono hE) (hp.mono hE)
    rw [htse] at hj
    have w1 : 0 ≤ i := hz.2.1
    have w2 : i < (xs.length : Int) := by omega
    clear hcv hgd ho hd h htse hbay hge hga hp hz
    generalize ballastR m.bay o.gear o.norm ps = B at hj ⊢
    obtain ⟨bl, err⟩ := B
    dsimp only at hj ⊢
    have hgc : ∀ (j : Nat) (u : Value), [.slice q1 o.gear.loads.length p1, .int .i64 o.gear.added, .int .i64 o.gear.base, .int .i64 o.gear.jitter, .slice q2 o.gear.runners.length p2, .slice q3 o.gear.strokes.length p3, .int .i64 o.gear.spread, .bool o.gear.stamp][j]? = some u → w.cell? ⟨bo, oo + i.toNat * 23 + 14 + j, none⟩ = some u := range_sub hcs 14 8
    have hnc : ∀ (j : Nat) (u : Value), [.int .i64 o.norm.total.lo, .int .i64 o.norm.total.hi, .int .i64 o.norm.added, .int .i64 o.norm.warm, .int .i64 o.norm.hard.lo, .int .i64 o.norm.hard.hi, .bool o.norm.stamp][j]? = some u → w.cell? ⟨bo, oo + i.toNat * 23 + 5 + j, none⟩ = some u := range_sub hcs 5 7
    have c13 := hcs 13 _ rfl
    generalize o.weighed = wg at c13 ⊢
    have HASK := Lib.hid hask
    clear hask
    have HJ := Lib.hid hj
    clear hj
    have HGC := Lib.hid hgc
    clear hgc
    have HNC := Lib.hid hnc
    clear hnc
    clear hcs
    cases wg
    · go_enter Tryz.func26, Tryz.ntmps26
      go_wp2_with (go_at_call 46; refine (HASK.out _ exq).mono ?_; rintro e w' ⟨rfl, X1, rfl⟩)
      go_ret2
      exact ⟨_, rfl, IsRow.nil _, exq⟩
    · go_enter Tryz.func26, Tryz.ntmps26
      go_wp2_with (go_at_call 46; refine (HASK.out _ exq).mono ?_; rintro e w' ⟨rfl, X1, rfl⟩)
      refine wp_region_callsK 19 (fun i => i == 15 || i == 16 || i == 17) (fun c v W => PiecesPh bl err c v W) (fun c => if c = 17 then some (.int .i64 err) else none) (by kernel_rfl) (fun ν => by kernel_rfl) (by kernel_rfl) (by kernel_rfl) (by kernel_rfl) (by kernel_rfl) (by kernel_rfl) ?mono ?known ?_
      rotate_left 2
      apply Exists.intro
      refine ⟨fun ν hkn => ?want, fun ν hkn L hL => ?walk, fun c oc hc hU ν hkn W hE hΦ => ?calls, fun ν hkn W hE hΦ => ?lastK⟩
      case walk =>
        repeat (first
          | (refine modTo_free rfl ?_; go_big_quiet_want; first | (refine quiet_load_mid 38 _ rfl bo (oo + i.toNat * 23 + 14) rfl [.slice q1 o.gear.loads.length p1, .int .i64 o.gear.added, .int .i64 o.gear.base, .int .i64 o.gear.jitter, .slice q2 o.gear.runners.length p2, .slice q3 o.gear.strokes.length p3, .int .i64 o.gear.spread, .bool o.gear.stamp] _ (fun W hW => by obtain ⟨X, rfl⟩ := hW; exact fun j u hju => World.Exts.cell (a := w) exq (HGC.out j u hju)) Tryz.underlying38 rfl (by kernel_rfl) ?_; go_frame; go_big_quiet_on) | (refine quiet_load_mid 40 _ rfl bo (oo + i.toNat * 23 + 5) rfl [.int .i64 o.norm.total.lo, .int .i64 o.norm.total.hi, .int .i64 o.norm.added, .int .i64 o.norm.warm, .int .i64 o.norm.hard.lo, .int .i64 o.norm.hard.hi, .bool o.norm.stamp] _ (fun W hW => by obtain ⟨X, rfl⟩ := hW; exact fun j u hju => World.Exts.cell (a := w) exq (HNC.out j u hju)) Tryz.underlying40 rfl (by kernel_rfl) ?_; go_frame; go_big_quiet_on))
          | (refine modTo_free rfl ?_; go_big_quiet_step (fail))
          | (refine modTo_call rfl (hkn _ _ rfl) ?_; go_big_quiet_step (fail))
          | (refine modTo_call rfl rfl ?_; go_big_quiet_step (fail)))
        refine modTo_end ?_
        exact hL
      case want =>
        intro i oi hi hU
        simp at hU
        rcases hU with (rfl | rfl) | rfl
        all_goals
          simp only [List.getElem?_cons_succ, List.getElem?_cons_zero, Option.some.injEq] at hi
          subst hi
          rfl
      case mono => exact fun c v W W' h hE => h.mono hE
      case known =>
        intro c v W u' h hk
        by_cases hc : c = 17
        · subst hc
          rw [h.2.2 rfl]
          exact Option.some.inj hk
        · rw [if_neg hc] at hk; cases hk
      case calls =>
        have hwW : w.Exts W := World.Exts.trans exq hE
        simp at hU
        rcases hU with (rfl | rfl) | rfl
        · simp only [List.getElem?_cons_succ, List.getElem?_cons_zero, Option.some.injEq] at hc
          subst hc
          refine Oper.gives_fn rfl rfl rfl (enters_of Tryz.func50 (by kernel_rfl) rfl) ?_ rfl
          refine (HJ.out W hwW).mono ?_
          rintro e W' ⟨vp, rfl, h1, h2⟩
          exact ⟨_, rfl, h2, (fun _ => ⟨vp, rfl, h1⟩), (fun h => by cases h), fun h => by cases h⟩
        · simp only [List.getElem?_cons_succ, List.getElem?_cons_zero, Option.some.injEq] at hc
          subst hc
          obtain ⟨vp, h9, hr⟩ := (hΦ 15 rfl ⟨⟨15, .data⟩, by simp, rfl, rfl⟩).1 rfl
          refine .inr ⟨vp, W, ?run10, World.Exts.refl _, (fun h => by cases h), (fun _ => hr), fun h => by cases h⟩
          case run10 => exact run_extract_of rfl h9 rfl
        · simp only [List.getElem?_cons_succ, List.getElem?_cons_zero, Option.some.injEq] at hc
          subst hc
          obtain ⟨vp, h9, hr⟩ := (hΦ 15 rfl ⟨⟨15, .data⟩, by simp, rfl, rfl⟩).1 rfl
          refine .inr ⟨.int .i64 err, W, ?run12, World.Exts.refl _, (fun h => by cases h), (fun h => by cases h), fun _ => rfl⟩
          case run12 => exact run_extract_of rfl h9 rfl
      case lastK =>
        have e16 := (hΦ 16 (by decide) rfl).2.1 rfl
        have e17 := (hΦ 17 (by decide) rfl).2.2 rfl
        simp only [List.drop_succ_cons, List.drop_zero]
        clear hkn hΦ
        generalize ν 15 = n15
        generalize ν 16 = n16 at e16 ⊢
        generalize ν 17 = n17 at e17 ⊢
        subst e17
        obtain ⟨q9, c9, rfl⟩ := e16.len
        have HE16 := Lib.hid e16
        clear e16
        obtain ⟨XJ, rfl⟩ := hE
        go_wp2_with fail
        go_ret2
        exact ⟨_, rfl, HE16.out.mono exq, exq⟩
  · rw [if_neg hk]
    obtain ⟨vb, vc, vo, vr, vp⟩ := v
    obtain ⟨qb, cb, hqb⟩ := h.bay.row.len
    obtain ⟨qc, cc, hqc⟩ := h.cash.len
    obtain ⟨qo, co, hqo⟩ := h.outs.len
    obtain ⟨qr, cr, hqr⟩ := h.rfds.len
    obtain ⟨qp, cp, hqp⟩ := h.pleas.len
    dsimp only at hqb hqc hqr hqp hqo
    subst hqb hqc hqr hqp hqo
    dsimp only at hask ⊢
    have HASK := Lib.hid hask
    clear hask
    clear hcv hgd h hp
    go_enter Tryz.func26, Tryz.ntmps26
    go_wp2_with (go_at_call 46; refine (HASK.out _ exq).mono ?_; rintro e w' ⟨rfl, X1, rfl⟩)
    go_ret2
    exact ⟨_, rfl, IsRow.nil _, exq⟩
end Go.Proofs.YtihkmkocgmkcjaaGreatDoor

/-
  Walks of package guest: Pieces.
-/
namespace Go.Proofs.YtihkmkocgmkcjaaGreatDoor
open Go.RowKit Kr
set_option linter.unusedSimpArgs false
set_option linter.unusedVariables false

set_option maxRecDepth 4000 in
set_option maxHeartbeats 8000000 in
theorem guest_Pieces_any (m : Kr.Books) (v : BookV) (ts : List (Kr.Scale × Value)) (xs : List OutV) (i : Int) (ps : List Int) (pv : Value) (w : World) (hgd : BooksGood w m v ts xs) (hmo : ∀ x ∈ xs, 0 ≤ x.o.state ∧ x.o.gear.loads.length ≤ 1000) (hcd : CondsAt w) (hp : IsRow (fun x : Int => [.int .i64 x]) 1 w pv ps) :
    Calls Tryz.prog 25 #[.agg #[v.bay, v.cash, v.outs, v.rfds, .int .i64 m.fee, v.pleas], .int .i64 i, pv] w fun e w' => ∃ vp, e = .returned (.tuple #[vp, .int .i64 (piecesR m i ps).2]) ∧ IsRow (fun x : Nat => [.int .i64 (x : Int)]) 1 w' vp (piecesR m i ps).1 ∧ w.Exts w' := by
  have h := hgd.at_
  have hask := fun (W : World) (hE : w.Exts W) => guest_asked_any m v ts xs i W (hgd.mono hE) hmo (hcd.mono hE)
  obtain ⟨cv, hcv⟩ : ∃ z, askB m i = z := ⟨_, rfl⟩
  obtain ⟨qi, ci, rfl⟩ := hp.len
  unfold piecesR
  rw [hcv] at hask ⊢
  by_cases hk : cv = 0
  · subst hk
    obtain ⟨o, ho, hd, hin⟩ := ask_out hcv
    have hz := askB_zero hcv
    rw [hd, if_pos rfl]
    obtain ⟨bo, oo, c0, q1, p1, q2, p2, q3, p3, qg, cg, ev, hlay, hcs, hge, hga, hil⟩ := out_open hgd ho
    obtain ⟨vb, vc, vo, vr, vp⟩ := v
    obtain ⟨qb, cb, hqb⟩ := h.bay.row.len
    obtain ⟨qc, cc, hqc⟩ := h.cash.len
    obtain ⟨qo, co, hqo⟩ := h.outs.len
    obtain ⟨qr, cr, hqr⟩ := h.rfds.len
    obtain ⟨qp, cp, hqp⟩ := h.pleas.len
    dsimp only at hqb hqc hqr hqp hqo
    subst hqb hqc hqr hqp hqo
    cases ev
    have htse := h.tse
    have hbay := h.bay
    dsimp only at hbay hask ⊢
    have hj := fun (W : World) (hE : w.Exts W) => scale_Ballast_any ts _ o.gear _ _ _ o.norm ps _ W (hbay.mono hE) (hge.mono hE) (hp.mono hE)
    rw [htse] at hj
    have w1 : 0 ≤ i := hz.2.1
    have w2 : i < (xs.length : Int) := by omega
    clear hcv hgd ho hd h htse hbay hge hga hp hz hmo hcd
    generalize ballastR m.bay o.gear o.norm ps = B at hj ⊢
    obtain ⟨bl, err⟩ := B
    dsimp only at hj ⊢
    generalize o.weighed = wg at hcs ⊢
    have HASK := Lib.hid hask
    clear hask
    have HJ := Lib.hid hj
    clear hj
    have HCS := Lib.hid hcs
    clear hcs
    cases wg
    · go_enter Tryz.func25, Tryz.ntmps25
      go_wp2_with (first
        | (go_at_call 45; refine (HASK.out _ exq).mono ?_; rintro e w' ⟨p, rfl, -, X1, rfl⟩)
        | (refine wpList_load_mid rfl 112 _ rfl bo (oo + i.toNat * 23) rfl [.int .i64 o.id, .int .i64 o.pilot, .int .i64 o.seats, .int .i64 o.price, .int .i64 o.part, .int .i64 o.norm.total.lo, .int .i64 o.norm.total.hi, .int .i64 o.norm.added, .int .i64 o.norm.warm, .int .i64 o.norm.hard.lo, .int .i64 o.norm.hard.hi, .bool o.norm.stamp, .slice qg o.guests.length cg, .bool false, .slice q1 o.gear.loads.length p1, .int .i64 o.gear.added, .int .i64 o.gear.base, .int .i64 o.gear.jitter, .slice q2 o.gear.runners.length p2, .slice q3 o.gear.strokes.length p3, .int .i64 o.gear.spread, .bool o.gear.stamp, .int .u8 o.state] _ (fun j u hju => World.Exts.cell (a := w) exq (HCS.out j u hju)) Tryz.underlying112 rfl (by kernel_rfl) ?_)
        | (refine wpList_store_new (t := 112) (cells := #[.int .i64 o.id, .int .i64 o.pilot, .int .i64 o.seats, .int .i64 o.price, .int .i64 o.part, .int .i64 o.norm.total.lo, .int .i64 o.norm.total.hi, .int .i64 o.norm.added, .int .i64 o.norm.warm, .int .i64 o.norm.hard.lo, .int .i64 o.norm.hard.hi, .bool o.norm.stamp, .slice qg o.guests.length cg, .bool false, .slice q1 o.gear.loads.length p1, .int .i64 o.gear.added, .int .i64 o.gear.base, .int .i64 o.gear.jitter, .slice q2 o.gear.runners.length p2, .slice q3 o.gear.strokes.length p3, .int .i64 o.gear.spread, .bool o.gear.stamp, .int .u8 o.state]) (by first | rfl | (simp [go_sem]; done)) (by rfl) (by kernel_rfl) (by rfl) (by simp [Value.oneCell']) ?_))
      go_ret2
      exact ⟨_, rfl, IsRow.nil _, exq⟩
    · go_enter Tryz.func25, Tryz.ntmps25
      go_wp2_with (first
        | (go_at_call 45; refine (HASK.out _ exq).mono ?_; rintro e w' ⟨p, rfl, -, X1, rfl⟩)
        | (refine wpList_load_mid rfl 112 _ rfl bo (oo + i.toNat * 23) rfl [.int .i64 o.id, .int .i64 o.pilot, .int .i64 o.seats, .int .i64 o.price, .int .i64 o.part, .int .i64 o.norm.total.lo, .int .i64 o.norm.total.hi, .int .i64 o.norm.added, .int .i64 o.norm.warm, .int .i64 o.norm.hard.lo, .int .i64 o.norm.hard.hi, .bool o.norm.stamp, .slice qg o.guests.length cg, .bool true, .slice q1 o.gear.loads.length p1, .int .i64 o.gear.added, .int .i64 o.gear.base, .int .i64 o.gear.jitter, .slice q2 o.gear.runners.length p2, .slice q3 o.gear.strokes.length p3, .int .i64 o.gear.spread, .bool o.gear.stamp, .int .u8 o.state] _ (fun j u hju => World.Exts.cell (a := w) exq (HCS.out j u hju)) Tryz.underlying112 rfl (by kernel_rfl) ?_)
        | (refine wpList_store_new (t := 112) (cells := #[.int .i64 o.id, .int .i64 o.pilot, .int .i64 o.seats, .int .i64 o.price, .int .i64 o.part, .int .i64 o.norm.total.lo, .int .i64 o.norm.total.hi, .int .i64 o.norm.added, .int .i64 o.norm.warm, .int .i64 o.norm.hard.lo, .int .i64 o.norm.hard.hi, .bool o.norm.stamp, .slice qg o.guests.length cg, .bool true, .slice q1 o.gear.loads.length p1, .int .i64 o.gear.added, .int .i64 o.gear.base, .int .i64 o.gear.jitter, .slice q2 o.gear.runners.length p2, .slice q3 o.gear.strokes.length p3, .int .i64 o.gear.spread, .bool o.gear.stamp, .int .u8 o.state]) (by first | rfl | (simp [go_sem]; done)) (by rfl) (by kernel_rfl) (by rfl) (by simp [Value.oneCell']) ?_)
        | (go_at_call 49; refine (HJ.out _ exq).mono ?_; rintro e w' ⟨vp, rfl, hvp, X2, rfl⟩; obtain ⟨q9, c9, rfl⟩ := hvp.len; have HVP := Lib.hid hvp; clear hvp))
      go_ret2
      exact ⟨_, rfl, HVP.out.mono exq, exq⟩
  · rw [if_neg hk]
    obtain ⟨vb, vc, vo, vr, vp⟩ := v
    obtain ⟨qb, cb, hqb⟩ := h.bay.row.len
    obtain ⟨qc, cc, hqc⟩ := h.cash.len
    obtain ⟨qo, co, hqo⟩ := h.outs.len
    obtain ⟨qr, cr, hqr⟩ := h.rfds.len
    obtain ⟨qp, cp, hqp⟩ := h.pleas.len
    dsimp only at hqb hqc hqr hqp hqo
    subst hqb hqc hqr hqp hqo
    dsimp only at hask ⊢
    have HASK := Lib.hid hask
    clear hask
    clear hcv hgd h hp hmo hcd
    go_enter Tryz.func25, Tryz.ntmps25
    go_wp2_with (go_at_call 45; refine (HASK.out _ exq).mono ?_; rintro e w' ⟨p, rfl, -, X1, rfl⟩)
    go_ret2
    exact ⟨_, rfl, IsRow.nil _, exq⟩
end Go.Proofs.YtihkmkocgmkcjaaGreatDoor

/-
  The walk of the law GuestSeats.
-/
namespace Go.Proofs.YtihkmkocgmkcjaaGreatDoor
open Go.RowKit Kr
set_option linter.unusedSimpArgs false
set_option linter.unusedVariables false

theorem row_of_natS {w : World} {v : Value} {l : List Nat} (h : IsRow (fun x : Nat => [.int .i64 (x : Int)]) 1 w v l) : IsRow (fun x : Int => [.int .i64 x]) 1 w v (l.map fun x : Nat => (x : Int)) := by
  obtain ⟨q, b, o, c, rfl, hm, hq, hc⟩ := h.ex
  refine ⟨q, b, o, c, by rw [List.length_map], by rw [List.length_map]; exact hm, fun h0 => hq (by rwa [List.length_map] at h0), fun i x hx j u hu => ?_⟩
  rw [List.getElem?_map] at hx
  cases hl : l[i]? with
  | none => rw [hl] at hx; cases hx
  | some y =>
    rw [hl] at hx
    have := Option.some.inj hx
    subst this
    exact hc i y hl j u hu

set_option maxRecDepth 4000 in
set_option maxHeartbeats 2000000 in
theorem l10_GuestSeats_any (m : Kr.Books) (v : BookV) (ts : List (Kr.Scale × Value)) (xs : List OutV) (i : Int) (ps : List Int) (pv : Value) (w : World) (h : BooksAt w m v ts xs) (hwf : ∀ x ∈ xs, OutWf x) (hp : IsRow (fun x : Int => [.int .i64 x]) 1 w pv ps) (hcd : CondsAt w) :
    Calls Tryz.prog 4 #[.agg #[v.bay, v.cash, v.outs, v.rfds, .int .i64 m.fee, v.pleas], .int .i64 i, pv] w fun e w' => e = .returned (.bool true) ∧ w.Exts w' := by
  have hgg := great_good h hwf
  have hgr := fun (W : World) (hE : w.Exts W) => r10_Great_any m v ts xs W (h.mono hE)
  generalize greatB m ts xs = g at hgg hgr
  obtain ⟨qi, ci, rfl⟩ := hp.len
  cases g
  case true =>
    obtain ⟨vb, vc, vo, vr, vp⟩ := v
    obtain ⟨qb, cb, hqb⟩ := h.bay.row.len
    obtain ⟨qc, cc, hqc⟩ := h.cash.len
    obtain ⟨qo, co, hqo⟩ := h.outs.len
    obtain ⟨qr, cr, hqr⟩ := h.rfds.len
    obtain ⟨qp, cp, hqp⟩ := h.pleas.len
    dsimp only at hqb hqc hqr hqp hqo
    subst hqb hqc hqr hqp hqo
    clear h hgg
    dsimp only at hgr
    have HGR := Lib.hid hgr
    clear hgr
    go_enter Tryz.func4, Tryz.ntmps4
    go_wp2_with (go_at_call 20; refine (HGR.out _ exq).mono ?_; rintro e w' ⟨rfl, X1, rfl⟩)
    go_ret
    exact ⟨rfl, exq⟩
  rcases Nat.lt_or_ge 12 ps.length with h12 | h12
  · obtain ⟨vb, vc, vo, vr, vp⟩ := v
    obtain ⟨qb, cb, hqb⟩ := h.bay.row.len
    obtain ⟨qc, cc, hqc⟩ := h.cash.len
    obtain ⟨qo, co, hqo⟩ := h.outs.len
    obtain ⟨qr, cr, hqr⟩ := h.rfds.len
    obtain ⟨qp, cp, hqp⟩ := h.pleas.len
    dsimp only at hqb hqc hqr hqp hqo
    subst hqb hqc hqr hqp hqo
    clear h hgg
    dsimp only at hgr
    have HGR := Lib.hid hgr
    clear hgr
    have HP := Lib.hid hp
    clear hp
    go_enter Tryz.func4, Tryz.ntmps4
    go_wp2_with (go_at_call 20; refine (HGR.out _ exq).mono ?_; rintro e w' ⟨rfl, X1, rfl⟩)
    go_ret
    exact ⟨rfl, exq⟩
  obtain ⟨hgd, hmo⟩ := hgg rfl
  have a1 := fun (W : World) (hE : w.Exts W) => guest_Free_any m v ts xs i W (hgd.mono hE) hmo (hcd.mono hE)
  have a2 := fun (W : World) (hE : w.Exts W) => r10_Free_any m v ts xs i W (hgd.mono hE)
  have a3 := fun (W : World) (hE : w.Exts W) => guest_Fits_any m v ts xs i W (hgd.mono hE) hmo (hcd.mono hE)
  have a4 := fun (W : World) (hE : w.Exts W) => r10_Fits_any m v ts xs i W (hgd.mono hE)
  have a5 := fun (pw : Value) (W : World) (hE : w.Exts W) (hpw : IsRow (fun x : Int => [.int .i64 x]) 1 W pw ps) => guest_Pieces_any m v ts xs i ps pw W (hgd.mono hE) hmo (hcd.mono hE) hpw
  have a6 := fun (W : World) (hE : w.Exts W) => r10_Pieces_any m v ts xs i ps _ W (hgd.mono hE) (hp.mono hE)
  generalize freeVal m i = x1 at a1 a2
  generalize askB m i = x2 at a1 a2 a3 a4
  generalize fitsVal m i = x3 at a3 a4
  generalize piecesR m i ps = x4 at a5 a6
  obtain ⟨bl, be⟩ := x4
  obtain ⟨vb, vc, vo, vr, vp⟩ := v
  obtain ⟨qb, cb, hqb⟩ := h.bay.row.len
  obtain ⟨qc, cc, hqc⟩ := h.cash.len
  obtain ⟨qo, co, hqo⟩ := h.outs.len
  obtain ⟨qr, cr, hqr⟩ := h.rfds.len
  obtain ⟨qp, cp, hqp⟩ := h.pleas.len
  dsimp only at hqb hqc hqr hqp hqo
  subst hqb hqc hqr hqp hqo
  clear h hgd hmo hwf hgg
  dsimp only at hgr a1 a2 a3 a4 a5 a6
  have HGR := Lib.hid hgr
  clear hgr
  have A1 := Lib.hid a1
  clear a1
  have A2 := Lib.hid a2
  clear a2
  have A3 := Lib.hid a3
  clear a3
  have A4 := Lib.hid a4
  clear a4
  have A5 := Lib.hid a5
  clear a5
  have A6 := Lib.hid a6
  clear a6
  have HP := Lib.hid hp
  clear hp
  have hnl : ¬ (12 : Int) < (ps.length : Int) := by omega
  go_enter Tryz.func4, Tryz.ntmps4
  go_wp2_with (first
    | (go_at_call 20; refine (HGR.out _ exq).mono ?_; rintro e w' ⟨rfl, X1, rfl⟩)
    | (go_at_call 21; refine (A1.out _ exq).mono ?_; rintro e w' ⟨rfl, X2, rfl⟩)
    | (go_at_call 22; refine (A2.out _ exq).mono ?_; rintro e w' ⟨rfl, X3, rfl⟩)
    | (go_at_call 23; refine (A3.out _ exq).mono ?_; rintro e w' ⟨rfl, X4, rfl⟩)
    | (go_at_call 24; refine (A4.out _ exq).mono ?_; rintro e w' ⟨rfl, X5, rfl⟩)
    | (go_at_call 25; refine (A5.out _ _ exq (HOWN.out.mono exq)).mono ?_; rintro e w' ⟨vl, rfl, hvl, X6, rfl⟩; obtain ⟨ql, cl, rfl⟩ := hvl.len; have HVL := Lib.hid hvl; clear hvl)
    | (go_at_call 26; refine (A6.out _ exq).mono ?_; rintro e w' ⟨vm, rfl, hvm, X7, rfl⟩; obtain ⟨qm, cm, rfl⟩ := hvm.len; have HVM := Lib.hid hvm; clear hvm)
    | (at_builtin; refine wpList_append_lit (.tmp 27) (.tmp 28) (zs := []) (ys := ps) (enc := fun x : Int => [.int .i64 x]) elem_int rfl rfl _ (by simp [go_sem]) rfl rfl rfl (HP.out.mono exq) (fun _ => rfl) (fun _ u hu => by simp at hu; first | (subst hu; rfl) | (rcases hu with rfl | rfl <;> rfl) | (rcases hu with rfl | rfl | rfl <;> rfl)) (by simp; omega) ?_; intro vo X8 hro; rw [List.nil_append] at hro; obtain ⟨qo2, co2, rfl⟩ := hro.len; have HOWN := Lib.hid hro; clear hro)
    | (go_at_call 27; ((with_reducible refine (r10_SameInts_any (bl.map fun x : Nat => (x : Int)) _ _ _ ?s1 ?s2).mono ?_); (case s1 => exact row_of_natS (HVL.out.mono exq)); (case s2 => exact row_of_natS (HVM.out.mono exq)); rintro e w' ⟨rfl, X9, rfl⟩))
    | (go_at_call 27; ((with_reducible refine (r10_SameInts_any ps _ _ _ ?s3 ?s4).mono ?_); (case s3 => exact HOWN.out.mono exq); (case s4 => exact HP.out.mono exq); rintro e w' ⟨rfl, X10, rfl⟩)))
  go_ret
  exact ⟨rfl, exq⟩
end Go.Proofs.YtihkmkocgmkcjaaGreatDoor

/-
  The listed table of conditions, opened: its five cells hold the five functions; and the door's own heap meets it.
-/
namespace Go.Proofs.YtihkmkocgmkcjaaGreatDoor
open Go.ChangeShapes Go.RowKit

/-- What the row lists. -/
def laidOnes : List (String × DataW Unit) := [("kreisel/scale.conditions", Rows.laid_kreisel_scale_conditions)]
theorem gConds : (Tryz.prog).globalNamed "kreisel/scale.conditions" = some 0 := by kernel_rfl
theorem tConds : ((Tryz.prog).globals[0]?).map (·.type) = some 147 := by kernel_rfl
theorem cells_condition : (Tryz.prog).cellsOf 146 = 1 := by kernel_rfl
theorem cells_conditions : (Tryz.prog).cellsOf 147 = 5 := by kernel_rfl

theorem mapM5 {α β : Type} {f : α → Option β} {a0 a1 a2 a3 a4 : α} {ys : List β} (h : [a0, a1, a2, a3, a4].mapM f = some ys) : ∃ y0 y1 y2 y3 y4, ys = [y0, y1, y2, y3, y4] ∧ f a0 = some y0 ∧ f a1 = some y1 ∧ f a2 = some y2 ∧ f a3 = some y3 ∧ f a4 = some y4 := by
  cases h0 : f a0 with
  | none => simp [h0] at h
  | some y0 =>
    cases h1 : f a1 with
    | none => simp [h0, h1] at h
    | some y1 =>
      cases h2 : f a2 with
      | none => simp [h0, h1, h2] at h
      | some y2 =>
        cases h3 : f a3 with
        | none => simp [h0, h1, h2, h3] at h
        | some y3 =>
          cases h4 : f a4 with
          | none => simp [h0, h1, h2, h3, h4] at h
          | some y4 =>
            simp [h0, h1, h2, h3, h4] at h
            exact ⟨y0, y1, y2, y3, y4, h.symm, rfl, rfl, rfl, rfl, rfl⟩

set_option maxRecDepth 100000 in
theorem trod_five {W : World} {fuel : Nat} {cs : List Value} {d : DataW (List UInt8)} {p : List MemPlace}
    (h : DataW.trod (funcToken Tryz.prog) Tryz.prog W 0 (fun _ => true) true fuel 147 cs = some (d, p)) :
    ∃ c0 c1 c2 c3 c4 x0 x1 x2 x3 x4 n, cs = [c0, c1, c2, c3, c4] ∧ d = .agg [x0, x1, x2, x3, x4] ∧
      (∃ q, DataW.trod (funcToken Tryz.prog) Tryz.prog W 0 (fun _ => true) true n 146 [c0] = some (x0, q)) ∧ (∃ q, DataW.trod (funcToken Tryz.prog) Tryz.prog W 0 (fun _ => true) true n 146 [c1] = some (x1, q)) ∧ (∃ q, DataW.trod (funcToken Tryz.prog) Tryz.prog W 0 (fun _ => true) true n 146 [c2] = some (x2, q)) ∧
      (∃ q, DataW.trod (funcToken Tryz.prog) Tryz.prog W 0 (fun _ => true) true n 146 [c3] = some (x3, q)) ∧ (∃ q, DataW.trod (funcToken Tryz.prog) Tryz.prog W 0 (fun _ => true) true n 146 [c4] = some (x4, q)) := by
  cases fuel with
  | zero => simp [DataW.trod] at h
  | succ n =>
    unfold DataW.trod at h
    simp only [Tryz.underlying147] at h
    have r5 : List.range 5 = [0, 1, 2, 3, 4] := rfl
    simp only [cells_condition, cells_conditions, r5] at h
    split at h
    case isFalse => cases h
    rename_i hlen
    match cs, hlen with
    | [c0, c1, c2, c3, c4], _ =>
      cases hm : ([0, 1, 2, 3, 4] : List Nat).mapM fun i => DataW.trod (funcToken Tryz.prog) Tryz.prog W 0 (fun _ => true) true n 146 ((([c0, c1, c2, c3, c4] : List Value).drop (i * 1)).take 1) with
      | none => rw [hm] at h; cases h
      | some ys =>
        rw [hm] at h
        obtain ⟨y0, y1, y2, y3, y4, rfl, h0, h1, h2, h3, h4⟩ := mapM5 hm
        simp only [Option.map_some, Option.some.injEq, Prod.mk.injEq, List.map_cons, List.map_nil] at h
        exact ⟨c0, c1, c2, c3, c4, y0.1, y1.1, y2.1, y3.1, y4.1, n, rfl, h.1.symm, ⟨y0.2, h0⟩, ⟨y1.2, h1⟩, ⟨y2.2, h2⟩, ⟨y3.2, h3⟩, ⟨y4.2, h4⟩⟩

set_option maxRecDepth 100000 in
/-- One entry of the table holds the function that its name tells. -/
theorem entry_func {W : World} {n : Nat} {c : Value} {b : UInt8} {r : List UInt8} {q : List MemPlace} {f0 : FuncId} (hone : ((List.range (Tryz.prog).funcs.size).filter fun f => ((Tryz.prog).funcs[f]?).any (·.name.toUTF8.data.toList == b :: r)) = [f0])
    (h : DataW.trod (funcToken Tryz.prog) Tryz.prog W 0 (fun _ => true) true n 146 [c] = some (.agg [.held (b :: r)], q)) : c = .func (.func f0) #[] #[] := by
  obtain ⟨y0, m, e, _, hf⟩ := trod_struct1 Tryz.underlying146 h
  simp only [Prod.mk.injEq, DataW.agg.injEq, List.cons.injEq, and_true] at e
  obtain ⟨e1, e2⟩ := e
  obtain ⟨y, z⟩ := y0
  simp only at e1 e2
  subst e1 e2
  refine func_of_trod (w := W) (base := 0) (sp := fun _ => true) (t := 144) (q := q) Tryz.underlying144 hone (fuel := m) ?_
  exact hf
set_option maxRecDepth 100000 in
theorem five_of_laid {W : World} (h : laidMetH Tryz.prog laidOnes W) : W.cell? ⟨0, 0, none⟩ = some (.func (.func 228) #[] #[]) ∧ W.cell? ⟨0, 1, none⟩ = some (.func (.func 230) #[] #[]) ∧
    W.cell? ⟨0, 2, none⟩ = some (.func (.func 232) #[] #[]) ∧ W.cell? ⟨0, 3, none⟩ = some (.func (.func 234) #[] #[]) ∧ W.cell? ⟨0, 4, none⟩ = some (.func (.func 235) #[] #[]) := by
  obtain ⟨g, t, cs, fuel, p, hg, ht, hv, hd⟩ := h.funcs (List.mem_singleton.2 rfl)
  obtain rfl := Option.some.inj (gConds.symm.trans hg)
  obtain rfl := Option.some.inj (tConds.symm.trans ht)
  obtain ⟨c0, c1, c2, c3, c4, x0, x1, x2, x3, x4, n, e, ed, ⟨q0, h0⟩, ⟨q1, h1⟩, ⟨q2, h2⟩, ⟨q3, h3⟩, ⟨q4, h4⟩⟩ := trod_five hd
  have ed' : (DataW.agg [.agg [.held [107, 114, 101, 105, 115, 101, 108, 47, 115, 99, 97, 108, 101, 46, 99, 111, 110, 100, 105, 116, 105, 111, 110, 115, 36, 49]], .agg [.held [107, 114, 101, 105, 115, 101, 108, 47, 115, 99, 97, 108, 101, 46, 99, 111, 110, 100, 105, 116, 105, 111, 110, 115, 36, 50]],
    .agg [.held [107, 114, 101, 105, 115, 101, 108, 47, 115, 99, 97, 108, 101, 46, 99, 111, 110, 100, 105, 116, 105, 111, 110, 115, 36, 51]], .agg [.held [107, 114, 101, 105, 115, 101, 108, 47, 115, 99, 97, 108, 101, 46, 99, 111, 110, 100, 105, 116, 105, 111, 110, 115, 36, 52]],
    .agg [.held [107, 114, 101, 105, 115, 101, 108, 47, 115, 99, 97, 108, 101, 46, 99, 111, 110, 100, 105, 116, 105, 111, 110, 115, 36, 53]]] : DataW (List UInt8)) = .agg [x0, x1, x2, x3, x4] := ed
  simp only [DataW.agg.injEq, List.cons.injEq, and_true] at ed'
  obtain ⟨rfl, rfl, rfl, rfl, rfl⟩ := ed'
  obtain rfl := entry_func (f0 := 228) (by kernel_rfl) h0
  obtain rfl := entry_func (f0 := 230) (by kernel_rfl) h1
  obtain rfl := entry_func (f0 := 232) (by kernel_rfl) h2
  obtain rfl := entry_func (f0 := 234) (by kernel_rfl) h3
  obtain rfl := entry_func (f0 := 235) (by kernel_rfl) h4
  have hc := fun i => World.var?_cell hg hv i
  obtain ⟨csl⟩ := cs
  simp only at e
  subst e
  exact ⟨hc 0, hc 1, hc 2, hc 3, hc 4⟩
theorem conds_of_laid {W : World} (h : laidMetH Tryz.prog laidOnes W) : CondsAt W := by
  obtain ⟨h0, h1, h2, h3, h4⟩ := five_of_laid h
  exact ⟨h0, h1, h2, h3, h4⟩
/-- The door's own heap meets it. -/
theorem door_met (os : Os) (args : Array Value) : laidMetH Tryz.prog laidOnes ((World.doorLaid Tryz.prog 600 os).forCall (fun _ _ => 0) ⟨#[], args, []⟩).memory :=
  laidMetH_of_parts3 (fuel := 8) (laidMet_of_run' 8 (by kernel_rfl) (by kernel_rfl)) (by kernel_rfl) (by kernel_rfl)
end Go.Proofs.YtihkmkocgmkcjaaGreatDoor
