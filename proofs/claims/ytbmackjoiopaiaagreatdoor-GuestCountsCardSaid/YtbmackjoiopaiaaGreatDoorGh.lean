/-
  Walks of package guest: an office's refund.
-/
import Derived.Test.YtbmackjoiopaiaaGreatDoorGg
import Derived.Deep.DeepCutAuto
namespace Go.Proofs.YtbmackjoiopaiaaGreatDoor
open Go.RowKit Kr
set_option linter.unusedSimpArgs false

set_option maxHeartbeats 2000000 in
theorem office_refund_any (ob : Nat) (m : Kr.Books) (v : BookV) (ts : List (Kr.Scale × Value)) (xs : List OutV) (i : Nat) (o : Kr.Outing) (days : Int) (w : World) (h : BooksAt w m v ts xs) (h2 : w.cell? ⟨ob, 2, none⟩ = some v.outs) (h3 : w.cell? ⟨ob, 3, none⟩ = some v.rfds) (hi : m.outings[i]? = some o)
    (ho : 0 ≤ o.price ∧ o.price ≤ 100000) (hr : ∀ r ∈ m.refunds, 0 ≤ r.part ∧ r.part ≤ 100) :
    Calls Tryz.prog 45 #[.pointer (some ⟨ob, 0, none⟩), .int .i64 i, .int .i64 days] w fun e w' => e = .returned (.int .i64 (refundOf m.refunds o.price days)) ∧ w.Exts w' := by
  obtain ⟨vb, vc, vo, vr, vp⟩ := v
  obtain ⟨q, b, off, cap, hqo, hm, hq, hc⟩ := h.outs.ex
  obtain ⟨qr, br, or_, cr, hqr, hmr, hr1, hr2⟩ := h.rfds.ex
  have hrow := h.rfds
  dsimp only at hqr hqo h2 h3 hrow
  subst hqr hqo
  obtain ⟨x, hx⟩ : ∃ x, xs[i]? = some x := by
    have h1 := hi
    rw [← h.ose, List.getElem?_map] at h1
    cases hxi : xs[i]? with
    | none => rw [hxi] at h1; cases h1
    | some x => exact ⟨x, rfl⟩
  have hxo : x.o = o := by
    have h1 := hi
    rw [← h.ose, List.getElem?_map, hx] at h1
    exact Option.some.inj h1
  have hil := (List.getElem?_eq_some_iff.1 hx).1
  obtain ⟨rfl, hlo⟩ := hq (by omega)
  have c3 := hc i x hx 3 _ rfl
  rw [hxo] at c3
  have w1 : (0 : Int) ≤ (i : Int) := by omega
  have w2 : (i : Int) < (xs.length : Int) := by omega
  have nl := Lays.of_cell h2
  have HROW := Lib.hid hrow
  clear hrow
  clear hq hc hx hxo hi h
  rcases firstAt_cases (fun r : Kr.Rfd => decide (r.days ≤ days)) m.refunds with ⟨hf, hn⟩ | ⟨j, r, hj, hf, hfind, -⟩
  · have hfin : refundOf m.refunds o.price days = 0 := by unfold refundOf; rw [hn]
    have HFIN := Lib.hid hfin
    clear hfin
    have HF := Lib.hid hf
    clear hf
    clear hn hr hr1 hr2
    go_enter Tryz.func45, Tryz.ntmps45
    go_wp2_with (go_at_call 79; refine (IndexFunc_Refund_any m.refunds (fun r => decide (r.days ≤ days)) 80 #[.pointer (some ⟨w.heap.size, 0, none⟩)] _ _ (HROW.out.mono exq) (enters_of Tryz.func80 (by kernel_rfl) rfl) (answers1 fun r _ W hW => office_refund_1_any r days _ W (hW.cell (by simp [go_sem])))).mono ?_; rw [HF.out]; rintro e w' ⟨rfl, X, rfl⟩)
    go_ret
    rw [HFIN.out]
    exact ⟨rfl, exq⟩
  · have hfin : refundOf m.refunds o.price days = o.price * r.part / 100 := by unfold refundOf; rw [hfind]
    have hrb := hr r (List.mem_of_getElem? hj)
    have hjl := (List.getElem?_eq_some_iff.1 hj).1
    obtain ⟨rfl, hl⟩ := hr1 (by omega)
    have d1 := hr2 j r hj 1 _ rfl
    have k1 : (0 : Int) ≤ (j : Int) := by omega
    have k2 : (j : Int) < (m.refunds.length : Int) := by omega
    have k3 : decide ((j : Int) < 0) = false := by simp
    have h5 : 0 ≤ o.price * r.part := Int.mul_nonneg ho.1 hrb.1
    have h4 : o.price * r.part ≤ 100000 * 100 := Int.mul_le_mul ho.2 hrb.2 hrb.1 (by omega)
    have e1 : (o.price * r.part).tdiv 100 = o.price * r.part / 100 := Int.tdiv_eq_ediv_of_nonneg h5
    have e2 : IntKind.i64.wrap (o.price * r.part) = o.price * r.part := IntWalk.i64_in _ (by omega)
    have e3 : IntKind.i64.wrap (o.price * r.part / 100) = o.price * r.part / 100 := IntWalk.i64_in _ (by omega)
    have HFIN := Lib.hid hfin
    clear hfin
    have HF := Lib.hid hf
    clear hf
    clear hfind hr hr2 hj
    go_enter Tryz.func45, Tryz.ntmps45
    go_upto_region 4 with (go_at_call 79; refine (IndexFunc_Refund_any m.refunds (fun r => decide (r.days ≤ days)) 80 #[.pointer (some ⟨w.heap.size, 0, none⟩)] _ _ (HROW.out.mono exq) (enters_of Tryz.func80 (by kernel_rfl) rfl) (answers1 fun r _ W hW => office_refund_1_any r days _ W (hW.cell (by simp [go_sem])))).mono ?_; rw [HF.out]; rintro e w' ⟨rfl, X, rfl⟩)
    refine wp_region_ext (by kernel_rfl) (by kernel_rfl) ?_
    repeat (go_big_quiet_step (fail))
    refine wpQuiet_nil ?_
    rintro _ ⟨X, rfl⟩
    go_wp2_with fail
    go_ret
    rw [HFIN.out]
    exact ⟨rfl, exq⟩
end Go.Proofs.YtbmackjoiopaiaaGreatDoor
