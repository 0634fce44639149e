/-
  Walks of the reference of guests: refund.
-/
import Derived.Test.YtbmackjoiopaiaaGreatDoorGd
namespace Go.Proofs.YtbmackjoiopaiaaGreatDoor
open Go.RowKit Kr
set_option linter.unusedSimpArgs false

/-- The refund of a price for some days. -/
def refundOf (rs : List Kr.Rfd) (price days : Int) : Int := match rs.find? (fun r => decide (r.days ≤ days)) with | some r => price * r.part / 100 | none => 0
theorem find_take {rs : List Kr.Rfd} {days : Int} {k : Nat} {r : Kr.Rfd} (h : rs[k]? = some r) (hno : ∀ y ∈ rs.take k, days < y.days) (hr : r.days ≤ days) : rs.find? (fun r => decide (r.days ≤ days)) = some r := by
  rw [List.find?_eq_some_iff_append]
  obtain ⟨h1, h2⟩ := List.getElem?_eq_some_iff.1 h
  refine ⟨by simpa using hr, rs.take k, rs.drop (k + 1), ?_, fun y hy => by have := hno y hy; simp; omega⟩
  conv => lhs; rw [← List.take_append_drop k rs]
  rw [List.drop_eq_getElem_cons h1, h2]

set_option maxHeartbeats 2000000 in
theorem r10_refund_any (m : Kr.Books) (v : BookV) (ts : List (Kr.Scale × Value)) (xs : List OutV) (i : Nat) (o : Kr.Outing) (days : Int) (w : World) (h : BooksAt w m v ts xs) (hi : m.outings[i]? = some o) (hrl : m.refunds.length ≤ 8)
    (ho : 0 ≤ o.price ∧ o.price ≤ 100000) (hr : ∀ r ∈ m.refunds, 0 ≤ r.part ∧ r.part ≤ 100) :
    Calls Tryz.prog 47 #[.agg #[v.bay, v.cash, v.outs, v.rfds, .int .i64 m.fee, v.pleas], .int .i64 i, .int .i64 days] w fun e w' => e = .returned (.int .i64 (refundOf m.refunds o.price days)) ∧ w.Exts w' := by
  obtain ⟨vb, vc, vo, vr, vp⟩ := v
  obtain ⟨qb, cb, hqb⟩ := h.bay.row.len
  obtain ⟨qc, cc, hqc⟩ := h.cash.len
  obtain ⟨qp, cp, hqp⟩ := h.pleas.len
  obtain ⟨q, b, off, cap, hqo, hm, hq, hc⟩ := h.outs.ex
  obtain ⟨qr, br, or_, cr, hqr, hmr, hr1, hr2⟩ := h.rfds.ex
  dsimp only at hqb hqc hqr hqp hqo
  subst hqb hqc hqr hqp hqo
  obtain ⟨x, hx⟩ : ∃ x, xs[i]? = some x := by
    have h1 := hi
    rw [← h.ose, List.getElem?_map] at h1
    cases hxi : xs[i]? with
    | none => rw [hxi] at h1; cases h1
    | some x => exact ⟨x, rfl⟩
  have hxo : x.o = o := by
    have h1 := hi
    rw [← h.ose, List.getElem?_map, hx] at h1
    exact Option.some.inj h1
  have hil := (List.getElem?_eq_some_iff.1 hx).1
  obtain ⟨rfl, hlo⟩ := hq (by omega)
  have c3 := hc i x hx 3 _ rfl
  rw [hxo] at c3
  have w1 : (0 : Int) ≤ (i : Int) := by omega
  have w2 : (i : Int) < (xs.length : Int) := by omega
  have HR1 := Lib.hid hr1
  clear hr1
  have HR2 := Lib.hid hr2
  clear hr2
  have HR := Lib.hid hr
  clear hr
  clear hq hc hx hxo hi h
  go_enter Tryz.func47, Tryz.ntmps47
  go_wp2_with fail
  go_loopw [7] (fun i wr => ∃ k : Nat, k ≤ m.refunds.length ∧ i = .int .i64 k ∧ Hid (∀ y ∈ m.refunds.take k, days < y.days) ∧ (World.alloc w (.cells #[.slice qb ts.length cb, .slice qc m.cash.length cc, .slice (some ⟨b, off, none⟩) xs.length cap, .slice qr m.refunds.length cr, .int .i64 m.fee, .slice qp m.pleas.length cp] 29)).Exts wr) (fun i _ => m.refunds.length - (intOf i).toNat)
  case atStart => exact ⟨0, Nat.zero_le _, rfl, Lib.hid (fun y hy => by simp at hy), World.Exts.refl _⟩
  case round =>
    obtain ⟨k, hk, rfl, HA, hE⟩ := hrel
    obtain ⟨X, rfl⟩ := hE
    rcases Nat.lt_or_ge k m.refunds.length with hlt | hge
    · obtain ⟨rfl, hl⟩ := HR1.out (by omega)
      obtain ⟨r, hrk⟩ := some_of_lt hlt
      have hrb := HR.out r (List.mem_of_getElem? hrk)
      have hcs := HR2.out k r hrk
      have c0 := hcs 0 _ rfl
      have c1 := hcs 1 _ rfl
      simp only [Nat.add_zero] at c0 c1
      have h3 : 0 ≤ o.price * r.part := Int.mul_nonneg ho.1 hrb.1
      have h4 : o.price * r.part ≤ 100000 * 100 := Int.mul_le_mul ho.2 hrb.2 hrb.1 (by omega)
      rcases Int.lt_or_le days r.days with hd | hd
      · have hn : ∀ y ∈ m.refunds.take (k + 1), days < y.days := by
          rw [take_snoc hrk]
          intro y hy
          rcases List.mem_append.1 hy with h1 | h1
          · exact HA.out y h1
          · rw [List.mem_singleton.1 h1]; exact hd
        have d1 : decide (r.days ≤ days) = false := by simp; omega
        have HN := Lib.hid hn
        clear hn
        clear hcs hrk
        go_wp2_with fail
        go_roundw
        case rel => exact ⟨k + 1, by omega, by go_num, HN, exq⟩
        case measure => simp [intOf]; omega
      · have hfin : refundOf m.refunds o.price days = o.price * r.part / 100 := by unfold refundOf; rw [find_take hrk HA.out hd]
        have d1 : decide (r.days ≤ days) = true := by simpa using hd
        have e1 : (o.price * r.part).tdiv 100 = o.price * r.part / 100 := Int.tdiv_eq_ediv_of_nonneg h3
        have e2 : IntKind.i64.wrap (o.price * r.part) = o.price * r.part := IntWalk.i64_in _ (by omega)
        have e3 : IntKind.i64.wrap (o.price * r.part / 100) = o.price * r.part / 100 := IntWalk.i64_in _ (by omega)
        have HFIN := Lib.hid hfin
        clear hfin
        clear hcs hrk
        go_wp2_with fail
        refine wp_region_ext (by kernel_rfl) (by kernel_rfl) ?_
        repeat (go_big_quiet_step (fail))
        refine wpQuiet_nil ?_
        rintro _ ⟨X, rfl⟩
        go_wp2_with fail
        go_ret
        rw [HFIN.out]
        exact ⟨rfl, exq⟩
    · have hkn : k = m.refunds.length := by omega
      have hA := HA.out
      rw [hkn, List.take_length] at hA
      have hfin : refundOf m.refunds o.price days = 0 := by
        unfold refundOf
        rw [List.find?_eq_none.2 (fun y hy => by have := hA y hy; simp; omega)]
      have HFIN := Lib.hid hfin
      clear hfin
      clear hA HA hkn
      go_wp2_with fail
      go_ret
      rw [HFIN.out]
      exact ⟨rfl, exq⟩
end Go.Proofs.YtbmackjoiopaiaaGreatDoor
