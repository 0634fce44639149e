/-
  Several texts in one: see the heads of its parts.
-/
import Derived.Test.YtihkmkocgmkcjaaGreatDoorGk

/-
  The walk of the reference's Books.
-/
namespace Go.Proofs.YtihkmkocgmkcjaaGreatDoor
open Go.RowKit Kr
set_option linter.unusedSimpArgs false
set_option linter.unusedVariables false

set_option maxRecDepth 4000 in
set_option maxHeartbeats 8000000 in
noncomputable def r10_Books_any_c1 : { G : Prop // G → ∀ (m : Kr.Books) (v : BookV) (ts : List (Kr.Scale × Value)) (xs : List OutV) (w : World) (_ : BooksGood w m v ts xs) (_ : ∀ y ∈ ts, right y.1 = true),
    Calls Tryz.prog 126 #[.agg #[v.bay, v.cash, v.outs, v.rfds, .int .i64 m.fee, v.pleas]] w fun e w' => e = .returned (.bool (booksB m)) ∧ w.Exts w' } := by
  apply Subtype.mk
  case property =>
  intro hG
  have HG := Lib.hid hG
  clear hG
  intro m v ts xs w hgd hok
  have h := hgd.at_
  have hxl := hgd.xl
  have hcl := hgd.cash
  have hol := hgd.outs
  have hrl := hgd.rfds
  have hpl := hgd.pleas
  have hxo := hgd.out
  obtain ⟨vb, vc, vo, vr, vp⟩ := v
  obtain ⟨qb, cb, hqb⟩ := h.bay.row.len
  obtain ⟨qc, cc, hqc⟩ := h.cash.len
  obtain ⟨qo, co, hqo⟩ := h.outs.len
  obtain ⟨qr, cr, hqr⟩ := h.rfds.len
  obtain ⟨qp, cp, hqp⟩ := h.pleas.len
  dsimp only at hqb hqc hqr hqp hqo
  subst hqb hqc hqr hqp hqo
  obtain ⟨_, bc, oc, _, ec, hmc, hqc, hcc⟩ := h.cash.ex
  cases ec
  obtain ⟨_, bo, oo, _, eo, hmo, hqo, hco⟩ := h.outs.ex
  cases eo
  obtain ⟨_, br, or_, _, er, hmr, hqr, hcr⟩ := h.rfds.ex
  cases er
  obtain ⟨_, bp, op_, _, ep, hmp, hqp, hcp⟩ := h.pleas.ex
  cases ep
  have hos := h.ose
  obtain ⟨b1, hb1⟩ : ∃ z, inb 2 8 (m.cash.length : Int) = z := ⟨_, rfl⟩
  obtain ⟨b2, hb2⟩ : ∃ z, decide (m.outings.length ≤ 4) = z := ⟨_, rfl⟩
  obtain ⟨b3, hb3⟩ : ∃ z, decide (m.refunds.length ≤ 4) = z := ⟨_, rfl⟩
  obtain ⟨b4, hb4⟩ : ∃ z, inb 0 100000 m.fee = z := ⟨_, rfl⟩
  obtain ⟨b5, hb5⟩ : ∃ z, decide (m.pleas.length ≤ 4) = z := ⟨_, rfl⟩
  have hfin : booksB m = ((b1 && (b2 && (b3 && (b4 && b5)))) && (inAll 0 1000000000 m.cash && (allN (outAt m.bay (m.cash.length : Int) m.outings) m.outings.length && (allN (rfdAt m.refunds) m.refunds.length && (inAll 2 ((m.cash.length : Int) - 1) m.pleas && (decide (m.cash.sum ≤ 1000000000) && decide (m.cash.getD 1 0 = heldOf m.outings m.fee m.pleas))))))) := by
    unfold booksB headB
    rw [hb1, hb2, hb3, hb4, hb5]
  rw [hfin]
  clear hfin hgd
  have HB := Lib.hid h
  clear h
  have HOK := Lib.hid hok
  clear hok
  have HXO := Lib.hid hxo
  clear hxo
  have HOS := Lib.hid hos
  clear hos
  have B1 := Lib.hid hb1
  clear hb1
  have B4 := Lib.hid hb4
  clear hb4
  have HQC := Lib.hid hqc
  clear hqc
  have HCC := Lib.hid hcc
  clear hcc
  have HQO := Lib.hid hqo
  clear hqo
  have HCO := Lib.hid hco
  clear hco
  have HQR := Lib.hid hqr
  clear hqr
  have HCR := Lib.hid hcr
  clear hcr
  have HQP := Lib.hid hqp
  clear hqp
  have HCP := Lib.hid hcp
  clear hcp
  cases b1
  case false =>
    go_enter Tryz.func126, Tryz.ntmps126
    go_wp2_with (first
      | (go_at_call 76; ((with_reducible refine (r10_within_any (m.cash.length : Int) 2 8 _).mono ?_); rintro e w' ⟨rfl, X1, rfl⟩; rw [B1.out]))
      | (go_at_call 76; ((with_reducible refine (r10_within_any m.fee 0 100000 _).mono ?_); rintro e w' ⟨rfl, X2, rfl⟩; rw [B4.out])))
    go_ret
    exact ⟨rfl, exq⟩
  cases b2
  case false =>
    have h2 : 4 < xs.length := by have := hb2; simp at this; omega
    clear hb2
    go_enter Tryz.func126, Tryz.ntmps126
    go_wp2_with (first
      | (go_at_call 76; ((with_reducible refine (r10_within_any (m.cash.length : Int) 2 8 _).mono ?_); rintro e w' ⟨rfl, X1, rfl⟩; rw [B1.out]))
      | (go_at_call 76; ((with_reducible refine (r10_within_any m.fee 0 100000 _).mono ?_); rintro e w' ⟨rfl, X2, rfl⟩; rw [B4.out])))
    go_ret
    exact ⟨rfl, exq⟩
  have h2 : xs.length ≤ 4 := by have := hb2; simp at this; omega
  clear hb2
  cases b3
  case false =>
    have h3 : 4 < m.refunds.length := by simpa using hb3
    clear hb3
    go_enter Tryz.func126, Tryz.ntmps126
    go_wp2_with (first
      | (go_at_call 76; ((with_reducible refine (r10_within_any (m.cash.length : Int) 2 8 _).mono ?_); rintro e w' ⟨rfl, X1, rfl⟩; rw [B1.out]))
      | (go_at_call 76; ((with_reducible refine (r10_within_any m.fee 0 100000 _).mono ?_); rintro e w' ⟨rfl, X2, rfl⟩; rw [B4.out])))
    go_ret
    exact ⟨rfl, exq⟩
  have h3 : m.refunds.length ≤ 4 := by simpa using hb3
  clear hb3
  cases b4
  case false =>
    go_enter Tryz.func126, Tryz.ntmps126
    go_wp2_with (first
      | (go_at_call 76; ((with_reducible refine (r10_within_any (m.cash.length : Int) 2 8 _).mono ?_); rintro e w' ⟨rfl, X1, rfl⟩; rw [B1.out]))
      | (go_at_call 76; ((with_reducible refine (r10_within_any m.fee 0 100000 _).mono ?_); rintro e w' ⟨rfl, X2, rfl⟩; rw [B4.out])))
    go_ret
    exact ⟨rfl, exq⟩
  cases b5
  case false =>
    have h5 : 4 < m.pleas.length := by simpa using hb5
    clear hb5
    go_enter Tryz.func126, Tryz.ntmps126
    go_wp2_with (first
      | (go_at_call 76; ((with_reducible refine (r10_within_any (m.cash.length : Int) 2 8 _).mono ?_); rintro e w' ⟨rfl, X1, rfl⟩; rw [B1.out]))
      | (go_at_call 76; ((with_reducible refine (r10_within_any m.fee 0 100000 _).mono ?_); rintro e w' ⟨rfl, X2, rfl⟩; rw [B4.out])))
    go_ret
    exact ⟨rfl, exq⟩
  have h5 : m.pleas.length ≤ 4 := by simpa using hb5
  clear hb5
  have hn2 := (inb_iff.1 B1.out).1
  have hfee := inb_iff.1 B4.out
  have HXL := Lib.hid hxl
  clear hxl
  go_enter Tryz.func126, Tryz.ntmps126
  go_wp2_with (first
    | (go_at_call 76; ((with_reducible refine (r10_within_any (m.cash.length : Int) 2 8 _).mono ?_); rintro e w' ⟨rfl, X1, rfl⟩; rw [B1.out]))
    | (go_at_call 76; ((with_reducible refine (r10_within_any m.fee 0 100000 _).mono ?_); rintro e w' ⟨rfl, X2, rfl⟩; rw [B4.out])))
  rename_i i9_1_1 i9_1_2 i9_1_3 i9_1_4 i9_1_5 i9_1_6
  revert m ts xs w hcl hol hrl hpl qb cb qc cc qo co qr cr qp cp bc oc hmc bo oo hmo br or_ hmr bp op_ hmp HB HOK HXO HOS HQC HCC HQO HCO HQR HCR HQP HCP B1 h2 h3 B4 h5 hn2 hfee HXL i9_1_1 X1 i9_1_2 i9_1_3 X2 i9_1_4 i9_1_5 i9_1_6
  exact HG.out
end Go.Proofs.YtihkmkocgmkcjaaGreatDoor

/-
  The walk of the reference's Books.
-/
namespace Go.Proofs.YtihkmkocgmkcjaaGreatDoor
open Go.RowKit Kr
set_option linter.unusedSimpArgs false
set_option linter.unusedVariables false

set_option maxRecDepth 4000 in
set_option maxHeartbeats 8000000 in
noncomputable def r10_Books_any_c2 : { G : Prop // G → r10_Books_any_c1.val } := by
  apply Subtype.mk
  case property =>
  intro hG
  have HG := Lib.hid hG
  clear hG
  intro m ts xs w hcl hol hrl hpl qb cb qc cc qo co qr cr qp cp bc oc hmc bo oo hmo br or_ hmr bp op_ hmp HB HOK HXO HOS HQC HCC HQO HCO HQR HCR HQP HCP B1 h2 h3 B4 h5 hn2 hfee HXL i9_1_1 X1 i9_1_2 i9_1_3 X2 i9_1_4 i9_1_5 i9_1_6
  go_loopw [5, 4] (fun i s wr => ∃ k : Nat, k ≤ m.cash.length ∧ i = .int .i64 k ∧ s = .int .i64 (m.cash.take k).sum ∧ Hid (∀ z ∈ m.cash.take k, inb 0 1000000000 z = true) ∧ (World.ext _ X2).Exts wr) (fun i _ _ => m.cash.length - (intOf i).toNat)
  case atStart => exact ⟨0, Nat.zero_le _, rfl, rfl, Lib.hid (fun z hz => by simp at hz), exq⟩
  case round =>
    obtain ⟨k, hk, rfl, rfl, HA, hE⟩ := hrel
    obtain ⟨X3, rfl⟩ := hE
    have hbd := sum_bdN (M := 1000000000) (by omega) (m.cash.take k) (fun z hz => inb_iff.1 (HA.out z hz))
    have hkl : (m.cash.take k).length = k := by rw [List.length_take]; omega
    rw [hkl] at hbd
    clear hkl
    rcases Nat.lt_or_ge k m.cash.length with hlt | hge
    · obtain ⟨rfl, hlay⟩ := HQC.out (by omega)
      obtain ⟨y, hy⟩ := some_of_lt hlt
      have c0 := HCC.out k y hy 0 _ rfl
      simp only [Nat.mul_one, Nat.add_zero] at c0
      obtain ⟨g1, hg1⟩ : ∃ z, inb 0 1000000000 y = z := ⟨_, rfl⟩
      have HY := Lib.hid hy
      clear hy
      have HG1 := Lib.hid hg1
      clear hg1
      cases g1
      case false =>
        have hbad := inAll_false HY.out HG1.out
        have HBAD := Lib.hid hbad
        clear hbad
        go_wp2_with (go_at_call 76; refine (r10_within_any y 0 1000000000 _).mono ?_; rintro e w' ⟨rfl, X8, rfl⟩; rw [HG1.out])
        go_ret
        exact ⟨by rw [HBAD.out]; rfl, exq⟩
      have hyb := inb_iff.1 HG1.out
      have hsn := sum_part HY.out
      obtain ⟨sk, hsk⟩ : ∃ z, (m.cash.take k).sum = z := ⟨_, rfl⟩
      rw [hsk] at hbd hsn ⊢
      have hgood := take_all (p := fun z => inb 0 1000000000 z = true) HY.out HA.out HG1.out
      have HGOOD := Lib.hid hgood
      clear hgood
      have HSN := Lib.hid hsn
      clear hsn
      clear hsk
      go_wp2_with (go_at_call 76; refine (r10_within_any y 0 1000000000 _).mono ?_; rintro e w' ⟨rfl, X8, rfl⟩; rw [HG1.out])
      go_roundw
      case rel => exact ⟨k + 1, by omega, by go_num, by rw [HSN.out], HGOOD, exq⟩
      case measure => simp [intOf]; omega
    · have hnl : ¬ k < m.cash.length := by omega
      have hkn : k = m.cash.length := by omega
      have hA := HA.out
      rw [hkn, List.take_length] at hA hbd
      have hca := inAll_true hA
      have e : (m.cash.take k).sum = m.cash.sum := by rw [hkn, List.take_length]
      rw [e]
      have HCA := Lib.hid hca
      clear hca
      clear hA HA e hkn
      obtain ⟨su, hsu⟩ : ∃ z, m.cash.sum = z := ⟨_, rfl⟩
      rw [hsu] at hbd ⊢
      have HSU := Lib.hid hsu
      clear hsu
      go_wp2_with fail
      rename_i i9_2_1 i9_2_2 i9_2_3 i9_2_4 i9_2_5
      revert m ts xs w hcl hol hrl hpl qb cb qc cc qo co qr cr qp cp bc oc hmc bo oo hmo br or_ hmr bp op_ hmp HB HOK HXO HOS HQC HCC HQO HCO HQR HCR HQP HCP B1 h2 h3 B4 h5 hn2 hfee HXL i9_1_1 X1 i9_1_2 i9_1_3 X2 i9_1_4 i9_1_5 u2 u39 u40 u41 u42 u43 u44 u45 u46 u47 u48 u49 u50 u51 u52 u53 u54 u55 u56 u57 k hk X3 hge hnl HCA su hbd HSU i9_2_1 i9_2_2 i9_2_3 i9_2_4 i9_2_5
      exact HG.out
end Go.Proofs.YtihkmkocgmkcjaaGreatDoor

/-
  The walk of the reference's Books.
-/
namespace Go.Proofs.YtihkmkocgmkcjaaGreatDoor
open Go.RowKit Kr
set_option linter.unusedSimpArgs false
set_option linter.unusedVariables false

set_option maxRecDepth 4000 in
set_option maxHeartbeats 8000000 in
noncomputable def r10_Books_any_c3 : { G : Prop // G → r10_Books_any_c2.val } := by
  apply Subtype.mk
  case property =>
  intro hG
  have HG := Lib.hid hG
  clear hG
  intro m ts xs w hcl hol hrl hpl qb cb qc cc qo co qr cr qp cp bc oc hmc bo oo hmo br or_ hmr bp op_ hmp HB HOK HXO HOS HQC HCC HQO HCO HQR HCR HQP HCP B1 h2 h3 B4 h5 hn2 hfee HXL i9_1_1 X1 i9_1_2 i9_1_3 X2 i9_1_4 i9_1_5 u2 u39 u40 u41 u42 u43 u44 u45 u46 u47 u48 u49 u50 u51 u52 u53 u54 u55 u56 u57 k hk X3 hge hnl HCA su hbd HSU i9_2_1 i9_2_2 i9_2_3 i9_2_4 i9_2_5
  go_loopw [6] (fun i wr => ∃ k : Nat, k ≤ xs.length ∧ i = .int .i64 k ∧ Hid (∀ j, j < k → outAt m.bay (m.cash.length : Int) m.outings j = true) ∧ (World.ext _ X2).Exts wr) (fun i _ => xs.length - (intOf i).toNat)
  case atStart => exact ⟨0, Nat.zero_le _, rfl, Lib.hid (fun j hj => by omega), exq⟩
  case round =>
    clear X3 hk hge
    obtain ⟨k, hk, rfl, HA, hE⟩ := hrel
    obtain ⟨X3, rfl⟩ := hE
    rcases Nat.lt_or_ge k xs.length with hlt | hge
    · obtain ⟨rfl, hlay⟩ := HQO.out (by omega)
      obtain ⟨x, hx⟩ := some_of_lt hlt
      have hcs := HCO.out k x hx
      have c0 := hcs 0 _ rfl
      simp only [Nat.add_zero] at c0
      have HCS := Lib.hid hcs
      clear hcs
      have hxm := HXO.out x (List.mem_of_getElem? hx)
      have hxf := hxm.few
      have hxa := hxm.at_
      have hxg := hxm.gear
      have hok2 : m.outings[k]? = some x.o := by rw [← HOS.out, List.getElem?_map, hx]; rfl
      obtain ⟨g1, hg1⟩ : ∃ z, outOk m.bay (m.cash.length : Int) x.o = z := ⟨_, rfl⟩
      have hgA : outAt m.bay (m.cash.length : Int) m.outings k = (g1 && (decide (k = 0) || decide ((m.outings.getD (k - 1) default).id < x.o.id))) := by unfold outAt; rw [getD_of hok2, hg1]
      have hxk : outAt m.bay (m.cash.length : Int) m.outings k = false → allN (outAt m.bay (m.cash.length : Int) m.outings) m.outings.length = false := fun hh => allN_false (by have := HXL.out; omega) hh
      have HG1 := Lib.hid hg1
      clear hg1
      have HXA := Lib.hid hxa
      clear hxa
      have HXG := Lib.hid hxg
      clear hxg
      clear hok2 hxm
      cases g1
      case false =>
        have hbad := hxk (by rw [hgA]; rfl)
        have HBAD := Lib.hid hbad
        clear hbad
        clear hxk hgA hx
        go_wp2_with fail
        refine wp_region_ext (by kernel_rfl) (by kernel_rfl) ?_
        repeat (first
          | go_big_quiet_skip
          | (go_big_quiet_want; first
            | (refine quiet_load_mid 112 _ rfl bo (oo + k * 23) rfl [.int .i64 x.o.id, .int .i64 x.o.pilot, .int .i64 x.o.seats, .int .i64 x.o.price, .int .i64 x.o.part, .int .i64 x.o.norm.total.lo, .int .i64 x.o.norm.total.hi, .int .i64 x.o.norm.added, .int .i64 x.o.norm.warm, .int .i64 x.o.norm.hard.lo, .int .i64 x.o.norm.hard.hi, .bool x.o.norm.stamp, x.gs, .bool x.o.weighed, x.lv, .int .i64 x.o.gear.added, .int .i64 x.o.gear.base, .int .i64 x.o.gear.jitter, x.rv, x.sv, .int .i64 x.o.gear.spread, .bool x.o.gear.stamp, .int .u8 x.o.state] _ (fun W hW => by obtain ⟨X, rfl⟩ := hW; exact fun j u hju => World.Exts.cell (a := w) exq (HCS.out j u hju)) Tryz.underlying112 rfl (by kernel_rfl) ?_; go_frame; go_big_quiet_on)
            | (go_big_quiet_op; first
              | go_big_quiet_on
              | go_big_quiet_call ((go_at_call 155; exact Calls.in_ext_eq (r10_outing_any m ⟨.slice qb ts.length cb, .slice qc m.cash.length cc, .slice (some ⟨bo, oo, none⟩) xs.length co, .slice qr m.refunds.length cr, .slice qp m.pleas.length cp⟩ ts xs x _ (HB.out.mono exq) (HXA.out.mono exq) (HXG.out.mono exq) HOK.out (by omega) (by omega)) (congrArg Value.bool HG1.out))))))
        refine wpQuiet_nil ?_
        rintro _ ⟨X, rfl⟩
        go_wp2_with fail
        go_ret
        exact ⟨by rw [HCA.out, HBAD.out]; rfl, exq⟩
      rcases Nat.eq_zero_or_pos k with hk0 | hk0
      · have d6 : ¬ 0 < k := by omega
        have hgood : ∀ j, j < k + 1 → outAt m.bay (m.cash.length : Int) m.outings j = true := below_snoc HA.out (by rw [hgA, hk0]; rfl)
        clear hk0
        have HGOOD := Lib.hid hgood
        clear hgood
        clear hxk hgA hx
        go_wp2_with fail
        refine wp_region_ext (by kernel_rfl) (by kernel_rfl) ?_
        repeat (first
          | go_big_quiet_skip
          | (go_big_quiet_want; first
            | (refine quiet_load_mid 112 _ rfl bo (oo + k * 23) rfl [.int .i64 x.o.id, .int .i64 x.o.pilot, .int .i64 x.o.seats, .int .i64 x.o.price, .int .i64 x.o.part, .int .i64 x.o.norm.total.lo, .int .i64 x.o.norm.total.hi, .int .i64 x.o.norm.added, .int .i64 x.o.norm.warm, .int .i64 x.o.norm.hard.lo, .int .i64 x.o.norm.hard.hi, .bool x.o.norm.stamp, x.gs, .bool x.o.weighed, x.lv, .int .i64 x.o.gear.added, .int .i64 x.o.gear.base, .int .i64 x.o.gear.jitter, x.rv, x.sv, .int .i64 x.o.gear.spread, .bool x.o.gear.stamp, .int .u8 x.o.state] _ (fun W hW => by obtain ⟨X, rfl⟩ := hW; exact fun j u hju => World.Exts.cell (a := w) exq (HCS.out j u hju)) Tryz.underlying112 rfl (by kernel_rfl) ?_; go_frame; go_big_quiet_on)
            | (go_big_quiet_op; first
              | go_big_quiet_on
              | go_big_quiet_call ((go_at_call 155; exact Calls.in_ext_eq (r10_outing_any m ⟨.slice qb ts.length cb, .slice qc m.cash.length cc, .slice (some ⟨bo, oo, none⟩) xs.length co, .slice qr m.refunds.length cr, .slice qp m.pleas.length cp⟩ ts xs x _ (HB.out.mono exq) (HXA.out.mono exq) (HXG.out.mono exq) HOK.out (by omega) (by omega)) (congrArg Value.bool HG1.out))))))
        refine wpQuiet_nil ?_
        rintro _ ⟨X, rfl⟩
        go_wp2_with fail
        go_roundw
        case rel => exact ⟨k + 1, by omega, by go_num, HGOOD, exq⟩
        case measure => simp [intOf]; omega
      · obtain ⟨z, hz⟩ := some_of_lt (show k - 1 < xs.length by omega)
        have d0 := HCO.out (k - 1) z hz 0 _ rfl
        simp only [Nat.add_zero] at d0
        have hzo : m.outings[k - 1]? = some z.o := by rw [← HOS.out, List.getElem?_map, hz]; rfl
        rw [getD_of hzo, show decide (k = 0) = false by simp; omega] at hgA
        clear hzo
        rcases Int.lt_or_le z.o.id x.o.id with hzy | hzy
        · rw [decide_eq_true hzy] at hgA
          have d5 : decide (x.o.id ≤ z.o.id) = false := by simp; omega
          have hgood : ∀ j, j < k + 1 → outAt m.bay (m.cash.length : Int) m.outings j = true := below_snoc HA.out (by rw [hgA]; rfl)
          have HGOOD := Lib.hid hgood
          clear hgood
          clear hxk hgA hx hz
          go_wp2_with fail
          refine wp_region_ext (by kernel_rfl) (by kernel_rfl) ?_
          repeat (first
            | go_big_quiet_skip
            | (go_big_quiet_want; first
              | (refine quiet_load_mid 112 _ rfl bo (oo + k * 23) rfl [.int .i64 x.o.id, .int .i64 x.o.pilot, .int .i64 x.o.seats, .int .i64 x.o.price, .int .i64 x.o.part, .int .i64 x.o.norm.total.lo, .int .i64 x.o.norm.total.hi, .int .i64 x.o.norm.added, .int .i64 x.o.norm.warm, .int .i64 x.o.norm.hard.lo, .int .i64 x.o.norm.hard.hi, .bool x.o.norm.stamp, x.gs, .bool x.o.weighed, x.lv, .int .i64 x.o.gear.added, .int .i64 x.o.gear.base, .int .i64 x.o.gear.jitter, x.rv, x.sv, .int .i64 x.o.gear.spread, .bool x.o.gear.stamp, .int .u8 x.o.state] _ (fun W hW => by obtain ⟨X, rfl⟩ := hW; exact fun j u hju => World.Exts.cell (a := w) exq (HCS.out j u hju)) Tryz.underlying112 rfl (by kernel_rfl) ?_; go_frame; go_big_quiet_on)
              | (go_big_quiet_op; first
                | go_big_quiet_on
                | go_big_quiet_call ((go_at_call 155; exact Calls.in_ext_eq (r10_outing_any m ⟨.slice qb ts.length cb, .slice qc m.cash.length cc, .slice (some ⟨bo, oo, none⟩) xs.length co, .slice qr m.refunds.length cr, .slice qp m.pleas.length cp⟩ ts xs x _ (HB.out.mono exq) (HXA.out.mono exq) (HXG.out.mono exq) HOK.out (by omega) (by omega)) (congrArg Value.bool HG1.out))))))
          refine wpQuiet_nil ?_
          rintro _ ⟨X, rfl⟩
          go_wp2_with fail
          go_roundw
          case rel => exact ⟨k + 1, by omega, by go_num, HGOOD, exq⟩
          case measure => simp [intOf]; omega
        · rw [decide_eq_false (by omega)] at hgA
          have hbad := hxk (by rw [hgA]; rfl)
          have HBAD := Lib.hid hbad
          clear hbad
          clear hxk hgA hx hz
          go_wp2_with fail
          refine wp_region_ext (by kernel_rfl) (by kernel_rfl) ?_
          repeat (first
            | go_big_quiet_skip
            | (go_big_quiet_want; first
              | (refine quiet_load_mid 112 _ rfl bo (oo + k * 23) rfl [.int .i64 x.o.id, .int .i64 x.o.pilot, .int .i64 x.o.seats, .int .i64 x.o.price, .int .i64 x.o.part, .int .i64 x.o.norm.total.lo, .int .i64 x.o.norm.total.hi, .int .i64 x.o.norm.added, .int .i64 x.o.norm.warm, .int .i64 x.o.norm.hard.lo, .int .i64 x.o.norm.hard.hi, .bool x.o.norm.stamp, x.gs, .bool x.o.weighed, x.lv, .int .i64 x.o.gear.added, .int .i64 x.o.gear.base, .int .i64 x.o.gear.jitter, x.rv, x.sv, .int .i64 x.o.gear.spread, .bool x.o.gear.stamp, .int .u8 x.o.state] _ (fun W hW => by obtain ⟨X, rfl⟩ := hW; exact fun j u hju => World.Exts.cell (a := w) exq (HCS.out j u hju)) Tryz.underlying112 rfl (by kernel_rfl) ?_; go_frame; go_big_quiet_on)
              | (go_big_quiet_op; first
                | go_big_quiet_on
                | go_big_quiet_call ((go_at_call 155; exact Calls.in_ext_eq (r10_outing_any m ⟨.slice qb ts.length cb, .slice qc m.cash.length cc, .slice (some ⟨bo, oo, none⟩) xs.length co, .slice qr m.refunds.length cr, .slice qp m.pleas.length cp⟩ ts xs x _ (HB.out.mono exq) (HXA.out.mono exq) (HXG.out.mono exq) HOK.out (by omega) (by omega)) (congrArg Value.bool HG1.out))))))
          refine wpQuiet_nil ?_
          rintro _ ⟨X, rfl⟩
          go_wp2_with fail
          go_ret
          exact ⟨by rw [HCA.out, HBAD.out]; rfl, exq⟩
    · have hnl2 : ¬ k < xs.length := by omega
      have hkn : k = m.outings.length := by have := HXL.out; omega
      have hA := HA.out
      rw [hkn] at hA
      have hou : allN (outAt m.bay (m.cash.length : Int) m.outings) m.outings.length = true := allN_iff.2 hA
      have hpr : ∀ o ∈ m.outings, (0 ≤ o.price ∧ o.price ≤ 100000) ∧ o.guests.length ≤ 8 := fun o ho => by
        obtain ⟨j, hj⟩ := List.getElem?_of_mem ho
        have h12 := hA j (List.getElem?_eq_some_iff.1 hj).1
        unfold outAt at h12
        rw [getD_of hj, Bool.and_eq_true] at h12
        have h13 := out_facts h12.1
        have h14 := h13.seats
        have h15 := h13.few
        exact ⟨h13.price, by omega⟩
      have HOU := Lib.hid hou
      clear hou
      have HPR := Lib.hid hpr
      clear hpr
      clear hA HA hkn
      go_wp2_with fail
      rename_i i9_3_1 i9_3_2 i9_3_3 i9_3_4 i9_3_5 i9_3_6 i9_3_7
      revert m ts xs w hcl hol hrl hpl qb cb qc cc qo co qr cr qp cp bc oc hmc bo oo hmo br or_ hmr bp op_ hmp HB HOK HXO HOS HQC HCC HQO HCO HQR HCR HQP HCP B1 h2 h3 B4 h5 hn2 hfee HXL i9_1_1 X1 i9_1_2 i9_1_3 X2 i9_1_4 i9_1_5 i9_3_1 u39 u40 u41 u42 u43 u44 u45 u46 u47 u48 u49 u50 u51 u52 u53 u54 u55 u56 u57 i9_3_2 hnl HCA su hbd HSU i9_2_1 i9_2_2 i9_2_3 i9_2_4 u2 u58 u59 u60 u61 u62 u63 u64 u65 u66 u67 u68 u69 u70 u71 u72 u73 u74 u75 u76 u77 u78 u79 u80 u81 u82 u83 u84 u85 u86 u87 u88 u89 u90 u91 u92 k hk X3 hge hnl2 HOU HPR i9_3_3 i9_3_4 i9_3_5 i9_3_6 i9_3_7
      exact HG.out
end Go.Proofs.YtihkmkocgmkcjaaGreatDoor

/-
  The walk of the reference's Books.
-/
namespace Go.Proofs.YtihkmkocgmkcjaaGreatDoor
open Go.RowKit Kr
set_option linter.unusedSimpArgs false
set_option linter.unusedVariables false

set_option maxRecDepth 4000 in
set_option maxHeartbeats 8000000 in
noncomputable def r10_Books_any_c4 : { G : Prop // G → r10_Books_any_c3.val } := by
  apply Subtype.mk
  case property =>
  intro hG
  have HG := Lib.hid hG
  clear hG
  intro m ts xs w hcl hol hrl hpl qb cb qc cc qo co qr cr qp cp bc oc hmc bo oo hmo br or_ hmr bp op_ hmp HB HOK HXO HOS HQC HCC HQO HCO HQR HCR HQP HCP B1 h2 h3 B4 h5 hn2 hfee HXL i9_1_1 X1 i9_1_2 i9_1_3 X2 i9_1_4 i9_1_5 i9_3_1 u39 u40 u41 u42 u43 u44 u45 u46 u47 u48 u49 u50 u51 u52 u53 u54 u55 u56 u57 i9_3_2 hnl HCA su hbd HSU i9_2_1 i9_2_2 i9_2_3 i9_2_4 u2 u58 u59 u60 u61 u62 u63 u64 u65 u66 u67 u68 u69 u70 u71 u72 u73 u74 u75 u76 u77 u78 u79 u80 u81 u82 u83 u84 u85 u86 u87 u88 u89 u90 u91 u92 k hk X3 hge hnl2 HOU HPR i9_3_3 i9_3_4 i9_3_5 i9_3_6 i9_3_7
  go_loopw [7] (fun i wr => ∃ k : Nat, k ≤ m.refunds.length ∧ i = .int .i64 k ∧ Hid (∀ j, j < k → rfdAt m.refunds j = true) ∧ (World.ext _ X2).Exts wr) (fun i _ => m.refunds.length - (intOf i).toNat)
  case atStart => exact ⟨0, Nat.zero_le _, rfl, Lib.hid (fun j hj => by omega), exq⟩
  case round =>
    clear X3 hk hge
    obtain ⟨k, hk, rfl, HA, hE⟩ := hrel
    obtain ⟨X3, rfl⟩ := hE
    rcases Nat.lt_or_ge k m.refunds.length with hlt | hge
    · obtain ⟨rfl, hlay⟩ := HQR.out (by omega)
      obtain ⟨r, hx⟩ := some_of_lt hlt
      have hcs := HCR.out k r hx
      have c0 := hcs 0 _ rfl
      have c1 := hcs 1 _ rfl
      simp only [Nat.add_zero] at c0 c1
      obtain ⟨g1, hg1⟩ : ∃ z, inb 0 400 r.days = z := ⟨_, rfl⟩
      obtain ⟨g3, hg3⟩ : ∃ z, inb 0 100 r.part = z := ⟨_, rfl⟩
      have hgA : rfdAt m.refunds k = (g1 && ((decide (k = 0) || decide (r.days < (m.refunds.getD (k - 1) default).days)) && g3)) := by unfold rfdAt; rw [getD_of hx, hg1, hg3]
      have hxk : rfdAt m.refunds k = false → allN (rfdAt m.refunds) m.refunds.length = false := fun hh => allN_false hlt hh
      have HG1 := Lib.hid hg1
      clear hg1
      have HG3 := Lib.hid hg3
      clear hg3
      clear hcs
      cases g1
      case false =>
        have hbad := hxk (by rw [hgA]; rfl)
        have HBAD := Lib.hid hbad
        clear hbad
        clear hxk hgA hx
        go_wp2_with fail
        refine wp_region_ext (by kernel_rfl) (by kernel_rfl) ?_
        repeat (go_big_quiet_step ((go_at_call 76; first | (with_reducible exact Calls.in_ext_eq (r10_within_any r.days 0 400 _) (congrArg Value.bool HG1.out)) | (with_reducible exact Calls.in_ext_eq (r10_within_any r.part 0 100 _) (congrArg Value.bool HG3.out)))))
        refine wpQuiet_nil ?_
        rintro _ ⟨X, rfl⟩
        go_wp2_with fail
        go_ret
        exact ⟨by rw [HCA.out, HOU.out, HBAD.out]; rfl, exq⟩
      rcases Nat.eq_zero_or_pos k with hk0 | hk0
      · have d6 : ¬ 0 < k := by omega
        have hgA0 : rfdAt m.refunds k = g3 := by rw [hgA, hk0]; rfl
        clear hk0 hgA
        cases g3
        case false =>
          have hbad := hxk (by rw [hgA0])
          have HBAD := Lib.hid hbad
          clear hbad
          clear hxk hgA0 hx
          go_wp2_with fail
          refine wp_region_ext (by kernel_rfl) (by kernel_rfl) ?_
          repeat (go_big_quiet_step ((go_at_call 76; first | (with_reducible exact Calls.in_ext_eq (r10_within_any r.days 0 400 _) (congrArg Value.bool HG1.out)) | (with_reducible exact Calls.in_ext_eq (r10_within_any r.part 0 100 _) (congrArg Value.bool HG3.out)))))
          refine wpQuiet_nil ?_
          rintro _ ⟨X, rfl⟩
          go_wp2_with fail
          go_ret
          exact ⟨by rw [HCA.out, HOU.out, HBAD.out]; rfl, exq⟩
        have hgood : ∀ j, j < k + 1 → rfdAt m.refunds j = true := below_snoc HA.out (by rw [hgA0])
        have HGOOD := Lib.hid hgood
        clear hgood
        clear hxk hgA0 hx
        go_wp2_with fail
        refine wp_region_ext (by kernel_rfl) (by kernel_rfl) ?_
        repeat (go_big_quiet_step ((go_at_call 76; first | (with_reducible exact Calls.in_ext_eq (r10_within_any r.days 0 400 _) (congrArg Value.bool HG1.out)) | (with_reducible exact Calls.in_ext_eq (r10_within_any r.part 0 100 _) (congrArg Value.bool HG3.out)))))
        refine wpQuiet_nil ?_
        rintro _ ⟨X, rfl⟩
        go_wp2_with fail
        go_roundw
        case rel => exact ⟨k + 1, by omega, by go_num, HGOOD, exq⟩
        case measure => simp [intOf]; omega
      · obtain ⟨z, hz⟩ := some_of_lt (show k - 1 < m.refunds.length by omega)
        have d0 := HCR.out (k - 1) z hz 0 _ rfl
        simp only [Nat.add_zero] at d0
        rw [getD_of hz, show decide (k = 0) = false by simp; omega] at hgA
        rcases Int.lt_or_le r.days z.days with hzy | hzy
        · rw [decide_eq_true hzy] at hgA
          have d5 : decide (z.days ≤ r.days) = false := by simp; omega
          cases g3
          case false =>
            have hbad := hxk (by rw [hgA]; rfl)
            have HBAD := Lib.hid hbad
            clear hbad
            clear hxk hgA hx hz
            go_wp2_with fail
            refine wp_region_ext (by kernel_rfl) (by kernel_rfl) ?_
            repeat (go_big_quiet_step ((go_at_call 76; first | (with_reducible exact Calls.in_ext_eq (r10_within_any r.days 0 400 _) (congrArg Value.bool HG1.out)) | (with_reducible exact Calls.in_ext_eq (r10_within_any r.part 0 100 _) (congrArg Value.bool HG3.out)))))
            refine wpQuiet_nil ?_
            rintro _ ⟨X, rfl⟩
            go_wp2_with fail
            go_ret
            exact ⟨by rw [HCA.out, HOU.out, HBAD.out]; rfl, exq⟩
          have hgood : ∀ j, j < k + 1 → rfdAt m.refunds j = true := below_snoc HA.out (by rw [hgA]; rfl)
          have HGOOD := Lib.hid hgood
          clear hgood
          clear hxk hgA hx hz
          go_wp2_with fail
          refine wp_region_ext (by kernel_rfl) (by kernel_rfl) ?_
          repeat (go_big_quiet_step ((go_at_call 76; first | (with_reducible exact Calls.in_ext_eq (r10_within_any r.days 0 400 _) (congrArg Value.bool HG1.out)) | (with_reducible exact Calls.in_ext_eq (r10_within_any r.part 0 100 _) (congrArg Value.bool HG3.out)))))
          refine wpQuiet_nil ?_
          rintro _ ⟨X, rfl⟩
          go_wp2_with fail
          go_roundw
          case rel => exact ⟨k + 1, by omega, by go_num, HGOOD, exq⟩
          case measure => simp [intOf]; omega
        · rw [decide_eq_false (by omega)] at hgA
          have hbad := hxk (by rw [hgA]; rfl)
          have HBAD := Lib.hid hbad
          clear hbad
          clear hxk hgA hx hz
          go_wp2_with fail
          refine wp_region_ext (by kernel_rfl) (by kernel_rfl) ?_
          repeat (go_big_quiet_step ((go_at_call 76; first | (with_reducible exact Calls.in_ext_eq (r10_within_any r.days 0 400 _) (congrArg Value.bool HG1.out)) | (with_reducible exact Calls.in_ext_eq (r10_within_any r.part 0 100 _) (congrArg Value.bool HG3.out)))))
          refine wpQuiet_nil ?_
          rintro _ ⟨X, rfl⟩
          go_wp2_with fail
          go_ret
          exact ⟨by rw [HCA.out, HOU.out, HBAD.out]; rfl, exq⟩
    · have hnl3 : ¬ k < m.refunds.length := by omega
      have hkn : k = m.refunds.length := by omega
      have hA := HA.out
      rw [hkn] at hA
      have hrf : allN (rfdAt m.refunds) m.refunds.length = true := allN_iff.2 hA
      have HRF := Lib.hid hrf
      clear hrf
      clear hA HA hkn
      go_wp2_with fail
      rename_i i9_4_1 i9_4_2 i9_4_3 i9_4_4 i9_4_5 i9_4_6 i9_4_7
      revert m ts xs w hcl hol hrl hpl qb cb qc cc qo co qr cr qp cp bc oc hmc bo oo hmo br or_ hmr bp op_ hmp HB HOK HXO HOS HQC HCC HQO HCO HQR HCR HQP HCP B1 h2 h3 B4 h5 hn2 hfee HXL i9_1_1 X1 i9_1_2 i9_1_3 X2 i9_1_4 i9_1_5 i9_3_1 u39 u40 u41 u42 u43 u44 u45 u46 u47 u48 u49 u50 u51 u52 u53 u54 u55 u56 u57 i9_3_2 hnl HCA su hbd HSU i9_2_1 i9_2_2 i9_2_3 i9_2_4 i9_4_1 u58 u59 u60 u61 u62 u63 u64 u65 u66 u67 u68 u69 u70 u71 u72 u73 u74 u75 u76 u77 u78 u79 u80 u81 u82 u83 u84 u85 u86 u87 u88 u89 u90 u91 u92 i9_4_2 hnl2 HOU HPR i9_3_3 i9_3_4 i9_3_5 i9_3_6 u2 u93 u94 u95 u96 u97 u98 u99 u100 u101 u102 u103 u104 u105 u106 u107 u108 u109 u110 u111 u112 u113 u114 u115 u116 u117 u118 u119 u120 u121 u122 u123 u124 u125 u126 u127 u128 u129 u130 u131 u132 u133 u134 u135 u136 u137 k hk X3 hge hnl3 HRF i9_4_3 i9_4_4 i9_4_5 i9_4_6 i9_4_7
      exact HG.out
end Go.Proofs.YtihkmkocgmkcjaaGreatDoor

/-
  The walk of the reference's Books.
-/
namespace Go.Proofs.YtihkmkocgmkcjaaGreatDoor
open Go.RowKit Kr
set_option linter.unusedSimpArgs false
set_option linter.unusedVariables false

set_option maxRecDepth 4000 in
set_option maxHeartbeats 8000000 in
theorem r10_Books_any_last : r10_Books_any_c4.val := by
  intro m ts xs w hcl hol hrl hpl qb cb qc cc qo co qr cr qp cp bc oc hmc bo oo hmo br or_ hmr bp op_ hmp HB HOK HXO HOS HQC HCC HQO HCO HQR HCR HQP HCP B1 h2 h3 B4 h5 hn2 hfee HXL i9_1_1 X1 i9_1_2 i9_1_3 X2 i9_1_4 i9_1_5 i9_3_1 u39 u40 u41 u42 u43 u44 u45 u46 u47 u48 u49 u50 u51 u52 u53 u54 u55 u56 u57 i9_3_2 hnl HCA su hbd HSU i9_2_1 i9_2_2 i9_2_3 i9_2_4 i9_4_1 u58 u59 u60 u61 u62 u63 u64 u65 u66 u67 u68 u69 u70 u71 u72 u73 u74 u75 u76 u77 u78 u79 u80 u81 u82 u83 u84 u85 u86 u87 u88 u89 u90 u91 u92 i9_4_2 hnl2 HOU HPR i9_3_3 i9_3_4 i9_3_5 i9_3_6 u2 u93 u94 u95 u96 u97 u98 u99 u100 u101 u102 u103 u104 u105 u106 u107 u108 u109 u110 u111 u112 u113 u114 u115 u116 u117 u118 u119 u120 u121 u122 u123 u124 u125 u126 u127 u128 u129 u130 u131 u132 u133 u134 u135 u136 u137 k hk X3 hge hnl3 HRF i9_4_3 i9_4_4 i9_4_5 i9_4_6 i9_4_7
  go_loopw [8] (fun i wr => ∃ k : Nat, k ≤ m.pleas.length ∧ i = .int .i64 k ∧ Hid (∀ z ∈ m.pleas.take k, inb 2 ((m.cash.length : Int) - 1) z = true) ∧ (World.ext _ X2).Exts wr) (fun i _ => m.pleas.length - (intOf i).toNat)
  case atStart => exact ⟨0, Nat.zero_le _, rfl, Lib.hid (fun z hz => by simp at hz), exq⟩
  case round =>
    clear X3 hk hge
    obtain ⟨k, hk, rfl, HA, hE⟩ := hrel
    obtain ⟨X3, rfl⟩ := hE
    rcases Nat.lt_or_ge k m.pleas.length with hlt | hge
    · obtain ⟨rfl, hlay⟩ := HQP.out (by omega)
      obtain ⟨y, hy⟩ := some_of_lt hlt
      have c0 := HCP.out k y hy 0 _ rfl
      simp only [Nat.mul_one, Nat.add_zero] at c0
      obtain ⟨g1, hg1⟩ : ∃ z, inb 2 ((m.cash.length : Int) - 1) y = z := ⟨_, rfl⟩
      have HY := Lib.hid hy
      clear hy
      have HG1 := Lib.hid hg1
      clear hg1
      cases g1
      case false =>
        have hbad := inAll_false HY.out HG1.out
        have HBAD := Lib.hid hbad
        clear hbad
        go_wp2_with (go_at_call 76; refine (r10_within_any y 2 ((m.cash.length : Int) - 1) _).mono ?_; rintro e w' ⟨rfl, X8, rfl⟩; rw [HG1.out])
        go_ret
        exact ⟨by rw [HCA.out, HOU.out, HRF.out, HBAD.out]; rfl, exq⟩
      have hgood := take_all (p := fun z => inb 2 ((m.cash.length : Int) - 1) z = true) HY.out HA.out HG1.out
      have HGOOD := Lib.hid hgood
      clear hgood
      go_wp2_with (go_at_call 76; refine (r10_within_any y 2 ((m.cash.length : Int) - 1) _).mono ?_; rintro e w' ⟨rfl, X8, rfl⟩; rw [HG1.out])
      go_roundw
      case rel => exact ⟨k + 1, by omega, by go_num, HGOOD, exq⟩
      case measure => simp [intOf]; omega
    · have hnl4 : ¬ k < m.pleas.length := by omega
      have hkn : k = m.pleas.length := by omega
      have hA := HA.out
      rw [hkn, List.take_length] at hA
      have hpa := inAll_true hA
      have HPA := Lib.hid hpa
      clear hpa
      clear hA HA hkn
      rcases Int.lt_or_le 1000000000 su with hsb | hsb
      · have hd : decide (su ≤ 1000000000) = false := by simp; omega
        go_wp2_with fail
        refine wp_region_ext (by kernel_rfl) (by kernel_rfl) ?_
        repeat (go_big_quiet_step (fail))
        refine wpQuiet_nil ?_
        rintro _ ⟨X, rfl⟩
        go_wp2_with fail
        go_ret
        exact ⟨by rw [HCA.out, HOU.out, HRF.out, HPA.out, HSU.out, hd]; rfl, exq⟩
      · have hd : decide (su ≤ 1000000000) = true := by simpa using hsb
        obtain ⟨rfl, hlay⟩ := HQC.out (by omega)
        obtain ⟨y, hy⟩ := some_of_lt (show 1 < m.cash.length by omega)
        have c1 := HCC.out 1 y hy 0 _ rfl
        simp only [Nat.mul_one, Nat.add_zero] at c1
        have hge1 := getD_of (d := (0 : Int)) hy
        have HGE1 := Lib.hid hge1
        clear hge1
        have HD := Lib.hid hd
        clear hd
        clear hy
        go_wp2_with fail
        refine wp_region_ext (by kernel_rfl) (by kernel_rfl) ?_
        repeat (go_big_quiet_step ((go_at_call 156; exact Calls.in_ext (r10_held_any m ⟨.slice qb ts.length cb, .slice (some ⟨bc, oc, none⟩) m.cash.length cc, .slice qo xs.length co, .slice qr m.refunds.length cr, .slice qp m.pleas.length cp⟩ ts xs _ (HB.out.mono exq) hfee (by omega) (by omega) HPR.out))))
        refine wpQuiet_nil ?_
        rintro _ ⟨X, rfl⟩
        go_wp2_with fail
        go_ret
        exact ⟨by rw [HCA.out, HOU.out, HRF.out, HPA.out, HSU.out, HD.out, HGE1.out]; rfl, exq⟩
theorem r10_Books_any (m : Kr.Books) (v : BookV) (ts : List (Kr.Scale × Value)) (xs : List OutV) (w : World) (hgd : BooksGood w m v ts xs) (hok : ∀ y ∈ ts, right y.1 = true) :
    Calls Tryz.prog 126 #[.agg #[v.bay, v.cash, v.outs, v.rfds, .int .i64 m.fee, v.pleas]] w fun e w' => e = .returned (.bool (booksB m)) ∧ w.Exts w' :=
  (r10_Books_any_c1.property (r10_Books_any_c2.property (r10_Books_any_c3.property (r10_Books_any_c4.property r10_Books_any_last)))) m v ts xs w hgd hok
end Go.Proofs.YtihkmkocgmkcjaaGreatDoor

/-
  Walks of the reference of guests: Check.
-/
namespace Go.Proofs.YtihkmkocgmkcjaaGreatDoor
open Go.RowKit Kr
set_option linter.unusedSimpArgs false
set_option linter.unusedVariables false

set_option maxHeartbeats 1000000 in
theorem r10_Check_any (m : Kr.Books) (v : BookV) (ts : List (Kr.Scale × Value)) (xs : List OutV) (w : World) (hgd : BooksGood w m v ts xs) :
    Calls Tryz.prog 75 #[.agg #[v.bay, v.cash, v.outs, v.rfds, .int .i64 m.fee, v.pleas]] w fun e w' => e = .returned (.int .i64 (checkB m)) ∧ w.Exts w' := by
  have h := hgd.at_
  have htse := h.tse
  have hbay := h.bay
  obtain ⟨vb, vc, vo, vr, vp⟩ := v
  obtain ⟨qb, cb, hqb⟩ := h.bay.row.len
  obtain ⟨qc, cc, hqc⟩ := h.cash.len
  obtain ⟨qo, co, hqo⟩ := h.outs.len
  obtain ⟨qr, cr, hqr⟩ := h.rfds.len
  obtain ⟨qp, cp, hqp⟩ := h.pleas.len
  dsimp only at hqb hqc hqr hqp hqo
  subst hqb hqc hqr hqp hqo
  clear h
  dsimp only at hbay
  have hb2 := hbay
  obtain ⟨b1, hb1⟩ : ∃ z, bayOk (ts.map Prod.fst) = z := ⟨_, rfl⟩
  have hbr : b1 = true → ∀ y ∈ ts, right y.1 = true := fun e => bay_right (hb1.trans e)
  obtain ⟨b2, hb3⟩ : ∃ z, booksB m = z := ⟨_, rfl⟩
  have hfin : checkB m = if b1 then (if b2 then 0 else 100) else 40 := by unfold checkB; rw [← htse, hb1, hb3]
  rw [hfin]
  have HGD := Lib.hid hgd
  clear hgd
  have HBAY := Lib.hid hb2
  clear hb2
  have B1 := Lib.hid hb1
  clear hb1
  have B2 := Lib.hid hb3
  clear hb3
  have HBR := Lib.hid hbr
  clear hbr
  clear hfin htse hbay
  cases b1 <;> cases b2
  all_goals
    go_enter Tryz.func75, Tryz.ntmps75
    go_wp2_with (first
      | (go_at_call 108; refine (r04_Bay_any ts _ _ (HBAY.out.mono exq)).mono ?_; rintro e w' ⟨rfl, X1, rfl⟩; rw [B1.out])
      | (go_at_call 126; refine (r10_Books_any m ⟨.slice qb ts.length cb, .slice qc m.cash.length cc, .slice qo xs.length co, .slice qr m.refunds.length cr, .slice qp m.pleas.length cp⟩ ts xs _ (HGD.out.mono exq) (HBR.out (by first | rfl | trivial))).mono ?_; rintro e w' ⟨rfl, X2, rfl⟩; rw [B2.out]))
    go_ret
    exact ⟨rfl, exq⟩
end Go.Proofs.YtihkmkocgmkcjaaGreatDoor
