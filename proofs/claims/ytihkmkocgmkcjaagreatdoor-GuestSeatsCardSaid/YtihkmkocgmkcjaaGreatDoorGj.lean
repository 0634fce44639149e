/-
  Walks of the reference of guests: outing.
-/
import Derived.Test.YtihkmkocgmkcjaaGreatDoorGi
import Derived.Test.YtihkmkocgmkcjaaGreatDoorJa
namespace Go.Proofs.YtihkmkocgmkcjaaGreatDoor
open Go.RowKit Kr
set_option linter.unusedSimpArgs false
set_option linter.unusedVariables false

set_option maxHeartbeats 8000000 in
theorem r10_outing_any (m : Kr.Books) (v : BookV) (ts : List (Kr.Scale × Value)) (xs : List OutV) (x : OutV) (w : World) (h : BooksAt w m v ts xs) (hx : OutAt w x) (hg : GearAt w (x.o.gear, x.lv, x.rv, x.sv)) (hok : ∀ y ∈ ts, right y.1 = true) (hn : m.cash.length ≤ 1000) (hgl : x.o.guests.length ≤ 1000) :
    Calls Tryz.prog 155 #[.agg #[v.bay, v.cash, v.outs, v.rfds, .int .i64 m.fee, v.pleas], .agg #[.int .i64 x.o.id, .int .i64 x.o.pilot, .int .i64 x.o.seats, .int .i64 x.o.price, .int .i64 x.o.part, .int .i64 x.o.norm.total.lo, .int .i64 x.o.norm.total.hi, .int .i64 x.o.norm.added, .int .i64 x.o.norm.warm, .int .i64 x.o.norm.hard.lo, .int .i64 x.o.norm.hard.hi, .bool x.o.norm.stamp, x.gs, .bool x.o.weighed, x.lv, .int .i64 x.o.gear.added, .int .i64 x.o.gear.base, .int .i64 x.o.gear.jitter, x.rv, x.sv, .int .i64 x.o.gear.spread, .bool x.o.gear.stamp, .int .u8 x.o.state]] w fun e w' => e = .returned (.bool (outOk m.bay (m.cash.length : Int) x.o)) ∧ w.Exts w' := by
  obtain ⟨vb, vc, vo, vr, vp⟩ := v
  obtain ⟨qb, cb, hqb⟩ := h.bay.row.len
  obtain ⟨qc, cc, hqc⟩ := h.cash.len
  obtain ⟨qo, co, hqo⟩ := h.outs.len
  obtain ⟨qr, cr, hqr⟩ := h.rfds.len
  obtain ⟨qp, cp, hqp⟩ := h.pleas.len
  dsimp only at hqb hqc hqr hqp hqo
  subst hqb hqc hqr hqp hqo
  have hbay := h.bay
  have htse := h.tse
  dsimp only at hbay
  clear h
  obtain ⟨⟨id, pilot, seats, price, part, norm, guests, weighed, gear, state⟩, gs, lv, rv, sv⟩ := x
  have hgs := hx.gs
  dsimp only at hgs hg hgl ⊢
  have hl := hg.l
  have hr := hg.r
  have hs := hg.s
  dsimp only at hl hr hs
  obtain ⟨q1, c1, e1⟩ := hl.len
  obtain ⟨q2, c2, e2⟩ := hr.len
  obtain ⟨q3, c3, e3⟩ := hs.len
  subst e1 e2 e3
  obtain ⟨q, b, off, cap, e4, hm, hq, hc⟩ := hgs.ex
  subst e4
  clear hgs hx hl hr hs
  obtain ⟨b1, hb1⟩ : ∃ z, inb 0 9999 id = z := ⟨_, rfl⟩
  obtain ⟨b2, hb2⟩ : ∃ z, inb 2 ((m.cash.length : Int) - 1) pilot = z := ⟨_, rfl⟩
  obtain ⟨b3, hb3⟩ : ∃ z, inb 1 3 seats = z := ⟨_, rfl⟩
  obtain ⟨b4, hb4⟩ : ∃ z, inb 0 100000 price = z := ⟨_, rfl⟩
  obtain ⟨b5, hb5⟩ : ∃ z, inb 0 100 part = z := ⟨_, rfl⟩
  obtain ⟨b6, hb6⟩ : ∃ z, normB norm = z := ⟨_, rfl⟩
  obtain ⟨b7, hb7⟩ : ∃ z, decide (state ≤ 2) = z := ⟨_, rfl⟩
  obtain ⟨b8, hb8⟩ : ∃ z, decide ((guests.length : Int) ≤ seats) = z := ⟨_, rfl⟩
  have hfin : outOk m.bay (m.cash.length : Int) ⟨id, pilot, seats, price, part, norm, guests, weighed, gear, state⟩ = ((b1 && (b2 && (b3 && (b4 && b5)))) && (b6 && (b7 && (b8 && (guestsOk (m.cash.length : Int) pilot guests && outRest m.bay ⟨id, pilot, seats, price, part, norm, guests, weighed, gear, state⟩))))) := by
    unfold outOk outHead
    dsimp only
    rw [hb1, hb2, hb3, hb4, hb5, hb6, hb7, hb8]
  have hgo : (∀ j, j < guests.length → gAt (m.cash.length : Int) pilot guests j = true) → guestsOk (m.cash.length : Int) pilot guests = true := fun hh => allN_iff.2 hh
  have hgx : ∀ j, j < guests.length → gAt (m.cash.length : Int) pilot guests j = false → guestsOk (m.cash.length : Int) pilot guests = false := fun j hj hh => allN_false hj hh
  have hrest : outRest m.bay ⟨id, pilot, seats, price, part, norm, guests, weighed, gear, state⟩ = (bif weighed then (decide (0 < guests.length) && (!(state == 2) && gearOk m.bay gear)) else (decide (gear = noGear) && (state == 0 || (state == 2 && decide (guests.length = 0))))) := rfl
  generalize outRest m.bay ⟨id, pilot, seats, price, part, norm, guests, weighed, gear, state⟩ = rest at hfin hrest
  rw [hfin]
  clear hfin
  rw [← htse] at hrest
  clear htse
  generalize m.cash.length = n at *
  have HBAY := Lib.hid hbay
  clear hbay
  have HOK := Lib.hid hok
  clear hok
  have HG := Lib.hid hg
  clear hg
  have HGO := Lib.hid hgo
  clear hgo
  have HGX := Lib.hid hgx
  clear hgx
  have HREST := Lib.hid hrest
  clear hrest
  have B1 := Lib.hid hb1
  clear hb1
  have B2 := Lib.hid hb2
  clear hb2
  have B3 := Lib.hid hb3
  clear hb3
  have B4 := Lib.hid hb4
  clear hb4
  have B5 := Lib.hid hb5
  clear hb5
  have B6 := Lib.hid hb6
  clear hb6
  have HQ := Lib.hid hq
  clear hq
  have HC := Lib.hid hc
  clear hc
  cases b1
  case false =>
    go_enter Tryz.func155, Tryz.ntmps155
    go_wp2_with (first
      | (go_at_call 76; ((with_reducible refine (r10_within_any id 0 9999 _).mono ?_); rintro e w' ⟨rfl, X1, rfl⟩; rw [B1.out]))
      | (go_at_call 76; ((with_reducible refine (r10_within_any pilot 2 ((n : Int) - 1) _).mono ?_); rintro e w' ⟨rfl, X2, rfl⟩; rw [B2.out]))
      | (go_at_call 76; ((with_reducible refine (r10_within_any seats 1 3 _).mono ?_); rintro e w' ⟨rfl, X3, rfl⟩; rw [B3.out]))
      | (go_at_call 76; ((with_reducible refine (r10_within_any price 0 100000 _).mono ?_); rintro e w' ⟨rfl, X4, rfl⟩; rw [B4.out]))
      | (go_at_call 76; ((with_reducible refine (r10_within_any part 0 100 _).mono ?_); rintro e w' ⟨rfl, X5, rfl⟩; rw [B5.out]))
      | (go_at_call 67; refine (r04_Norm_any norm _).mono ?_; rintro e w' ⟨rfl, X6, rfl⟩; rw [B6.out]))
    go_ret
    exact ⟨rfl, exq⟩
  cases b2
  case false =>
    go_enter Tryz.func155, Tryz.ntmps155
    go_wp2_with (first
      | (go_at_call 76; ((with_reducible refine (r10_within_any id 0 9999 _).mono ?_); rintro e w' ⟨rfl, X1, rfl⟩; rw [B1.out]))
      | (go_at_call 76; ((with_reducible refine (r10_within_any pilot 2 ((n : Int) - 1) _).mono ?_); rintro e w' ⟨rfl, X2, rfl⟩; rw [B2.out]))
      | (go_at_call 76; ((with_reducible refine (r10_within_any seats 1 3 _).mono ?_); rintro e w' ⟨rfl, X3, rfl⟩; rw [B3.out]))
      | (go_at_call 76; ((with_reducible refine (r10_within_any price 0 100000 _).mono ?_); rintro e w' ⟨rfl, X4, rfl⟩; rw [B4.out]))
      | (go_at_call 76; ((with_reducible refine (r10_within_any part 0 100 _).mono ?_); rintro e w' ⟨rfl, X5, rfl⟩; rw [B5.out]))
      | (go_at_call 67; refine (r04_Norm_any norm _).mono ?_; rintro e w' ⟨rfl, X6, rfl⟩; rw [B6.out]))
    go_ret
    exact ⟨rfl, exq⟩
  cases b3
  case false =>
    go_enter Tryz.func155, Tryz.ntmps155
    go_wp2_with (first
      | (go_at_call 76; ((with_reducible refine (r10_within_any id 0 9999 _).mono ?_); rintro e w' ⟨rfl, X1, rfl⟩; rw [B1.out]))
      | (go_at_call 76; ((with_reducible refine (r10_within_any pilot 2 ((n : Int) - 1) _).mono ?_); rintro e w' ⟨rfl, X2, rfl⟩; rw [B2.out]))
      | (go_at_call 76; ((with_reducible refine (r10_within_any seats 1 3 _).mono ?_); rintro e w' ⟨rfl, X3, rfl⟩; rw [B3.out]))
      | (go_at_call 76; ((with_reducible refine (r10_within_any price 0 100000 _).mono ?_); rintro e w' ⟨rfl, X4, rfl⟩; rw [B4.out]))
      | (go_at_call 76; ((with_reducible refine (r10_within_any part 0 100 _).mono ?_); rintro e w' ⟨rfl, X5, rfl⟩; rw [B5.out]))
      | (go_at_call 67; refine (r04_Norm_any norm _).mono ?_; rintro e w' ⟨rfl, X6, rfl⟩; rw [B6.out]))
    go_ret
    exact ⟨rfl, exq⟩
  cases b4
  case false =>
    go_enter Tryz.func155, Tryz.ntmps155
    go_wp2_with (first
      | (go_at_call 76; ((with_reducible refine (r10_within_any id 0 9999 _).mono ?_); rintro e w' ⟨rfl, X1, rfl⟩; rw [B1.out]))
      | (go_at_call 76; ((with_reducible refine (r10_within_any pilot 2 ((n : Int) - 1) _).mono ?_); rintro e w' ⟨rfl, X2, rfl⟩; rw [B2.out]))
      | (go_at_call 76; ((with_reducible refine (r10_within_any seats 1 3 _).mono ?_); rintro e w' ⟨rfl, X3, rfl⟩; rw [B3.out]))
      | (go_at_call 76; ((with_reducible refine (r10_within_any price 0 100000 _).mono ?_); rintro e w' ⟨rfl, X4, rfl⟩; rw [B4.out]))
      | (go_at_call 76; ((with_reducible refine (r10_within_any part 0 100 _).mono ?_); rintro e w' ⟨rfl, X5, rfl⟩; rw [B5.out]))
      | (go_at_call 67; refine (r04_Norm_any norm _).mono ?_; rintro e w' ⟨rfl, X6, rfl⟩; rw [B6.out]))
    go_ret
    exact ⟨rfl, exq⟩
  cases b5
  case false =>
    go_enter Tryz.func155, Tryz.ntmps155
    go_wp2_with (first
      | (go_at_call 76; ((with_reducible refine (r10_within_any id 0 9999 _).mono ?_); rintro e w' ⟨rfl, X1, rfl⟩; rw [B1.out]))
      | (go_at_call 76; ((with_reducible refine (r10_within_any pilot 2 ((n : Int) - 1) _).mono ?_); rintro e w' ⟨rfl, X2, rfl⟩; rw [B2.out]))
      | (go_at_call 76; ((with_reducible refine (r10_within_any seats 1 3 _).mono ?_); rintro e w' ⟨rfl, X3, rfl⟩; rw [B3.out]))
      | (go_at_call 76; ((with_reducible refine (r10_within_any price 0 100000 _).mono ?_); rintro e w' ⟨rfl, X4, rfl⟩; rw [B4.out]))
      | (go_at_call 76; ((with_reducible refine (r10_within_any part 0 100 _).mono ?_); rintro e w' ⟨rfl, X5, rfl⟩; rw [B5.out]))
      | (go_at_call 67; refine (r04_Norm_any norm _).mono ?_; rintro e w' ⟨rfl, X6, rfl⟩; rw [B6.out]))
    go_ret
    exact ⟨rfl, exq⟩
  cases b6
  case false =>
    go_enter Tryz.func155, Tryz.ntmps155
    go_wp2_with (first
      | (go_at_call 76; ((with_reducible refine (r10_within_any id 0 9999 _).mono ?_); rintro e w' ⟨rfl, X1, rfl⟩; rw [B1.out]))
      | (go_at_call 76; ((with_reducible refine (r10_within_any pilot 2 ((n : Int) - 1) _).mono ?_); rintro e w' ⟨rfl, X2, rfl⟩; rw [B2.out]))
      | (go_at_call 76; ((with_reducible refine (r10_within_any seats 1 3 _).mono ?_); rintro e w' ⟨rfl, X3, rfl⟩; rw [B3.out]))
      | (go_at_call 76; ((with_reducible refine (r10_within_any price 0 100000 _).mono ?_); rintro e w' ⟨rfl, X4, rfl⟩; rw [B4.out]))
      | (go_at_call 76; ((with_reducible refine (r10_within_any part 0 100 _).mono ?_); rintro e w' ⟨rfl, X5, rfl⟩; rw [B5.out]))
      | (go_at_call 67; refine (r04_Norm_any norm _).mono ?_; rintro e w' ⟨rfl, X6, rfl⟩; rw [B6.out]))
    go_ret
    exact ⟨rfl, exq⟩
  cases b7
  case false =>
    have h7 : 2 < state := by simpa using hb7
    clear hb7
    go_enter Tryz.func155, Tryz.ntmps155
    go_wp2_with (first
      | (go_at_call 76; ((with_reducible refine (r10_within_any id 0 9999 _).mono ?_); rintro e w' ⟨rfl, X1, rfl⟩; rw [B1.out]))
      | (go_at_call 76; ((with_reducible refine (r10_within_any pilot 2 ((n : Int) - 1) _).mono ?_); rintro e w' ⟨rfl, X2, rfl⟩; rw [B2.out]))
      | (go_at_call 76; ((with_reducible refine (r10_within_any seats 1 3 _).mono ?_); rintro e w' ⟨rfl, X3, rfl⟩; rw [B3.out]))
      | (go_at_call 76; ((with_reducible refine (r10_within_any price 0 100000 _).mono ?_); rintro e w' ⟨rfl, X4, rfl⟩; rw [B4.out]))
      | (go_at_call 76; ((with_reducible refine (r10_within_any part 0 100 _).mono ?_); rintro e w' ⟨rfl, X5, rfl⟩; rw [B5.out]))
      | (go_at_call 67; refine (r04_Norm_any norm _).mono ?_; rintro e w' ⟨rfl, X6, rfl⟩; rw [B6.out]))
    go_ret
    exact ⟨rfl, exq⟩
  have h7 : state ≤ 2 := by simpa using hb7
  clear hb7
  cases b8
  case false =>
    have h8 : seats < (guests.length : Int) := by simpa using hb8
    clear hb8
    go_enter Tryz.func155, Tryz.ntmps155
    go_wp2_with (first
      | (go_at_call 76; ((with_reducible refine (r10_within_any id 0 9999 _).mono ?_); rintro e w' ⟨rfl, X1, rfl⟩; rw [B1.out]))
      | (go_at_call 76; ((with_reducible refine (r10_within_any pilot 2 ((n : Int) - 1) _).mono ?_); rintro e w' ⟨rfl, X2, rfl⟩; rw [B2.out]))
      | (go_at_call 76; ((with_reducible refine (r10_within_any seats 1 3 _).mono ?_); rintro e w' ⟨rfl, X3, rfl⟩; rw [B3.out]))
      | (go_at_call 76; ((with_reducible refine (r10_within_any price 0 100000 _).mono ?_); rintro e w' ⟨rfl, X4, rfl⟩; rw [B4.out]))
      | (go_at_call 76; ((with_reducible refine (r10_within_any part 0 100 _).mono ?_); rintro e w' ⟨rfl, X5, rfl⟩; rw [B5.out]))
      | (go_at_call 67; refine (r04_Norm_any norm _).mono ?_; rintro e w' ⟨rfl, X6, rfl⟩; rw [B6.out]))
    go_ret
    exact ⟨rfl, exq⟩
  have h8 : (guests.length : Int) ≤ seats := by simpa using hb8
  clear hb8
  go_enter Tryz.func155, Tryz.ntmps155
  go_wp2_with (first
    | (go_at_call 76; ((with_reducible refine (r10_within_any id 0 9999 _).mono ?_); rintro e w' ⟨rfl, X1, rfl⟩; rw [B1.out]))
    | (go_at_call 76; ((with_reducible refine (r10_within_any pilot 2 ((n : Int) - 1) _).mono ?_); rintro e w' ⟨rfl, X2, rfl⟩; rw [B2.out]))
    | (go_at_call 76; ((with_reducible refine (r10_within_any seats 1 3 _).mono ?_); rintro e w' ⟨rfl, X3, rfl⟩; rw [B3.out]))
    | (go_at_call 76; ((with_reducible refine (r10_within_any price 0 100000 _).mono ?_); rintro e w' ⟨rfl, X4, rfl⟩; rw [B4.out]))
    | (go_at_call 76; ((with_reducible refine (r10_within_any part 0 100 _).mono ?_); rintro e w' ⟨rfl, X5, rfl⟩; rw [B5.out]))
    | (go_at_call 67; refine (r04_Norm_any norm _).mono ?_; rintro e w' ⟨rfl, X6, rfl⟩; rw [B6.out]))
  go_loopw [6] (fun i wr => ∃ k : Nat, k ≤ guests.length ∧ i = .int .i64 k ∧ Hid (∀ j, j < k → gAt (n : Int) pilot guests j = true) ∧ (World.ext _ X6).Exts wr) (fun i _ => guests.length - (intOf i).toNat)
  case atStart => exact ⟨0, Nat.zero_le _, rfl, Lib.hid (fun j hj => by omega), exq⟩
  case round =>
    obtain ⟨k, hk, rfl, HA, hE⟩ := hrel
    obtain ⟨X7, rfl⟩ := hE
    rcases Nat.lt_or_ge k guests.length with hlt | hge
    · obtain ⟨rfl, hlay⟩ := HQ.out (by omega)
      obtain ⟨y, hy⟩ := some_of_lt hlt
      have c0 := HC.out k y hy 0 _ rfl
      simp only [Nat.mul_one, Nat.add_zero] at c0
      obtain ⟨g1, hg1⟩ : ∃ z, inb 2 ((n : Int) - 1) y = z := ⟨_, rfl⟩
      obtain ⟨g3, hg3⟩ : ∃ z, (y == pilot) = z := ⟨_, rfl⟩
      have hg4 : decide (y = pilot) = g3 := by rw [← hg3]; rfl
      have hxk := HGX.out k hlt
      have hgA : gAt (n : Int) pilot guests k = ((g1 && (decide (k = 0) || decide (guests.getD (k - 1) 0 < y))) && !g3) := by unfold gAt; rw [getD_of hy, hg1, hg3]
      have HG3 := Lib.hid hg3
      clear hg3
      have HG4 := Lib.hid hg4
      clear hg4
      have HG1 := Lib.hid hg1
      clear hg1
      cases g1
      case false =>
        have hbad := hxk (by rw [hgA]; rfl)
        have HBAD := Lib.hid hbad
        clear hbad
        clear hxk hgA hy
        go_wp2_with fail
        refine wp_region_ext (by kernel_rfl) (by kernel_rfl) ?_
        repeat (go_big_quiet_step ((go_at_call 76; exact Calls.in_ext_eq (r10_within_any y 2 ((n : Int) - 1) _) (congrArg Value.bool HG1.out))))
        refine wpQuiet_nil ?_
        rintro _ ⟨X, rfl⟩
        go_wp2_with fail
        go_ret
        exact ⟨by rw [HBAD.out]; rfl, exq⟩
      rcases Nat.eq_zero_or_pos k with hk0 | hk0
      · have d6 : ¬ 0 < k := by omega
        have hgA0 : gAt (n : Int) pilot guests k = !g3 := by rw [hgA, hk0]; rfl
        clear hk0 hgA
        cases g3
        case true =>
          have hbad := hxk (by rw [hgA0]; rfl)
          have HBAD := Lib.hid hbad
          clear hbad
          clear hxk hgA0 hy
          go_wp2_with fail
          refine wp_region_ext (by kernel_rfl) (by kernel_rfl) ?_
          repeat (go_big_quiet_step ((go_at_call 76; exact Calls.in_ext_eq (r10_within_any y 2 ((n : Int) - 1) _) (congrArg Value.bool HG1.out))))
          refine wpQuiet_nil ?_
          rintro _ ⟨X, rfl⟩
          have hg4 := HG4.out; have hg3 := HG3.out
          go_wp2_with fail
          go_ret
          exact ⟨by rw [HBAD.out]; rfl, exq⟩
        have hgood : ∀ j, j < k + 1 → gAt (n : Int) pilot guests j = true := below_snoc HA.out (by rw [hgA0]; rfl)
        have HGOOD := Lib.hid hgood
        clear hgood
        clear hxk hgA0 hy
        go_wp2_with fail
        refine wp_region_ext (by kernel_rfl) (by kernel_rfl) ?_
        repeat (go_big_quiet_step ((go_at_call 76; exact Calls.in_ext_eq (r10_within_any y 2 ((n : Int) - 1) _) (congrArg Value.bool HG1.out))))
        refine wpQuiet_nil ?_
        rintro _ ⟨X, rfl⟩
        have hg4 := HG4.out; have hg3 := HG3.out
        go_wp2_with fail
        go_roundw
        case rel => exact ⟨k + 1, by omega, by go_num, HGOOD, exq⟩
        case measure => simp [intOf]; omega
      · obtain ⟨z, hz⟩ := some_of_lt (show k - 1 < guests.length by omega)
        have d0 := HC.out (k - 1) z hz 0 _ rfl
        simp only [Nat.mul_one, Nat.add_zero] at d0
        rw [getD_of hz] at hgA
        have hk1 : decide (k = 0) = false := by simp; omega
        rw [hk1] at hgA
        clear hk1
        rcases Int.lt_or_le z y with hzy | hzy
        · rw [decide_eq_true hzy] at hgA
          have d5 : decide (y ≤ z) = false := by simp; omega
          cases g3
          case true =>
            have hbad := hxk (by rw [hgA]; rfl)
            have HBAD := Lib.hid hbad
            clear hbad
            clear hxk hgA hy hz
            go_wp2_with fail
            refine wp_region_ext (by kernel_rfl) (by kernel_rfl) ?_
            repeat (go_big_quiet_step ((go_at_call 76; exact Calls.in_ext_eq (r10_within_any y 2 ((n : Int) - 1) _) (congrArg Value.bool HG1.out))))
            refine wpQuiet_nil ?_
            rintro _ ⟨X, rfl⟩
            have hg4 := HG4.out; have hg3 := HG3.out
            go_wp2_with fail
            go_ret
            exact ⟨by rw [HBAD.out]; rfl, exq⟩
          have hgood : ∀ j, j < k + 1 → gAt (n : Int) pilot guests j = true := below_snoc HA.out (by rw [hgA]; rfl)
          have HGOOD := Lib.hid hgood
          clear hgood
          clear hxk hgA hy hz
          go_wp2_with fail
          refine wp_region_ext (by kernel_rfl) (by kernel_rfl) ?_
          repeat (go_big_quiet_step ((go_at_call 76; exact Calls.in_ext_eq (r10_within_any y 2 ((n : Int) - 1) _) (congrArg Value.bool HG1.out))))
          refine wpQuiet_nil ?_
          rintro _ ⟨X, rfl⟩
          have hg4 := HG4.out; have hg3 := HG3.out
          go_wp2_with fail
          go_roundw
          case rel => exact ⟨k + 1, by omega, by go_num, HGOOD, exq⟩
          case measure => simp [intOf]; omega
        · rw [decide_eq_false (by omega)] at hgA
          have hbad := hxk (by rw [hgA]; rfl)
          have HBAD := Lib.hid hbad
          clear hbad
          clear hxk hgA hy hz
          go_wp2_with fail
          refine wp_region_ext (by kernel_rfl) (by kernel_rfl) ?_
          repeat (go_big_quiet_step ((go_at_call 76; exact Calls.in_ext_eq (r10_within_any y 2 ((n : Int) - 1) _) (congrArg Value.bool HG1.out))))
          refine wpQuiet_nil ?_
          rintro _ ⟨X, rfl⟩
          go_wp2_with fail
          go_ret
          exact ⟨by rw [HBAD.out]; rfl, exq⟩
    · have hkn : k = guests.length := by omega
      have hA := HA.out
      rw [hkn] at hA
      have hgu := HGO.out hA
      have hrest := HREST.out
      have HGU := Lib.hid hgu
      clear hgu
      clear hA HA
      cases weighed
      · obtain ⟨a1, ha1⟩ : ∃ z, decide (gear = noGear) = z := ⟨_, rfl⟩
        simp only [cond_false, ha1] at hrest
        have HA1 := Lib.hid ha1
        clear ha1
        cases a1
        case false =>
          have HR9 := Lib.hid hrest
          clear hrest
          go_wp2_with (go_at_call 19; refine (r04_SameGear_none gear _ _ _ _ (HG.out.mono exq)).mono ?_; rintro e w' ⟨rfl, X8, rfl⟩; rw [HA1.out])
          go_ret
          exact ⟨by rw [HGU.out, HR9.out]; first | rfl | (simp; done) | (simp; intro hh; exact hg0 (by rw [hh]; rfl)), exq⟩
        by_cases hs0 : state = 0
        · subst hs0
          have HR9 := Lib.hid hrest
          clear hrest
          go_wp2_with (go_at_call 19; refine (r04_SameGear_none gear _ _ _ _ (HG.out.mono exq)).mono ?_; rintro e w' ⟨rfl, X8, rfl⟩; rw [HA1.out])
          go_ret
          exact ⟨by rw [HGU.out, HR9.out]; first | rfl | (simp; done) | (simp; intro hh; exact hg0 (by rw [hh]; rfl)), exq⟩
        · have s1 : (state == 0) = false := by simpa using hs0
          have s2 : decide (state = 0) = false := by simpa using hs0
          rw [s1] at hrest
          by_cases hs2 : state = 2
          · subst hs2
            by_cases hg0 : guests.length = 0
            · rw [decide_eq_true hg0] at hrest
              have hg9 : (guests.length : Int) = 0 := by omega
              have HR9 := Lib.hid hrest
              clear hrest
              go_wp2_with (go_at_call 19; refine (r04_SameGear_none gear _ _ _ _ (HG.out.mono exq)).mono ?_; rintro e w' ⟨rfl, X8, rfl⟩; rw [HA1.out])
              go_ret
              exact ⟨by rw [HGU.out, HR9.out]; first | rfl | (simp; done) | (simp; intro hh; exact hg0 (by rw [hh]; rfl)), exq⟩
            · rw [decide_eq_false hg0] at hrest
              have hg9 : ¬ (guests.length : Int) = 0 := by omega
              have HR9 := Lib.hid hrest
              clear hrest
              go_wp2_with (go_at_call 19; refine (r04_SameGear_none gear _ _ _ _ (HG.out.mono exq)).mono ?_; rintro e w' ⟨rfl, X8, rfl⟩; rw [HA1.out])
              go_ret
              exact ⟨by rw [HGU.out, HR9.out]; first | rfl | (simp; done) | (simp; intro hh; exact hg0 (by rw [hh]; rfl)), exq⟩
          · have s3 : (state == 2) = false := by simpa using hs2
            have s4 : decide (state = 2) = false := by simpa using hs2
            rw [s3] at hrest
            have HR9 := Lib.hid hrest
            clear hrest
            go_wp2_with (go_at_call 19; refine (r04_SameGear_none gear _ _ _ _ (HG.out.mono exq)).mono ?_; rintro e w' ⟨rfl, X8, rfl⟩; rw [HA1.out])
            go_ret
            exact ⟨by rw [HGU.out, HR9.out]; first | rfl | (simp; done) | (simp; intro hh; exact hg0 (by rw [hh]; rfl)), exq⟩
      · simp only [cond_true] at hrest
        rcases Nat.eq_zero_or_pos guests.length with hg0 | hg0
        · rw [decide_eq_false (by omega)] at hrest
          have hg9 : (guests.length : Int) = 0 := by omega
          have HR9 := Lib.hid hrest
          clear hrest
          go_wp2_with fail
          go_ret
          exact ⟨by rw [HGU.out, HR9.out]; first | rfl | (simp; done) | (simp; intro hh; exact hg0 (by rw [hh]; rfl)), exq⟩
        · rw [decide_eq_true hg0] at hrest
          have hg9 : (0 : Int) < (guests.length : Int) := by omega
          by_cases hs2 : state = 2
          · subst hs2
            have HR9 := Lib.hid hrest
            clear hrest
            go_wp2_with fail
            go_ret
            exact ⟨by rw [HGU.out, HR9.out]; first | rfl | (simp; done) | (simp; intro hh; exact hg0 (by rw [hh]; rfl)), exq⟩
          · have s3 : (state == 2) = false := by simpa using hs2
            have s4 : decide (state = 2) = false := by simpa using hs2
            rw [s3] at hrest
            have HR9 := Lib.hid hrest
            clear hrest
            go_wp2_with (go_at_call 109; refine (r04_Gear_any ts _ gear _ _ _ _ (HBAY.out.mono exq) HOK.out (HG.out.l.mono exq) (HG.out.r.mono exq) (HG.out.s.mono exq)).mono ?_; rintro e w' ⟨rfl, X8, rfl⟩)
            go_ret
            exact ⟨by rw [HGU.out, HR9.out]; simp [Array.getD]; try (intros; assumption), exq⟩
end Go.Proofs.YtihkmkocgmkcjaaGreatDoor
