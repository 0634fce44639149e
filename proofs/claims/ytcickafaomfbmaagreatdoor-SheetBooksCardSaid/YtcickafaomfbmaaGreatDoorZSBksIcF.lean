/-
  Several texts in one: see the heads of its parts.
-/

import Derived.Test.YtcickafaomfbmaaGreatDoorZSBksIbR
import Derived.Test.YtcickafaomfbmaaGreatDoorZSBksGiK
import Derived.WalkMore
/-
  Walks of the reference of tracks: Track, Check.
-/
namespace Go.Proofs.YtcickafaomfbmaaGreatDoor
open Go.RowKit Kr
set_option linter.unusedSimpArgs false
set_option linter.unusedVariables false

set_option maxRecDepth 4000 in
set_option maxHeartbeats 20000000 in
theorem r01_Track_any (t : List Kr.Stretch) (v : Value) (w : World) (hrow : IsRow (fun s : Kr.Stretch => [.int .i64 s.id, .int .i64 s.long.lo, .int .i64 s.long.hi, .int .i64 s.fall.lo, .int .i64 s.fall.hi, .int .i64 s.radius.lo, .int .i64 s.radius.hi, .int .u8 s.side, .int .i64 s.wall]) 9 w v t) :
    Calls Tryz.prog 51 #[.agg #[v]] w fun e w' => e = .returned (.bool (trackB t)) ∧ w.Exts w' := by
  obtain ⟨p, b, o, cap, rfl, hm, hp, hc⟩ := hrow.ex
  clear hrow
  have HP := Lib.hid hp
  clear hp
  have HC := Lib.hid hc
  clear hc
  obtain ⟨b0, hb0⟩ : ∃ z, inb 1 12 (t.length : Int) = z := ⟨_, rfl⟩
  have hf : trackB t = (b0 && allN (strAt t) t.length) := by unfold trackB; rw [hb0]
  have hgo : (∀ j, j < t.length → strAt t j = true) → allN (strAt t) t.length = true := fun hh => allN_iff.2 hh
  have hgx : ∀ j, j < t.length → strAt t j = false → allN (strAt t) t.length = false := fun j hj hh => allN_false hj hh
  generalize allN (strAt t) t.length = an at hf hgo hgx
  have HB0 := Lib.hid hb0
  clear hb0
  have HF := Lib.hid hf
  clear hf
  have HGO := Lib.hid hgo
  clear hgo
  have HGX := Lib.hid hgx
  clear hgx
  cases b0
  case false =>
    go_enter Tryz.func51, Tryz.ntmps51
    go_wp2_with (go_at_call 102; refine (r01_within_any (t.length : Int) 1 12 _).mono ?_; rintro e w' ⟨rfl, X2, rfl⟩; rw [HB0.out])
    go_ret
    exact ⟨by rw [HF.out]; rfl, exq⟩
  go_enter Tryz.func51, Tryz.ntmps51
  go_wp2_with (go_at_call 102; refine (r01_within_any (t.length : Int) 1 12 _).mono ?_; rintro e w' ⟨rfl, X2, rfl⟩; rw [HB0.out])
  go_loopw [3] (fun i wr => ∃ k : Nat, k ≤ t.length ∧ i = .int .i64 k ∧ Hid (∀ j, j < k → strAt t j = true) ∧ (World.ext _ X2).Exts wr) (fun i _ => t.length - (intOf i).toNat)
  case atStart => exact ⟨0, Nat.zero_le _, rfl, Lib.hid (fun j hj => by omega), exq⟩
  case round =>
    obtain ⟨k, hk, rfl, HA, hE⟩ := hrel
    obtain ⟨X3, rfl⟩ := hE
    rcases Nat.lt_or_ge k t.length with hlt | hge
    · obtain ⟨rfl, hlay⟩ := HP.out (by omega)
      obtain ⟨⟨id, ⟨llo, lhi⟩, ⟨flo, fhi⟩, ⟨rlo, rhi⟩, side, wall⟩, hx⟩ := some_of_lt hlt
      have hcs := HC.out k _ hx
      dsimp only at hcs
      have hxk := HGX.out k hlt
      obtain ⟨b1, ha1⟩ : ∃ z, inb 0 9999 id = z := ⟨_, rfl⟩
      obtain ⟨b3, ha3⟩ : ∃ z, ordered ⟨llo, lhi⟩ 1 30000 = z := ⟨_, rfl⟩
      obtain ⟨b4, ha4⟩ : ∃ z, ordered ⟨flo, fhi⟩ 0 5000 = z := ⟨_, rfl⟩
      obtain ⟨b5, ha5⟩ : ∃ z, inb 0 5000 wall = z := ⟨_, rfl⟩
      have hgA : strAt t k = (b1 && ((decide (k = 0) || decide ((t.getD (k - 1) default).id < id)) && ((b3 && (b4 && b5)) && sideOk ⟨id, ⟨llo, lhi⟩, ⟨flo, fhi⟩, ⟨rlo, rhi⟩, side, wall⟩))) := by
        unfold strAt strHead
        rw [getD_of hx]
        dsimp only
        rw [ha1, ha3, ha4, ha5]
      have HA1 := Lib.hid ha1
      clear ha1
      have HA3 := Lib.hid ha3
      clear ha3
      have HA4 := Lib.hid ha4
      clear ha4
      have HA5 := Lib.hid ha5
      clear ha5
      have HCS := Lib.hid hcs
      clear hcs
      have w2 : (k : Int) < (t.length : Int) := by omega
      rcases Nat.eq_zero_or_pos k with hk0 | hk0
      · have w3 : ¬ (0 : Int) < (k : Int) := by omega
        have w5 : ¬ 0 < k := by omega
        rw [decide_eq_true hk0, Bool.true_or, Bool.true_and] at hgA
        clear hx hk0
        cases b1
        case false =>
          have hbad := hxk (by rw [hgA]; rfl)
          have HBAD := Lib.hid hbad
          clear hbad
          clear hxk hgA
          go_wp2_with (first
            | (refine wpList_load_mid rfl 169 _ rfl b (o + k * 9) rfl [.int .i64 id, .int .i64 llo, .int .i64 lhi, .int .i64 flo, .int .i64 fhi, .int .i64 rlo, .int .i64 rhi, .int .u8 side, .int .i64 wall] _ (fun j u hju => World.Exts.cell (a := w) exq (HCS.out j u hju)) Tryz.underlying169 rfl (by kernel_rfl) ?_)
            | (refine wpList_store_new (t := 169) (cells := #[.int .i64 id, .int .i64 llo, .int .i64 lhi, .int .i64 flo, .int .i64 fhi, .int .i64 rlo, .int .i64 rhi, .int .u8 side, .int .i64 wall]) (by rfl) (by rfl) (by kernel_rfl) (by rfl) (by simp [Value.oneCell']) ?_))
          refine wp_region_ext (by kernel_rfl) (by kernel_rfl) ?_
          repeat (go_big_quiet_step ((first
            | (go_at_call 102; first | (with_reducible exact Calls.in_ext_eq (r01_within_any id 0 9999 _) (congrArg Value.bool HA1.out)) | (with_reducible exact Calls.in_ext_eq (r01_within_any wall 0 5000 _) (congrArg Value.bool HA5.out)))
            | (go_at_call 103; first | (with_reducible exact Calls.in_ext_eq (r01_span_any ⟨llo, lhi⟩ 1 30000 _) (congrArg Value.bool HA3.out)) | (with_reducible exact Calls.in_ext_eq (r01_span_any ⟨flo, fhi⟩ 0 5000 _) (congrArg Value.bool HA4.out))))))
          refine wpQuiet_nil ?_
          rintro _ ⟨X, rfl⟩
          go_wp2_with fail
          go_ret
          exact ⟨by rw [HF.out, HBAD.out]; simp, exq⟩
        cases b3
        case false =>
          have hbad := hxk (by rw [hgA]; simp)
          have HBAD := Lib.hid hbad
          clear hbad
          clear hxk hgA
          go_wp2_with (first
            | (refine wpList_load_mid rfl 169 _ rfl b (o + k * 9) rfl [.int .i64 id, .int .i64 llo, .int .i64 lhi, .int .i64 flo, .int .i64 fhi, .int .i64 rlo, .int .i64 rhi, .int .u8 side, .int .i64 wall] _ (fun j u hju => World.Exts.cell (a := w) exq (HCS.out j u hju)) Tryz.underlying169 rfl (by kernel_rfl) ?_)
            | (refine wpList_store_new (t := 169) (cells := #[.int .i64 id, .int .i64 llo, .int .i64 lhi, .int .i64 flo, .int .i64 fhi, .int .i64 rlo, .int .i64 rhi, .int .u8 side, .int .i64 wall]) (by rfl) (by rfl) (by kernel_rfl) (by rfl) (by simp [Value.oneCell']) ?_))
          refine wp_region_ext (by kernel_rfl) (by kernel_rfl) ?_
          repeat (go_big_quiet_step ((first
            | (go_at_call 102; first | (with_reducible exact Calls.in_ext_eq (r01_within_any id 0 9999 _) (congrArg Value.bool HA1.out)) | (with_reducible exact Calls.in_ext_eq (r01_within_any wall 0 5000 _) (congrArg Value.bool HA5.out)))
            | (go_at_call 103; first | (with_reducible exact Calls.in_ext_eq (r01_span_any ⟨llo, lhi⟩ 1 30000 _) (congrArg Value.bool HA3.out)) | (with_reducible exact Calls.in_ext_eq (r01_span_any ⟨flo, fhi⟩ 0 5000 _) (congrArg Value.bool HA4.out))))))
          refine wpQuiet_nil ?_
          rintro _ ⟨X, rfl⟩
          go_wp2_with fail
          go_ret
          exact ⟨by rw [HF.out, HBAD.out]; simp, exq⟩
        cases b4
        case false =>
          have hbad := hxk (by rw [hgA]; simp)
          have HBAD := Lib.hid hbad
          clear hbad
          clear hxk hgA
          go_wp2_with (first
            | (refine wpList_load_mid rfl 169 _ rfl b (o + k * 9) rfl [.int .i64 id, .int .i64 llo, .int .i64 lhi, .int .i64 flo, .int .i64 fhi, .int .i64 rlo, .int .i64 rhi, .int .u8 side, .int .i64 wall] _ (fun j u hju => World.Exts.cell (a := w) exq (HCS.out j u hju)) Tryz.underlying169 rfl (by kernel_rfl) ?_)
            | (refine wpList_store_new (t := 169) (cells := #[.int .i64 id, .int .i64 llo, .int .i64 lhi, .int .i64 flo, .int .i64 fhi, .int .i64 rlo, .int .i64 rhi, .int .u8 side, .int .i64 wall]) (by rfl) (by rfl) (by kernel_rfl) (by rfl) (by simp [Value.oneCell']) ?_))
          refine wp_region_ext (by kernel_rfl) (by kernel_rfl) ?_
          repeat (go_big_quiet_step ((first
            | (go_at_call 102; first | (with_reducible exact Calls.in_ext_eq (r01_within_any id 0 9999 _) (congrArg Value.bool HA1.out)) | (with_reducible exact Calls.in_ext_eq (r01_within_any wall 0 5000 _) (congrArg Value.bool HA5.out)))
            | (go_at_call 103; first | (with_reducible exact Calls.in_ext_eq (r01_span_any ⟨llo, lhi⟩ 1 30000 _) (congrArg Value.bool HA3.out)) | (with_reducible exact Calls.in_ext_eq (r01_span_any ⟨flo, fhi⟩ 0 5000 _) (congrArg Value.bool HA4.out))))))
          refine wpQuiet_nil ?_
          rintro _ ⟨X, rfl⟩
          go_wp2_with fail
          go_ret
          exact ⟨by rw [HF.out, HBAD.out]; simp, exq⟩
        cases b5
        case false =>
          have hbad := hxk (by rw [hgA]; simp)
          have HBAD := Lib.hid hbad
          clear hbad
          clear hxk hgA
          go_wp2_with (first
            | (refine wpList_load_mid rfl 169 _ rfl b (o + k * 9) rfl [.int .i64 id, .int .i64 llo, .int .i64 lhi, .int .i64 flo, .int .i64 fhi, .int .i64 rlo, .int .i64 rhi, .int .u8 side, .int .i64 wall] _ (fun j u hju => World.Exts.cell (a := w) exq (HCS.out j u hju)) Tryz.underlying169 rfl (by kernel_rfl) ?_)
            | (refine wpList_store_new (t := 169) (cells := #[.int .i64 id, .int .i64 llo, .int .i64 lhi, .int .i64 flo, .int .i64 fhi, .int .i64 rlo, .int .i64 rhi, .int .u8 side, .int .i64 wall]) (by rfl) (by rfl) (by kernel_rfl) (by rfl) (by simp [Value.oneCell']) ?_))
          refine wp_region_ext (by kernel_rfl) (by kernel_rfl) ?_
          repeat (go_big_quiet_step ((first
            | (go_at_call 102; first | (with_reducible exact Calls.in_ext_eq (r01_within_any id 0 9999 _) (congrArg Value.bool HA1.out)) | (with_reducible exact Calls.in_ext_eq (r01_within_any wall 0 5000 _) (congrArg Value.bool HA5.out)))
            | (go_at_call 103; first | (with_reducible exact Calls.in_ext_eq (r01_span_any ⟨llo, lhi⟩ 1 30000 _) (congrArg Value.bool HA3.out)) | (with_reducible exact Calls.in_ext_eq (r01_span_any ⟨flo, fhi⟩ 0 5000 _) (congrArg Value.bool HA4.out))))))
          refine wpQuiet_nil ?_
          rintro _ ⟨X, rfl⟩
          go_wp2_with fail
          go_ret
          exact ⟨by rw [HF.out, HBAD.out]; simp, exq⟩
        have HGA := Lib.hid hgA
        clear hgA
        have HXK := Lib.hid hxk
        clear hxk
        go_wp2_with (first
          | (refine wpList_load_mid rfl 169 _ rfl b (o + k * 9) rfl [.int .i64 id, .int .i64 llo, .int .i64 lhi, .int .i64 flo, .int .i64 fhi, .int .i64 rlo, .int .i64 rhi, .int .u8 side, .int .i64 wall] _ (fun j u hju => World.Exts.cell (a := w) exq (HCS.out j u hju)) Tryz.underlying169 rfl (by kernel_rfl) ?_)
          | (refine wpList_store_new (t := 169) (cells := #[.int .i64 id, .int .i64 llo, .int .i64 lhi, .int .i64 flo, .int .i64 fhi, .int .i64 rlo, .int .i64 rhi, .int .u8 side, .int .i64 wall]) (by rfl) (by rfl) (by kernel_rfl) (by rfl) (by simp [Value.oneCell']) ?_))
        refine wp_region_ext (by kernel_rfl) (by kernel_rfl) ?_
        repeat (go_big_quiet_step ((first
          | (go_at_call 102; first | (with_reducible exact Calls.in_ext_eq (r01_within_any id 0 9999 _) (congrArg Value.bool HA1.out)) | (with_reducible exact Calls.in_ext_eq (r01_within_any wall 0 5000 _) (congrArg Value.bool HA5.out)))
          | (go_at_call 103; first | (with_reducible exact Calls.in_ext_eq (r01_span_any ⟨llo, lhi⟩ 1 30000 _) (congrArg Value.bool HA3.out)) | (with_reducible exact Calls.in_ext_eq (r01_span_any ⟨flo, fhi⟩ 0 5000 _) (congrArg Value.bool HA4.out))))))
        refine wpQuiet_nil ?_
        rintro _ ⟨X, rfl⟩
        have hgA := HGA.out
        have hxk := HXK.out
        clear HGA HXK
        by_cases s0 : side = 0
        · have t0 : (side == 0) = true := by simpa using s0
          have u0 : decide (side = 0) = true := by simpa using s0
          have v0 : (side != 0) = false := by simp [bne, t0]
          by_cases r1 : rlo = 0
          · by_cases r2 : rhi = 0
            · have hso : sideOk ⟨id, ⟨llo, lhi⟩, ⟨flo, fhi⟩, ⟨rlo, rhi⟩, side, wall⟩ = true := by unfold sideOk; simp [s0, r1, r2]
              rw [hso] at hgA
              clear hso
              have a1 : (rlo != 0) = false := by simp [bne, r1]
              have a2 : decide (rlo = 0) = true := by simpa using r1
              have a3 : (rhi != 0) = false := by simp [bne, r2]
              have a4 : decide (rhi = 0) = true := by simpa using r2
              have hgood : ∀ j, j < k + 1 → strAt t j = true := below_snoc HA.out (by rw [hgA]; rfl)
              have HGOOD := Lib.hid hgood
              clear hgood
              clear hxk hgA
              clear s0 r1 r2
              go_wp2_with fail
              go_roundw
              case rel => exact ⟨k + 1, by omega, by go_num, HGOOD, exq⟩
              case measure => simp [intOf]; omega
            · have hso : sideOk ⟨id, ⟨llo, lhi⟩, ⟨flo, fhi⟩, ⟨rlo, rhi⟩, side, wall⟩ = false := by unfold sideOk; simp [s0, r1, r2]
              rw [hso] at hgA
              clear hso
              have a1 : (rlo != 0) = false := by simp [bne, r1]
              have a2 : decide (rlo = 0) = true := by simpa using r1
              have a3 : (rhi != 0) = true := by simpa using r2
              have a4 : decide (rhi = 0) = false := by simpa using r2
              have hbad := hxk (by rw [hgA]; simp)
              have HBAD := Lib.hid hbad
              clear hbad
              clear hxk hgA
              clear s0 r1 r2
              go_wp2_with fail
              go_ret
              exact ⟨by rw [HF.out, HBAD.out]; simp, exq⟩
          · have hso : sideOk ⟨id, ⟨llo, lhi⟩, ⟨flo, fhi⟩, ⟨rlo, rhi⟩, side, wall⟩ = false := by unfold sideOk; simp [s0, r1]
            rw [hso] at hgA
            clear hso
            have a1 : (rlo != 0) = true := by simpa using r1
            have a2 : decide (rlo = 0) = false := by simpa using r1
            have hbad := hxk (by rw [hgA]; simp)
            have HBAD := Lib.hid hbad
            clear hbad
            clear hxk hgA
            clear s0 r1
            go_wp2_with fail
            go_ret
            exact ⟨by rw [HF.out, HBAD.out]; simp, exq⟩
        obtain ⟨b6, ha6⟩ : ∃ z, ordered ⟨rlo, rhi⟩ 500 20000 = z := ⟨_, rfl⟩
        have t0 : (side == 0) = false := by simpa using s0
        have u0 : decide (side = 0) = false := by simpa using s0
        have v0 : (side != 0) = true := by simp [bne, t0]
        by_cases s1 : side = 1
        · have hso : sideOk ⟨id, ⟨llo, lhi⟩, ⟨flo, fhi⟩, ⟨rlo, rhi⟩, side, wall⟩ = b6 := by unfold sideOk; simp [s0, s1, ha6]
          rw [hso] at hgA
          have HA6 := Lib.hid ha6
          clear ha6
          clear hso
          have t1 : (side == 1) = true := by simpa using s1
          have u1 : decide (side = 1) = true := by simpa using s1
          have v1 : (side != 1) = false := by simp [bne, t1]
          clear s0 s1
          cases b6
          · have hbad := hxk (by rw [hgA]; simp)
            have HBAD := Lib.hid hbad
            clear hbad
            clear hxk hgA
            go_wp2_with (go_at_call 103; refine (r01_span_any ⟨rlo, rhi⟩ 500 20000 _).mono ?_; rintro e w' ⟨rfl, X9, rfl⟩; rw [HA6.out])
            go_ret
            exact ⟨by rw [HF.out, HBAD.out]; simp, exq⟩
          · have hgood : ∀ j, j < k + 1 → strAt t j = true := below_snoc HA.out (by rw [hgA]; rfl)
            have HGOOD := Lib.hid hgood
            clear hgood
            clear hxk hgA
            go_wp2_with (go_at_call 103; refine (r01_span_any ⟨rlo, rhi⟩ 500 20000 _).mono ?_; rintro e w' ⟨rfl, X9, rfl⟩; rw [HA6.out])
            go_roundw
            case rel => exact ⟨k + 1, by omega, by go_num, HGOOD, exq⟩
            case measure => simp [intOf]; omega
        by_cases s2 : side = 2
        · have hso : sideOk ⟨id, ⟨llo, lhi⟩, ⟨flo, fhi⟩, ⟨rlo, rhi⟩, side, wall⟩ = b6 := by unfold sideOk; simp [s2, ha6]
          rw [hso] at hgA
          have HA6 := Lib.hid ha6
          clear ha6
          clear hso
          have t1 : (side == 1) = false := by simpa using s1
          have u1 : decide (side = 1) = false := by simpa using s1
          have v1 : (side != 1) = true := by simp [bne, t1]
          have t2 : (side == 2) = true := by simpa using s2
          have u2 : decide (side = 2) = true := by simpa using s2
          have v2 : (side != 2) = false := by simp [bne, t2]
          clear s0 s1 s2
          cases b6
          · have hbad := hxk (by rw [hgA]; simp)
            have HBAD := Lib.hid hbad
            clear hbad
            clear hxk hgA
            go_wp2_with (go_at_call 103; refine (r01_span_any ⟨rlo, rhi⟩ 500 20000 _).mono ?_; rintro e w' ⟨rfl, X9, rfl⟩; rw [HA6.out])
            go_ret
            exact ⟨by rw [HF.out, HBAD.out]; simp, exq⟩
          · have hgood : ∀ j, j < k + 1 → strAt t j = true := below_snoc HA.out (by rw [hgA]; rfl)
            have HGOOD := Lib.hid hgood
            clear hgood
            clear hxk hgA
            go_wp2_with (go_at_call 103; refine (r01_span_any ⟨rlo, rhi⟩ 500 20000 _).mono ?_; rintro e w' ⟨rfl, X9, rfl⟩; rw [HA6.out])
            go_roundw
            case rel => exact ⟨k + 1, by omega, by go_num, HGOOD, exq⟩
            case measure => simp [intOf]; omega
        · have hso : sideOk ⟨id, ⟨llo, lhi⟩, ⟨flo, fhi⟩, ⟨rlo, rhi⟩, side, wall⟩ = false := by unfold sideOk; simp [s0, s1, s2]
          rw [hso] at hgA
          clear hso ha6
          have t1 : (side == 1) = false := by simpa using s1
          have u1 : decide (side = 1) = false := by simpa using s1
          have v1 : (side != 1) = true := by simp [bne, t1]
          have t2 : (side == 2) = false := by simpa using s2
          have u2 : decide (side = 2) = false := by simpa using s2
          have v2 : (side != 2) = true := by simp [bne, t2]
          have hbad := hxk (by rw [hgA]; simp)
          have HBAD := Lib.hid hbad
          clear hbad
          clear hxk hgA
          clear s0 s1 s2
          go_wp2_with fail
          go_ret
          exact ⟨by rw [HF.out, HBAD.out]; simp, exq⟩
      · obtain ⟨y, hy⟩ := some_of_lt (show k - 1 < t.length by omega)
        have d0 := HC.out (k - 1) y hy 0 _ rfl
        simp only [Nat.add_zero] at d0
        rw [getD_of hy, show decide (k = 0) = false by simp; omega, Bool.false_or] at hgA
        have w3 : (0 : Int) < (k : Int) := by omega
        have w4 : (k : Int) - 1 < (t.length : Int) := by omega
        clear hx hy
        rcases Int.lt_or_le y.id id with hyz | hyz
        · rw [decide_eq_true hyz, Bool.true_and] at hgA
          have d5 : decide (id ≤ y.id) = false := by simp; omega
          cases b1
          case false =>
            have hbad := hxk (by rw [hgA]; rfl)
            have HBAD := Lib.hid hbad
            clear hbad
            clear hxk hgA
            go_wp2_with (first
              | (refine wpList_load_mid rfl 169 _ rfl b (o + k * 9) rfl [.int .i64 id, .int .i64 llo, .int .i64 lhi, .int .i64 flo, .int .i64 fhi, .int .i64 rlo, .int .i64 rhi, .int .u8 side, .int .i64 wall] _ (fun j u hju => World.Exts.cell (a := w) exq (HCS.out j u hju)) Tryz.underlying169 rfl (by kernel_rfl) ?_)
              | (refine wpList_store_new (t := 169) (cells := #[.int .i64 id, .int .i64 llo, .int .i64 lhi, .int .i64 flo, .int .i64 fhi, .int .i64 rlo, .int .i64 rhi, .int .u8 side, .int .i64 wall]) (by rfl) (by rfl) (by kernel_rfl) (by rfl) (by simp [Value.oneCell']) ?_))
            refine wp_region_ext (by kernel_rfl) (by kernel_rfl) ?_
            repeat (go_big_quiet_step ((first
              | (go_at_call 102; first | (with_reducible exact Calls.in_ext_eq (r01_within_any id 0 9999 _) (congrArg Value.bool HA1.out)) | (with_reducible exact Calls.in_ext_eq (r01_within_any wall 0 5000 _) (congrArg Value.bool HA5.out)))
              | (go_at_call 103; first | (with_reducible exact Calls.in_ext_eq (r01_span_any ⟨llo, lhi⟩ 1 30000 _) (congrArg Value.bool HA3.out)) | (with_reducible exact Calls.in_ext_eq (r01_span_any ⟨flo, fhi⟩ 0 5000 _) (congrArg Value.bool HA4.out))))))
            refine wpQuiet_nil ?_
            rintro _ ⟨X, rfl⟩
            go_wp2_with fail
            go_ret
            exact ⟨by rw [HF.out, HBAD.out]; simp, exq⟩
          cases b3
          case false =>
            have hbad := hxk (by rw [hgA]; simp)
            have HBAD := Lib.hid hbad
            clear hbad
            clear hxk hgA
            go_wp2_with (first
              | (refine wpList_load_mid rfl 169 _ rfl b (o + k * 9) rfl [.int .i64 id, .int .i64 llo, .int .i64 lhi, .int .i64 flo, .int .i64 fhi, .int .i64 rlo, .int .i64 rhi, .int .u8 side, .int .i64 wall] _ (fun j u hju => World.Exts.cell (a := w) exq (HCS.out j u hju)) Tryz.underlying169 rfl (by kernel_rfl) ?_)
              | (refine wpList_store_new (t := 169) (cells := #[.int .i64 id, .int .i64 llo, .int .i64 lhi, .int .i64 flo, .int .i64 fhi, .int .i64 rlo, .int .i64 rhi, .int .u8 side, .int .i64 wall]) (by rfl) (by rfl) (by kernel_rfl) (by rfl) (by simp [Value.oneCell']) ?_))
            refine wp_region_ext (by kernel_rfl) (by kernel_rfl) ?_
            repeat (go_big_quiet_step ((first
              | (go_at_call 102; first | (with_reducible exact Calls.in_ext_eq (r01_within_any id 0 9999 _) (congrArg Value.bool HA1.out)) | (with_reducible exact Calls.in_ext_eq (r01_within_any wall 0 5000 _) (congrArg Value.bool HA5.out)))
              | (go_at_call 103; first | (with_reducible exact Calls.in_ext_eq (r01_span_any ⟨llo, lhi⟩ 1 30000 _) (congrArg Value.bool HA3.out)) | (with_reducible exact Calls.in_ext_eq (r01_span_any ⟨flo, fhi⟩ 0 5000 _) (congrArg Value.bool HA4.out))))))
            refine wpQuiet_nil ?_
            rintro _ ⟨X, rfl⟩
            go_wp2_with fail
            go_ret
            exact ⟨by rw [HF.out, HBAD.out]; simp, exq⟩
          cases b4
          case false =>
            have hbad := hxk (by rw [hgA]; simp)
            have HBAD := Lib.hid hbad
            clear hbad
            clear hxk hgA
            go_wp2_with (first
              | (refine wpList_load_mid rfl 169 _ rfl b (o + k * 9) rfl [.int .i64 id, .int .i64 llo, .int .i64 lhi, .int .i64 flo, .int .i64 fhi, .int .i64 rlo, .int .i64 rhi, .int .u8 side, .int .i64 wall] _ (fun j u hju => World.Exts.cell (a := w) exq (HCS.out j u hju)) Tryz.underlying169 rfl (by kernel_rfl) ?_)
              | (refine wpList_store_new (t := 169) (cells := #[.int .i64 id, .int .i64 llo, .int .i64 lhi, .int .i64 flo, .int .i64 fhi, .int .i64 rlo, .int .i64 rhi, .int .u8 side, .int .i64 wall]) (by rfl) (by rfl) (by kernel_rfl) (by rfl) (by simp [Value.oneCell']) ?_))
            refine wp_region_ext (by kernel_rfl) (by kernel_rfl) ?_
            repeat (go_big_quiet_step ((first
              | (go_at_call 102; first | (with_reducible exact Calls.in_ext_eq (r01_within_any id 0 9999 _) (congrArg Value.bool HA1.out)) | (with_reducible exact Calls.in_ext_eq (r01_within_any wall 0 5000 _) (congrArg Value.bool HA5.out)))
              | (go_at_call 103; first | (with_reducible exact Calls.in_ext_eq (r01_span_any ⟨llo, lhi⟩ 1 30000 _) (congrArg Value.bool HA3.out)) | (with_reducible exact Calls.in_ext_eq (r01_span_any ⟨flo, fhi⟩ 0 5000 _) (congrArg Value.bool HA4.out))))))
            refine wpQuiet_nil ?_
            rintro _ ⟨X, rfl⟩
            go_wp2_with fail
            go_ret
            exact ⟨by rw [HF.out, HBAD.out]; simp, exq⟩
          cases b5
          case false =>
            have hbad := hxk (by rw [hgA]; simp)
            have HBAD := Lib.hid hbad
            clear hbad
            clear hxk hgA
            go_wp2_with (first
              | (refine wpList_load_mid rfl 169 _ rfl b (o + k * 9) rfl [.int .i64 id, .int .i64 llo, .int .i64 lhi, .int .i64 flo, .int .i64 fhi, .int .i64 rlo, .int .i64 rhi, .int .u8 side, .int .i64 wall] _ (fun j u hju => World.Exts.cell (a := w) exq (HCS.out j u hju)) Tryz.underlying169 rfl (by kernel_rfl) ?_)
              | (refine wpList_store_new (t := 169) (cells := #[.int .i64 id, .int .i64 llo, .int .i64 lhi, .int .i64 flo, .int .i64 fhi, .int .i64 rlo, .int .i64 rhi, .int .u8 side, .int .i64 wall]) (by rfl) (by rfl) (by kernel_rfl) (by rfl) (by simp [Value.oneCell']) ?_))
            refine wp_region_ext (by kernel_rfl) (by kernel_rfl) ?_
            repeat (go_big_quiet_step ((first
              | (go_at_call 102; first | (with_reducible exact Calls.in_ext_eq (r01_within_any id 0 9999 _) (congrArg Value.bool HA1.out)) | (with_reducible exact Calls.in_ext_eq (r01_within_any wall 0 5000 _) (congrArg Value.bool HA5.out)))
              | (go_at_call 103; first | (with_reducible exact Calls.in_ext_eq (r01_span_any ⟨llo, lhi⟩ 1 30000 _) (congrArg Value.bool HA3.out)) | (with_reducible exact Calls.in_ext_eq (r01_span_any ⟨flo, fhi⟩ 0 5000 _) (congrArg Value.bool HA4.out))))))
            refine wpQuiet_nil ?_
            rintro _ ⟨X, rfl⟩
            go_wp2_with fail
            go_ret
            exact ⟨by rw [HF.out, HBAD.out]; simp, exq⟩
          have HGA := Lib.hid hgA
          clear hgA
          have HXK := Lib.hid hxk
          clear hxk
          go_wp2_with (first
            | (refine wpList_load_mid rfl 169 _ rfl b (o + k * 9) rfl [.int .i64 id, .int .i64 llo, .int .i64 lhi, .int .i64 flo, .int .i64 fhi, .int .i64 rlo, .int .i64 rhi, .int .u8 side, .int .i64 wall] _ (fun j u hju => World.Exts.cell (a := w) exq (HCS.out j u hju)) Tryz.underlying169 rfl (by kernel_rfl) ?_)
            | (refine wpList_store_new (t := 169) (cells := #[.int .i64 id, .int .i64 llo, .int .i64 lhi, .int .i64 flo, .int .i64 fhi, .int .i64 rlo, .int .i64 rhi, .int .u8 side, .int .i64 wall]) (by rfl) (by rfl) (by kernel_rfl) (by rfl) (by simp [Value.oneCell']) ?_))
          refine wp_region_ext (by kernel_rfl) (by kernel_rfl) ?_
          repeat (go_big_quiet_step ((first
            | (go_at_call 102; first | (with_reducible exact Calls.in_ext_eq (r01_within_any id 0 9999 _) (congrArg Value.bool HA1.out)) | (with_reducible exact Calls.in_ext_eq (r01_within_any wall 0 5000 _) (congrArg Value.bool HA5.out)))
            | (go_at_call 103; first | (with_reducible exact Calls.in_ext_eq (r01_span_any ⟨llo, lhi⟩ 1 30000 _) (congrArg Value.bool HA3.out)) | (with_reducible exact Calls.in_ext_eq (r01_span_any ⟨flo, fhi⟩ 0 5000 _) (congrArg Value.bool HA4.out))))))
          refine wpQuiet_nil ?_
          rintro _ ⟨X, rfl⟩
          have hgA := HGA.out
          have hxk := HXK.out
          clear HGA HXK
          by_cases s0 : side = 0
          · have t0 : (side == 0) = true := by simpa using s0
            have u0 : decide (side = 0) = true := by simpa using s0
            have v0 : (side != 0) = false := by simp [bne, t0]
            by_cases r1 : rlo = 0
            · by_cases r2 : rhi = 0
              · have hso : sideOk ⟨id, ⟨llo, lhi⟩, ⟨flo, fhi⟩, ⟨rlo, rhi⟩, side, wall⟩ = true := by unfold sideOk; simp [s0, r1, r2]
                rw [hso] at hgA
                clear hso
                have a1 : (rlo != 0) = false := by simp [bne, r1]
                have a2 : decide (rlo = 0) = true := by simpa using r1
                have a3 : (rhi != 0) = false := by simp [bne, r2]
                have a4 : decide (rhi = 0) = true := by simpa using r2
                have hgood : ∀ j, j < k + 1 → strAt t j = true := below_snoc HA.out (by rw [hgA]; rfl)
                have HGOOD := Lib.hid hgood
                clear hgood
                clear hxk hgA
                clear s0 r1 r2
                go_wp2_with fail
                go_roundw
                case rel => exact ⟨k + 1, by omega, by go_num, HGOOD, exq⟩
                case measure => simp [intOf]; omega
              · have hso : sideOk ⟨id, ⟨llo, lhi⟩, ⟨flo, fhi⟩, ⟨rlo, rhi⟩, side, wall⟩ = false := by unfold sideOk; simp [s0, r1, r2]
                rw [hso] at hgA
                clear hso
                have a1 : (rlo != 0) = false := by simp [bne, r1]
                have a2 : decide (rlo = 0) = true := by simpa using r1
                have a3 : (rhi != 0) = true := by simpa using r2
                have a4 : decide (rhi = 0) = false := by simpa using r2
                have hbad := hxk (by rw [hgA]; simp)
                have HBAD := Lib.hid hbad
                clear hbad
                clear hxk hgA
                clear s0 r1 r2
                go_wp2_with fail
                go_ret
                exact ⟨by rw [HF.out, HBAD.out]; simp, exq⟩
            · have hso : sideOk ⟨id, ⟨llo, lhi⟩, ⟨flo, fhi⟩, ⟨rlo, rhi⟩, side, wall⟩ = false := by unfold sideOk; simp [s0, r1]
              rw [hso] at hgA
              clear hso
              have a1 : (rlo != 0) = true := by simpa using r1
              have a2 : decide (rlo = 0) = false := by simpa using r1
              have hbad := hxk (by rw [hgA]; simp)
              have HBAD := Lib.hid hbad
              clear hbad
              clear hxk hgA
              clear s0 r1
              go_wp2_with fail
              go_ret
              exact ⟨by rw [HF.out, HBAD.out]; simp, exq⟩
          obtain ⟨b6, ha6⟩ : ∃ z, ordered ⟨rlo, rhi⟩ 500 20000 = z := ⟨_, rfl⟩
          have t0 : (side == 0) = false := by simpa using s0
          have u0 : decide (side = 0) = false := by simpa using s0
          have v0 : (side != 0) = true := by simp [bne, t0]
          by_cases s1 : side = 1
          · have hso : sideOk ⟨id, ⟨llo, lhi⟩, ⟨flo, fhi⟩, ⟨rlo, rhi⟩, side, wall⟩ = b6 := by unfold sideOk; simp [s0, s1, ha6]
            rw [hso] at hgA
            have HA6 := Lib.hid ha6
            clear ha6
            clear hso
            have t1 : (side == 1) = true := by simpa using s1
            have u1 : decide (side = 1) = true := by simpa using s1
            have v1 : (side != 1) = false := by simp [bne, t1]
            clear s0 s1
            cases b6
            · have hbad := hxk (by rw [hgA]; simp)
              have HBAD := Lib.hid hbad
              clear hbad
              clear hxk hgA
              go_wp2_with (go_at_call 103; refine (r01_span_any ⟨rlo, rhi⟩ 500 20000 _).mono ?_; rintro e w' ⟨rfl, X9, rfl⟩; rw [HA6.out])
              go_ret
              exact ⟨by rw [HF.out, HBAD.out]; simp, exq⟩
            · have hgood : ∀ j, j < k + 1 → strAt t j = true := below_snoc HA.out (by rw [hgA]; rfl)
              have HGOOD := Lib.hid hgood
              clear hgood
              clear hxk hgA
              go_wp2_with (go_at_call 103; refine (r01_span_any ⟨rlo, rhi⟩ 500 20000 _).mono ?_; rintro e w' ⟨rfl, X9, rfl⟩; rw [HA6.out])
              go_roundw
              case rel => exact ⟨k + 1, by omega, by go_num, HGOOD, exq⟩
              case measure => simp [intOf]; omega
          by_cases s2 : side = 2
          · have hso : sideOk ⟨id, ⟨llo, lhi⟩, ⟨flo, fhi⟩, ⟨rlo, rhi⟩, side, wall⟩ = b6 := by unfold sideOk; simp [s2, ha6]
            rw [hso] at hgA
            have HA6 := Lib.hid ha6
            clear ha6
            clear hso
            have t1 : (side == 1) = false := by simpa using s1
            have u1 : decide (side = 1) = false := by simpa using s1
            have v1 : (side != 1) = true := by simp [bne, t1]
            have t2 : (side == 2) = true := by simpa using s2
            have u2 : decide (side = 2) = true := by simpa using s2
            have v2 : (side != 2) = false := by simp [bne, t2]
            clear s0 s1 s2
            cases b6
            · have hbad := hxk (by rw [hgA]; simp)
              have HBAD := Lib.hid hbad
              clear hbad
              clear hxk hgA
              go_wp2_with (go_at_call 103; refine (r01_span_any ⟨rlo, rhi⟩ 500 20000 _).mono ?_; rintro e w' ⟨rfl, X9, rfl⟩; rw [HA6.out])
              go_ret
              exact ⟨by rw [HF.out, HBAD.out]; simp, exq⟩
            · have hgood : ∀ j, j < k + 1 → strAt t j = true := below_snoc HA.out (by rw [hgA]; rfl)
              have HGOOD := Lib.hid hgood
              clear hgood
              clear hxk hgA
              go_wp2_with (go_at_call 103; refine (r01_span_any ⟨rlo, rhi⟩ 500 20000 _).mono ?_; rintro e w' ⟨rfl, X9, rfl⟩; rw [HA6.out])
              go_roundw
              case rel => exact ⟨k + 1, by omega, by go_num, HGOOD, exq⟩
              case measure => simp [intOf]; omega
          · have hso : sideOk ⟨id, ⟨llo, lhi⟩, ⟨flo, fhi⟩, ⟨rlo, rhi⟩, side, wall⟩ = false := by unfold sideOk; simp [s0, s1, s2]
            rw [hso] at hgA
            clear hso ha6
            have t1 : (side == 1) = false := by simpa using s1
            have u1 : decide (side = 1) = false := by simpa using s1
            have v1 : (side != 1) = true := by simp [bne, t1]
            have t2 : (side == 2) = false := by simpa using s2
            have u2 : decide (side = 2) = false := by simpa using s2
            have v2 : (side != 2) = true := by simp [bne, t2]
            have hbad := hxk (by rw [hgA]; simp)
            have HBAD := Lib.hid hbad
            clear hbad
            clear hxk hgA
            clear s0 s1 s2
            go_wp2_with fail
            go_ret
            exact ⟨by rw [HF.out, HBAD.out]; simp, exq⟩
        · rw [decide_eq_false (by omega), Bool.false_and, Bool.and_false] at hgA
          have d5 : decide (id ≤ y.id) = true := by simp; omega
          have hbad := hxk hgA
          have HBAD := Lib.hid hbad
          clear hbad
          clear hxk hgA
          cases b1
          all_goals
            go_wp2_with (first
              | (refine wpList_load_mid rfl 169 _ rfl b (o + k * 9) rfl [.int .i64 id, .int .i64 llo, .int .i64 lhi, .int .i64 flo, .int .i64 fhi, .int .i64 rlo, .int .i64 rhi, .int .u8 side, .int .i64 wall] _ (fun j u hju => World.Exts.cell (a := w) exq (HCS.out j u hju)) Tryz.underlying169 rfl (by kernel_rfl) ?_)
              | (refine wpList_store_new (t := 169) (cells := #[.int .i64 id, .int .i64 llo, .int .i64 lhi, .int .i64 flo, .int .i64 fhi, .int .i64 rlo, .int .i64 rhi, .int .u8 side, .int .i64 wall]) (by rfl) (by rfl) (by kernel_rfl) (by rfl) (by simp [Value.oneCell']) ?_))
            refine wp_region_ext (by kernel_rfl) (by kernel_rfl) ?_
            repeat (go_big_quiet_step ((first
              | (go_at_call 102; first | (with_reducible exact Calls.in_ext_eq (r01_within_any id 0 9999 _) (congrArg Value.bool HA1.out)) | (with_reducible exact Calls.in_ext_eq (r01_within_any wall 0 5000 _) (congrArg Value.bool HA5.out)))
              | (go_at_call 103; first | (with_reducible exact Calls.in_ext_eq (r01_span_any ⟨llo, lhi⟩ 1 30000 _) (congrArg Value.bool HA3.out)) | (with_reducible exact Calls.in_ext_eq (r01_span_any ⟨flo, fhi⟩ 0 5000 _) (congrArg Value.bool HA4.out))))))
            refine wpQuiet_nil ?_
            rintro _ ⟨X, rfl⟩
            go_wp2_with fail
            go_ret
            exact ⟨by rw [HF.out, HBAD.out]; simp, exq⟩
    · have hnl : ¬ k < t.length := by omega
      have hall := HGO.out (fun j hj => HA.out j (by omega))
      have w2 : ¬ (k : Int) < (t.length : Int) := by omega
      have HALL := Lib.hid hall
      clear hall
      clear HA
      go_wp2_with fail
      go_ret
      exact ⟨by rw [HF.out, HALL.out]; rfl, exq⟩

set_option maxHeartbeats 400000 in
theorem r01_Check_any (t : List Kr.Stretch) (v : Value) (w : World) (hrow : IsRow (fun s : Kr.Stretch => [.int .i64 s.id, .int .i64 s.long.lo, .int .i64 s.long.hi, .int .i64 s.fall.lo, .int .i64 s.fall.hi, .int .i64 s.radius.lo, .int .i64 s.radius.hi, .int .u8 s.side, .int .i64 s.wall]) 9 w v t) :
    Calls Tryz.prog 23 #[.agg #[v]] w fun e w' => e = .returned (.int .i64 (if trackB t then 0 else 10)) ∧ w.Exts w' := by
  have hc := fun (W : World) (hE : w.Exts W) => r01_Track_any t v W (hrow.mono hE)
  obtain ⟨q, c, rfl⟩ := hrow.len
  generalize trackB t = b at hc ⊢
  have HC := Lib.hid hc
  clear hc
  clear hrow
  cases b
  all_goals
    go_enter Tryz.func23, Tryz.ntmps23
    go_wp2_with (go_at_call 51; refine (HC.out _ exq).mono ?_; rintro e w' ⟨rfl, X2, rfl⟩)
    go_ret
    exact ⟨rfl, exq⟩
end Go.Proofs.YtcickafaomfbmaaGreatDoor

/-
  Walks of the reference of ice: Ice, Check.
-/
namespace Go.Proofs.YtcickafaomfbmaaGreatDoor
open Go.RowKit Kr
set_option linter.unusedSimpArgs false
set_option linter.unusedVariables false

theorem all_at {α : Type} {f : α → Bool} {l : List α} {k : Nat} {x : α} (hx : l[k]? = some x) (h : ∀ j y, j < k → l[j]? = some y → f y = true) (h1 : f x = true) : ∀ j y, j < k + 1 → l[j]? = some y → f y = true := by
  intro j y hj hy
  rcases Nat.lt_or_ge j k with h2 | h2
  · exact h j y h2 hy
  · obtain rfl : j = k := by omega
    rw [hx] at hy
    exact Option.some.inj hy ▸ h1
theorem all_end {α : Type} {f : α → Bool} {l : List α} {k : Nat} (hk : l.length ≤ k) (h : ∀ j y, j < k → l[j]? = some y → f y = true) : l.all f = true := by
  rw [List.all_eq_true]
  intro x hx
  obtain ⟨j, hj, rfl⟩ := List.getElem_of_mem hx
  exact h j _ (by omega) (List.getElem?_eq_getElem hj)
theorem all_bad {α : Type} {f : α → Bool} {l : List α} {k : Nat} {x : α} (hx : l[k]? = some x) (h : f x = false) : l.all f = false := by
  rw [List.all_eq_false]
  exact ⟨x, List.mem_of_getElem? hx, by rw [h]; simp⟩

set_option maxRecDepth 4000 in
set_option maxHeartbeats 8000000 in
theorem r02_Ice_any (c : Kr.Cover) (v : CoverV) (w : World) (h : CoverAt w c v) :
    Calls Tryz.prog 24 #[.agg #[v.t, v.b, v.h, .int .i64 c.wear.lo, .int .i64 c.wear.hi, .int .i64 c.layer.lo, .int .i64 c.layer.hi, .int .i64 c.rate, .int .i64 c.limit, .int .i64 c.base]] w fun e w' => e = .returned (.bool (iceB c)) ∧ w.Exts w' := by
  obtain ⟨trk, beds, hours, ⟨wlo, whi⟩, ⟨ylo, yhi⟩, rate, limit, base⟩ := c
  obtain ⟨vt, vb, vh⟩ := v
  obtain ⟨qt, ct, hqt⟩ := h.tr.len
  obtain ⟨qb, cb, hqb⟩ := h.bd.len
  obtain ⟨qh, ch, hqh⟩ := h.hr.len
  dsimp only at hqt hqb hqh
  subst hqt hqb hqh
  have hbd := h.bd
  have hhr := h.hr
  clear h
  obtain ⟨_, bb, bo, _, eb, hbm, hbq, hbc⟩ := hbd.ex
  cases eb
  obtain ⟨_, hb, ho, _, eh, hhm, hhq, hhc⟩ := hhr.ex
  cases eh
  clear hbd hhr
  dsimp only at hbm hbq hbc hhm hhq hhc ⊢
  obtain ⟨b1, e1⟩ : ∃ z, decide (beds.length = trk.length) = z := ⟨_, rfl⟩
  obtain ⟨b2, e2⟩ : ∃ z, inb 1 8 (hours.length : Int) = z := ⟨_, rfl⟩
  obtain ⟨b3, e3⟩ : ∃ z, ordered ⟨wlo, whi⟩ 0 20 = z := ⟨_, rfl⟩
  obtain ⟨b4, e4⟩ : ∃ z, ordered ⟨ylo, yhi⟩ 1 100 = z := ⟨_, rfl⟩
  obtain ⟨b5, e5⟩ : ∃ z, inb 0 100 rate = z := ⟨_, rfl⟩
  obtain ⟨b6, e6⟩ : ∃ z, inb 0 2000 limit = z := ⟨_, rfl⟩
  obtain ⟨b7, e7⟩ : ∃ z, inb 0 limit base = z := ⟨_, rfl⟩
  have hf : iceB ⟨trk, beds, hours, ⟨wlo, whi⟩, ⟨ylo, yhi⟩, rate, limit, base⟩ = (b1 && (b2 && ((b3 && (b4 && (b5 && (b6 && b7)))) && (beds.all bedOk && hours.all hourOk)))) := by
    unfold iceB restOk
    dsimp only
    rw [e1, e2, e3, e4, e5, e6, e7]
  have f1 : decide ((beds.length : Int) = (trk.length : Int)) = b1 := by rw [← e1, decide_eq_decide]; omega
  have f2 : ((beds.length : Int) == (trk.length : Int)) = b1 := by rw [← f1]; rfl
  have f3 : ((beds.length : Int) != (trk.length : Int)) = !b1 := by rw [← f2]; rfl
  clear e1
  have HF := Lib.hid hf
  clear hf
  have HE2 := Lib.hid e2
  clear e2
  have HE3 := Lib.hid e3
  clear e3
  have HE4 := Lib.hid e4
  clear e4
  have HE5 := Lib.hid e5
  clear e5
  have HE6 := Lib.hid e6
  clear e6
  have HE7 := Lib.hid e7
  clear e7
  have HBQ := Lib.hid hbq
  clear hbq
  have HBC := Lib.hid hbc
  clear hbc
  have HHQ := Lib.hid hhq
  clear hhq
  have HHC := Lib.hid hhc
  clear hhc
  cases b1
  case false =>
    go_enter Tryz.func24, Tryz.ntmps24
    go_wp2_with (first
      | (go_at_call 27; ((with_reducible refine (r02_within_any (hours.length : Int) 1 8 _).mono ?_); rintro e w' ⟨rfl, X2, rfl⟩; rw [HE2.out]))
      | (go_at_call 52; ((with_reducible refine (r02_spanned_any ⟨wlo, whi⟩ 0 20 _).mono ?_); rintro e w' ⟨rfl, X3, rfl⟩; rw [HE3.out]))
      | (go_at_call 52; ((with_reducible refine (r02_spanned_any ⟨ylo, yhi⟩ 1 100 _).mono ?_); rintro e w' ⟨rfl, X4, rfl⟩; rw [HE4.out]))
      | (go_at_call 27; ((with_reducible refine (r02_within_any rate 0 100 _).mono ?_); rintro e w' ⟨rfl, X5, rfl⟩; rw [HE5.out]))
      | (go_at_call 27; ((with_reducible refine (r02_within_any limit 0 2000 _).mono ?_); rintro e w' ⟨rfl, X6, rfl⟩; rw [HE6.out]))
      | (go_at_call 27; ((with_reducible refine (r02_within_any base 0 limit _).mono ?_); rintro e w' ⟨rfl, X7, rfl⟩; rw [HE7.out])))
    go_ret
    exact ⟨by rw [HF.out]; simp, exq⟩
  cases b2
  case false =>
    go_enter Tryz.func24, Tryz.ntmps24
    go_wp2_with (first
      | (go_at_call 27; ((with_reducible refine (r02_within_any (hours.length : Int) 1 8 _).mono ?_); rintro e w' ⟨rfl, X2, rfl⟩; rw [HE2.out]))
      | (go_at_call 52; ((with_reducible refine (r02_spanned_any ⟨wlo, whi⟩ 0 20 _).mono ?_); rintro e w' ⟨rfl, X3, rfl⟩; rw [HE3.out]))
      | (go_at_call 52; ((with_reducible refine (r02_spanned_any ⟨ylo, yhi⟩ 1 100 _).mono ?_); rintro e w' ⟨rfl, X4, rfl⟩; rw [HE4.out]))
      | (go_at_call 27; ((with_reducible refine (r02_within_any rate 0 100 _).mono ?_); rintro e w' ⟨rfl, X5, rfl⟩; rw [HE5.out]))
      | (go_at_call 27; ((with_reducible refine (r02_within_any limit 0 2000 _).mono ?_); rintro e w' ⟨rfl, X6, rfl⟩; rw [HE6.out]))
      | (go_at_call 27; ((with_reducible refine (r02_within_any base 0 limit _).mono ?_); rintro e w' ⟨rfl, X7, rfl⟩; rw [HE7.out])))
    go_ret
    exact ⟨by rw [HF.out]; simp, exq⟩
  cases b3
  case false =>
    go_enter Tryz.func24, Tryz.ntmps24
    go_wp2_with (first
      | (go_at_call 27; ((with_reducible refine (r02_within_any (hours.length : Int) 1 8 _).mono ?_); rintro e w' ⟨rfl, X2, rfl⟩; rw [HE2.out]))
      | (go_at_call 52; ((with_reducible refine (r02_spanned_any ⟨wlo, whi⟩ 0 20 _).mono ?_); rintro e w' ⟨rfl, X3, rfl⟩; rw [HE3.out]))
      | (go_at_call 52; ((with_reducible refine (r02_spanned_any ⟨ylo, yhi⟩ 1 100 _).mono ?_); rintro e w' ⟨rfl, X4, rfl⟩; rw [HE4.out]))
      | (go_at_call 27; ((with_reducible refine (r02_within_any rate 0 100 _).mono ?_); rintro e w' ⟨rfl, X5, rfl⟩; rw [HE5.out]))
      | (go_at_call 27; ((with_reducible refine (r02_within_any limit 0 2000 _).mono ?_); rintro e w' ⟨rfl, X6, rfl⟩; rw [HE6.out]))
      | (go_at_call 27; ((with_reducible refine (r02_within_any base 0 limit _).mono ?_); rintro e w' ⟨rfl, X7, rfl⟩; rw [HE7.out])))
    go_ret
    exact ⟨by rw [HF.out]; simp, exq⟩
  cases b4
  case false =>
    go_enter Tryz.func24, Tryz.ntmps24
    go_wp2_with (first
      | (go_at_call 27; ((with_reducible refine (r02_within_any (hours.length : Int) 1 8 _).mono ?_); rintro e w' ⟨rfl, X2, rfl⟩; rw [HE2.out]))
      | (go_at_call 52; ((with_reducible refine (r02_spanned_any ⟨wlo, whi⟩ 0 20 _).mono ?_); rintro e w' ⟨rfl, X3, rfl⟩; rw [HE3.out]))
      | (go_at_call 52; ((with_reducible refine (r02_spanned_any ⟨ylo, yhi⟩ 1 100 _).mono ?_); rintro e w' ⟨rfl, X4, rfl⟩; rw [HE4.out]))
      | (go_at_call 27; ((with_reducible refine (r02_within_any rate 0 100 _).mono ?_); rintro e w' ⟨rfl, X5, rfl⟩; rw [HE5.out]))
      | (go_at_call 27; ((with_reducible refine (r02_within_any limit 0 2000 _).mono ?_); rintro e w' ⟨rfl, X6, rfl⟩; rw [HE6.out]))
      | (go_at_call 27; ((with_reducible refine (r02_within_any base 0 limit _).mono ?_); rintro e w' ⟨rfl, X7, rfl⟩; rw [HE7.out])))
    go_ret
    exact ⟨by rw [HF.out]; simp, exq⟩
  cases b5
  case false =>
    go_enter Tryz.func24, Tryz.ntmps24
    go_wp2_with (first
      | (go_at_call 27; ((with_reducible refine (r02_within_any (hours.length : Int) 1 8 _).mono ?_); rintro e w' ⟨rfl, X2, rfl⟩; rw [HE2.out]))
      | (go_at_call 52; ((with_reducible refine (r02_spanned_any ⟨wlo, whi⟩ 0 20 _).mono ?_); rintro e w' ⟨rfl, X3, rfl⟩; rw [HE3.out]))
      | (go_at_call 52; ((with_reducible refine (r02_spanned_any ⟨ylo, yhi⟩ 1 100 _).mono ?_); rintro e w' ⟨rfl, X4, rfl⟩; rw [HE4.out]))
      | (go_at_call 27; ((with_reducible refine (r02_within_any rate 0 100 _).mono ?_); rintro e w' ⟨rfl, X5, rfl⟩; rw [HE5.out]))
      | (go_at_call 27; ((with_reducible refine (r02_within_any limit 0 2000 _).mono ?_); rintro e w' ⟨rfl, X6, rfl⟩; rw [HE6.out]))
      | (go_at_call 27; ((with_reducible refine (r02_within_any base 0 limit _).mono ?_); rintro e w' ⟨rfl, X7, rfl⟩; rw [HE7.out])))
    go_ret
    exact ⟨by rw [HF.out]; simp, exq⟩
  cases b6
  case false =>
    go_enter Tryz.func24, Tryz.ntmps24
    go_wp2_with (first
      | (go_at_call 27; ((with_reducible refine (r02_within_any (hours.length : Int) 1 8 _).mono ?_); rintro e w' ⟨rfl, X2, rfl⟩; rw [HE2.out]))
      | (go_at_call 52; ((with_reducible refine (r02_spanned_any ⟨wlo, whi⟩ 0 20 _).mono ?_); rintro e w' ⟨rfl, X3, rfl⟩; rw [HE3.out]))
      | (go_at_call 52; ((with_reducible refine (r02_spanned_any ⟨ylo, yhi⟩ 1 100 _).mono ?_); rintro e w' ⟨rfl, X4, rfl⟩; rw [HE4.out]))
      | (go_at_call 27; ((with_reducible refine (r02_within_any rate 0 100 _).mono ?_); rintro e w' ⟨rfl, X5, rfl⟩; rw [HE5.out]))
      | (go_at_call 27; ((with_reducible refine (r02_within_any limit 0 2000 _).mono ?_); rintro e w' ⟨rfl, X6, rfl⟩; rw [HE6.out]))
      | (go_at_call 27; ((with_reducible refine (r02_within_any base 0 limit _).mono ?_); rintro e w' ⟨rfl, X7, rfl⟩; rw [HE7.out])))
    go_ret
    exact ⟨by rw [HF.out]; simp, exq⟩
  cases b7
  case false =>
    go_enter Tryz.func24, Tryz.ntmps24
    go_wp2_with (first
      | (go_at_call 27; ((with_reducible refine (r02_within_any (hours.length : Int) 1 8 _).mono ?_); rintro e w' ⟨rfl, X2, rfl⟩; rw [HE2.out]))
      | (go_at_call 52; ((with_reducible refine (r02_spanned_any ⟨wlo, whi⟩ 0 20 _).mono ?_); rintro e w' ⟨rfl, X3, rfl⟩; rw [HE3.out]))
      | (go_at_call 52; ((with_reducible refine (r02_spanned_any ⟨ylo, yhi⟩ 1 100 _).mono ?_); rintro e w' ⟨rfl, X4, rfl⟩; rw [HE4.out]))
      | (go_at_call 27; ((with_reducible refine (r02_within_any rate 0 100 _).mono ?_); rintro e w' ⟨rfl, X5, rfl⟩; rw [HE5.out]))
      | (go_at_call 27; ((with_reducible refine (r02_within_any limit 0 2000 _).mono ?_); rintro e w' ⟨rfl, X6, rfl⟩; rw [HE6.out]))
      | (go_at_call 27; ((with_reducible refine (r02_within_any base 0 limit _).mono ?_); rintro e w' ⟨rfl, X7, rfl⟩; rw [HE7.out])))
    go_ret
    exact ⟨by rw [HF.out]; simp, exq⟩
  go_enter Tryz.func24, Tryz.ntmps24
  go_wp2_with (first
    | (go_at_call 27; ((with_reducible refine (r02_within_any (hours.length : Int) 1 8 _).mono ?_); rintro e w' ⟨rfl, X2, rfl⟩; rw [HE2.out]))
    | (go_at_call 52; ((with_reducible refine (r02_spanned_any ⟨wlo, whi⟩ 0 20 _).mono ?_); rintro e w' ⟨rfl, X3, rfl⟩; rw [HE3.out]))
    | (go_at_call 52; ((with_reducible refine (r02_spanned_any ⟨ylo, yhi⟩ 1 100 _).mono ?_); rintro e w' ⟨rfl, X4, rfl⟩; rw [HE4.out]))
    | (go_at_call 27; ((with_reducible refine (r02_within_any rate 0 100 _).mono ?_); rintro e w' ⟨rfl, X5, rfl⟩; rw [HE5.out]))
    | (go_at_call 27; ((with_reducible refine (r02_within_any limit 0 2000 _).mono ?_); rintro e w' ⟨rfl, X6, rfl⟩; rw [HE6.out]))
    | (go_at_call 27; ((with_reducible refine (r02_within_any base 0 limit _).mono ?_); rintro e w' ⟨rfl, X7, rfl⟩; rw [HE7.out])))
  clear f1 f2 f3
  go_loopw [3] (fun i wr => ∃ k : Nat, k ≤ beds.length ∧ i = .int .i64 k ∧ Hid (∀ j y, j < k → beds[j]? = some y → bedOk y = true) ∧ (World.ext _ X7).Exts wr) (fun i _ => beds.length - (intOf i).toNat)
  case atStart => exact ⟨0, Nat.zero_le _, rfl, Lib.hid (fun j y hj => by omega), exq⟩
  case round =>
    obtain ⟨k, hk, rfl, HA, hE⟩ := hrel
    obtain ⟨X8, rfl⟩ := hE
    rcases Nat.lt_or_ge k beds.length with hlt | hge
    · obtain ⟨rfl, hlay⟩ := HBQ.out (by omega)
      obtain ⟨⟨⟨tlo, thi⟩, sun⟩, hx⟩ := some_of_lt hlt
      have hcs := HBC.out k _ hx
      have c0 := hcs 0 _ rfl
      have c1 := hcs 1 _ rfl
      have c2 := hcs 2 _ rfl
      simp only [Nat.add_zero] at c0 c1 c2
      clear hcs
      have w2 : (k : Int) < (beds.length : Int) := by omega
      obtain ⟨g1, eg1⟩ : ∃ z, ordered ⟨tlo, thi⟩ 0 2000 = z := ⟨_, rfl⟩
      obtain ⟨g2, eg2⟩ : ∃ z, inb 0 9 sun = z := ⟨_, rfl⟩
      have hok : bedOk ⟨⟨tlo, thi⟩, sun⟩ = (g1 && g2) := by unfold bedOk; dsimp only; rw [eg1, eg2]
      have HOK := Lib.hid hok
      clear hok
      have HX := Lib.hid hx
      clear hx
      have HG1 := Lib.hid eg1
      clear eg1
      have HG2 := Lib.hid eg2
      clear eg2
      cases g1
      case false =>
        have hbad := all_bad (f := bedOk) HX.out HOK.out
        have HBAD := Lib.hid hbad
        clear hbad
        go_wp2_with (first
          | (go_at_call 52; ((with_reducible refine (r02_spanned_any ⟨tlo, thi⟩ 0 2000 _).mono ?_); rintro e w' ⟨rfl, X11, rfl⟩; rw [HG1.out]))
          | (go_at_call 27; ((with_reducible refine (r02_within_any sun 0 9 _).mono ?_); rintro e w' ⟨rfl, X12, rfl⟩; rw [HG2.out])))
        go_ret
        exact ⟨by rw [HF.out, HBAD.out]; rfl, exq⟩
      cases g2
      case false =>
        have hbad := all_bad (f := bedOk) HX.out HOK.out
        have HBAD := Lib.hid hbad
        clear hbad
        go_wp2_with (first
          | (go_at_call 52; ((with_reducible refine (r02_spanned_any ⟨tlo, thi⟩ 0 2000 _).mono ?_); rintro e w' ⟨rfl, X11, rfl⟩; rw [HG1.out]))
          | (go_at_call 27; ((with_reducible refine (r02_within_any sun 0 9 _).mono ?_); rintro e w' ⟨rfl, X12, rfl⟩; rw [HG2.out])))
        go_ret
        exact ⟨by rw [HF.out, HBAD.out]; rfl, exq⟩
      have hgood := all_at HX.out HA.out HOK.out
      have HGOOD := Lib.hid hgood
      clear hgood
      go_wp2_with (first
        | (go_at_call 52; ((with_reducible refine (r02_spanned_any ⟨tlo, thi⟩ 0 2000 _).mono ?_); rintro e w' ⟨rfl, X11, rfl⟩; rw [HG1.out]))
        | (go_at_call 27; ((with_reducible refine (r02_within_any sun 0 9 _).mono ?_); rintro e w' ⟨rfl, X12, rfl⟩; rw [HG2.out])))
      go_roundw
      case rel => exact ⟨k + 1, by omega, by go_num, HGOOD, exq⟩
      case measure => simp [intOf]; omega
    · have hall := all_end hge HA.out
      have hnl : ¬ k < beds.length := by omega
      have HALL := Lib.hid hall
      clear hall
      clear HA
      go_wp2_with fail
      go_loopw [4] (fun i wr => ∃ k : Nat, k ≤ hours.length ∧ i = .int .i64 k ∧ Hid (∀ j y, j < k → hours[j]? = some y → hourOk y = true) ∧ (World.ext _ X8).Exts wr) (fun i _ => hours.length - (intOf i).toNat)
      case atStart => exact ⟨0, Nat.zero_le _, rfl, Lib.hid (fun j y hj => by omega), exq⟩
      case round =>
        clear hk hge hnl
        obtain ⟨k, hk, rfl, HA, hE⟩ := hrel
        obtain ⟨X9, rfl⟩ := hE
        rcases Nat.lt_or_ge k hours.length with hlt | hge
        · obtain ⟨rfl, hlay⟩ := HHQ.out (by omega)
          obtain ⟨⟨⟨mlo, mhi⟩, runs, crew, cold⟩, hx⟩ := some_of_lt hlt
          have hcs := HHC.out k _ hx
          dsimp only at hcs
          have w2 : (k : Int) < (hours.length : Int) := by omega
          obtain ⟨g1, eg1⟩ : ∃ z, ordered ⟨mlo, mhi⟩ 0 50 = z := ⟨_, rfl⟩
          obtain ⟨g2, eg2⟩ : ∃ z, inb 0 60 runs = z := ⟨_, rfl⟩
          obtain ⟨g3, eg3⟩ : ∃ z, inb 0 12 crew = z := ⟨_, rfl⟩
          have hok : hourOk ⟨⟨mlo, mhi⟩, runs, crew, cold⟩ = (g1 && (g2 && g3)) := by unfold hourOk; dsimp only; rw [eg1, eg2, eg3]
          have HOK := Lib.hid hok
          clear hok
          have HCS := Lib.hid hcs
          clear hcs
          have HX := Lib.hid hx
          clear hx
          have HG1 := Lib.hid eg1
          clear eg1
          have HG2 := Lib.hid eg2
          clear eg2
          have HG3 := Lib.hid eg3
          clear eg3
          cases g1
          case false =>
            have hbad := all_bad (f := hourOk) HX.out HOK.out
            have HBAD := Lib.hid hbad
            clear hbad
            go_wp2_with (first
              | (go_at_call 52; ((with_reducible refine (r02_spanned_any ⟨mlo, mhi⟩ 0 50 _).mono ?_); rintro e w' ⟨rfl, X11, rfl⟩; rw [HG1.out]))
              | (go_at_call 27; ((with_reducible refine (r02_within_any runs 0 60 _).mono ?_); rintro e w' ⟨rfl, X12, rfl⟩; rw [HG2.out]))
              | (go_at_call 27; ((with_reducible refine (r02_within_any crew 0 12 _).mono ?_); rintro e w' ⟨rfl, X13, rfl⟩; rw [HG3.out]))
              | (refine wpList_load_mid rfl 75 _ rfl hb (ho + k * 5) rfl [.int .i64 mlo, .int .i64 mhi, .int .i64 runs, .int .i64 crew, .bool cold] _ (fun j u hju => World.Exts.cell (a := w) exq (HCS.out j u hju)) Tryz.underlying75 rfl (by kernel_rfl) ?_)
              | ((with_reducible refine wpList_store_new (t := 75) (cells := #[.int .i64 mlo, .int .i64 mhi, .int .i64 runs, .int .i64 crew, .bool cold]) ?_ ?_ ?_ ?_ ?_ ?_); (· first | rfl | (simp [go_sem]; done)); (· rfl); (· kernel_rfl); (· rfl); (· simp [Value.oneCell'])))
            go_ret
            exact ⟨by rw [HF.out, HALL.out, HBAD.out]; rfl, exq⟩
          cases g2
          case false =>
            have hbad := all_bad (f := hourOk) HX.out HOK.out
            have HBAD := Lib.hid hbad
            clear hbad
            go_wp2_with (first
              | (go_at_call 52; ((with_reducible refine (r02_spanned_any ⟨mlo, mhi⟩ 0 50 _).mono ?_); rintro e w' ⟨rfl, X11, rfl⟩; rw [HG1.out]))
              | (go_at_call 27; ((with_reducible refine (r02_within_any runs 0 60 _).mono ?_); rintro e w' ⟨rfl, X12, rfl⟩; rw [HG2.out]))
              | (go_at_call 27; ((with_reducible refine (r02_within_any crew 0 12 _).mono ?_); rintro e w' ⟨rfl, X13, rfl⟩; rw [HG3.out]))
              | (refine wpList_load_mid rfl 75 _ rfl hb (ho + k * 5) rfl [.int .i64 mlo, .int .i64 mhi, .int .i64 runs, .int .i64 crew, .bool cold] _ (fun j u hju => World.Exts.cell (a := w) exq (HCS.out j u hju)) Tryz.underlying75 rfl (by kernel_rfl) ?_)
              | ((with_reducible refine wpList_store_new (t := 75) (cells := #[.int .i64 mlo, .int .i64 mhi, .int .i64 runs, .int .i64 crew, .bool cold]) ?_ ?_ ?_ ?_ ?_ ?_); (· first | rfl | (simp [go_sem]; done)); (· rfl); (· kernel_rfl); (· rfl); (· simp [Value.oneCell'])))
            go_ret
            exact ⟨by rw [HF.out, HALL.out, HBAD.out]; rfl, exq⟩
          cases g3
          case false =>
            have hbad := all_bad (f := hourOk) HX.out HOK.out
            have HBAD := Lib.hid hbad
            clear hbad
            go_wp2_with (first
              | (go_at_call 52; ((with_reducible refine (r02_spanned_any ⟨mlo, mhi⟩ 0 50 _).mono ?_); rintro e w' ⟨rfl, X11, rfl⟩; rw [HG1.out]))
              | (go_at_call 27; ((with_reducible refine (r02_within_any runs 0 60 _).mono ?_); rintro e w' ⟨rfl, X12, rfl⟩; rw [HG2.out]))
              | (go_at_call 27; ((with_reducible refine (r02_within_any crew 0 12 _).mono ?_); rintro e w' ⟨rfl, X13, rfl⟩; rw [HG3.out]))
              | (refine wpList_load_mid rfl 75 _ rfl hb (ho + k * 5) rfl [.int .i64 mlo, .int .i64 mhi, .int .i64 runs, .int .i64 crew, .bool cold] _ (fun j u hju => World.Exts.cell (a := w) exq (HCS.out j u hju)) Tryz.underlying75 rfl (by kernel_rfl) ?_)
              | ((with_reducible refine wpList_store_new (t := 75) (cells := #[.int .i64 mlo, .int .i64 mhi, .int .i64 runs, .int .i64 crew, .bool cold]) ?_ ?_ ?_ ?_ ?_ ?_); (· first | rfl | (simp [go_sem]; done)); (· rfl); (· kernel_rfl); (· rfl); (· simp [Value.oneCell'])))
            go_ret
            exact ⟨by rw [HF.out, HALL.out, HBAD.out]; rfl, exq⟩
          have hgood := all_at HX.out HA.out HOK.out
          have HGOOD := Lib.hid hgood
          clear hgood
          go_wp2_with (first
            | (go_at_call 52; ((with_reducible refine (r02_spanned_any ⟨mlo, mhi⟩ 0 50 _).mono ?_); rintro e w' ⟨rfl, X11, rfl⟩; rw [HG1.out]))
            | (go_at_call 27; ((with_reducible refine (r02_within_any runs 0 60 _).mono ?_); rintro e w' ⟨rfl, X12, rfl⟩; rw [HG2.out]))
            | (go_at_call 27; ((with_reducible refine (r02_within_any crew 0 12 _).mono ?_); rintro e w' ⟨rfl, X13, rfl⟩; rw [HG3.out]))
            | (refine wpList_load_mid rfl 75 _ rfl hb (ho + k * 5) rfl [.int .i64 mlo, .int .i64 mhi, .int .i64 runs, .int .i64 crew, .bool cold] _ (fun j u hju => World.Exts.cell (a := w) exq (HCS.out j u hju)) Tryz.underlying75 rfl (by kernel_rfl) ?_)
            | ((with_reducible refine wpList_store_new (t := 75) (cells := #[.int .i64 mlo, .int .i64 mhi, .int .i64 runs, .int .i64 crew, .bool cold]) ?_ ?_ ?_ ?_ ?_ ?_); (· first | rfl | (simp [go_sem]; done)); (· rfl); (· kernel_rfl); (· rfl); (· simp [Value.oneCell'])))
          go_roundw
          case rel => exact ⟨k + 1, by omega, by go_num, HGOOD, exq⟩
          case measure => simp [intOf]; omega
        · have hall := all_end hge HA.out
          have hnl : ¬ k < hours.length := by omega
          have HALH := Lib.hid hall
          clear hall
          clear HA
          go_wp2_with fail
          go_ret
          exact ⟨by rw [HF.out, HALL.out, HALH.out]; rfl, exq⟩

set_option maxHeartbeats 1000000 in
theorem r02_Check_any (c : Kr.Cover) (v : CoverV) (w : World) (h : CoverAt w c v) :
    Calls Tryz.prog 7 #[.agg #[v.t, v.b, v.h, .int .i64 c.wear.lo, .int .i64 c.wear.hi, .int .i64 c.layer.lo, .int .i64 c.layer.hi, .int .i64 c.rate, .int .i64 c.limit, .int .i64 c.base]] w fun e w' => e = .returned (.int .i64 (coverErr c)) ∧ w.Exts w' := by
  have ht := fun (W : World) (hE : w.Exts W) => r01_Check_any c.track v.t W (h.tr.mono hE)
  have hi := fun (W : World) (hE : w.Exts W) => r02_Ice_any c v W (h.mono hE)
  obtain ⟨vt, vb, vh⟩ := v
  obtain ⟨qt, ct, hqt⟩ := h.tr.len
  obtain ⟨qb, cb, hqb⟩ := h.bd.len
  obtain ⟨qh, ch, hqh⟩ := h.hr.len
  dsimp only at hqt hqb hqh
  subst hqt hqb hqh
  clear h
  unfold coverErr
  generalize trackB c.track = b1 at ht ⊢
  generalize iceB c = b2 at hi ⊢
  dsimp only at ht hi
  have HT := Lib.hid ht
  clear ht
  have HI := Lib.hid hi
  clear hi
  cases b1 <;> cases b2
  all_goals
    go_enter Tryz.func7, Tryz.ntmps7
    go_wp2_with (first
      | (go_at_call 23; refine (HT.out _ exq).mono ?_; rintro e w' ⟨rfl, X1, rfl⟩)
      | (go_at_call 24; refine (HI.out _ exq).mono ?_; rintro e w' ⟨rfl, X2, rfl⟩))
    go_ret
    exact ⟨rfl, exq⟩
end Go.Proofs.YtcickafaomfbmaaGreatDoor

/-
  Walks of the reference of ice: Valid.
-/
namespace Go.Proofs.YtcickafaomfbmaaGreatDoor
open Go.RowKit Kr
set_option linter.unusedSimpArgs false
set_option linter.unusedVariables false

set_option maxRecDepth 4000 in
set_option maxHeartbeats 8000000 in
theorem r02_Valid_any (c : Kr.Cover) (v : CoverV) (ps : List (List Int × Value)) (pv : Value) (w : World) (h : CoverAt w c v) (hp : ListsAt w pv ps) :
    Calls Tryz.prog 9 #[.agg #[v.t, v.b, v.h, .int .i64 c.wear.lo, .int .i64 c.wear.hi, .int .i64 c.layer.lo, .int .i64 c.layer.hi, .int .i64 c.rate, .int .i64 c.limit, .int .i64 c.base], pv] w fun e w' => e = .returned (.bool (validP c (ps.map Prod.fst))) ∧ w.Exts w' := by
  obtain ⟨trk, beds, hours, ⟨wlo, whi⟩, ⟨ylo, yhi⟩, rate, limit, base⟩ := c
  obtain ⟨vt, vb, vh⟩ := v
  obtain ⟨qt, ct, hqt⟩ := h.tr.len
  obtain ⟨qb, cb, hqb⟩ := h.bd.len
  obtain ⟨qh, ch, hqh⟩ := h.hr.len
  dsimp only at hqt hqb hqh
  subst hqt hqb hqh
  have hhr := h.hr
  have hbdl := h.bd.ex
  clear h
  obtain ⟨_, bb, bo, _, ebb, hbm, -, -⟩ := hbdl
  cases ebb
  obtain ⟨_, hb, ho, _, eh, hhm, hhq, hhc⟩ := hhr.ex
  cases eh
  obtain ⟨qp, pb, po, cp, rfl, hpm, hpq, hpc⟩ := hp.row.ex
  have hpmem := hp.mem
  clear hhr hp
  dsimp only at hhm hhq hhc hbm ⊢
  obtain ⟨b1, e1⟩ : ∃ z, decide (ps.length = hours.length) = z := ⟨_, rfl⟩
  have hf : validP ⟨trk, beds, hours, ⟨wlo, whi⟩, ⟨ylo, yhi⟩, rate, limit, base⟩ (ps.map Prod.fst) = (b1 && allN (dayOk ⟨trk, beds, hours, ⟨wlo, whi⟩, ⟨ylo, yhi⟩, rate, limit, base⟩ (ps.map Prod.fst)) ps.length) := by
    unfold validP
    rw [List.length_map]
    dsimp only
    rw [e1]
  have hday : ∀ k l lv (hr : Kr.Hour), ps[k]? = some (l, lv) → hours[k]? = some hr → dayOk ⟨trk, beds, hours, ⟨wlo, whi⟩, ⟨ylo, yhi⟩, rate, limit, base⟩ (ps.map Prod.fst) k = ((decide ((l.length : Int) ≤ hr.crew) && (decide (l.length = 0) || hr.cold)) && allN (rAt 0 ((beds.length : Int) - 1) l) l.length) := by
    intro k l lv hr hk hh
    unfold dayOk
    dsimp only
    rw [getD_of hh, getD_of (show (ps.map Prod.fst)[k]? = some l by rw [List.getElem?_map, hk]; rfl), rAt_eq]
  have hgo : (∀ j, j < ps.length → dayOk ⟨trk, beds, hours, ⟨wlo, whi⟩, ⟨ylo, yhi⟩, rate, limit, base⟩ (ps.map Prod.fst) j = true) → allN (dayOk ⟨trk, beds, hours, ⟨wlo, whi⟩, ⟨ylo, yhi⟩, rate, limit, base⟩ (ps.map Prod.fst)) ps.length = true := fun hh => allN_iff.2 hh
  have hgx : ∀ j, j < ps.length → dayOk ⟨trk, beds, hours, ⟨wlo, whi⟩, ⟨ylo, yhi⟩, rate, limit, base⟩ (ps.map Prod.fst) j = false → allN (dayOk ⟨trk, beds, hours, ⟨wlo, whi⟩, ⟨ylo, yhi⟩, rate, limit, base⟩ (ps.map Prod.fst)) ps.length = false := fun j hj hh => allN_false hj hh
  generalize dayOk ⟨trk, beds, hours, ⟨wlo, whi⟩, ⟨ylo, yhi⟩, rate, limit, base⟩ (ps.map Prod.fst) = D at hf hday hgo hgx
  generalize allN D ps.length = an at hf hgo hgx
  have f1 : decide ((ps.length : Int) = (hours.length : Int)) = b1 := by rw [← e1, decide_eq_decide]; omega
  have f2 : ((ps.length : Int) == (hours.length : Int)) = b1 := by rw [← f1]; rfl
  have f3 : ((ps.length : Int) != (hours.length : Int)) = !b1 := by rw [← f2]; rfl
  rw [hf]
  clear hf
  have HDAY := Lib.hid hday
  clear hday
  have HGO := Lib.hid hgo
  clear hgo
  have HGX := Lib.hid hgx
  clear hgx
  have HPQ := Lib.hid hpq
  clear hpq
  have HPC := Lib.hid hpc
  clear hpc
  have HPM := Lib.hid hpmem
  clear hpmem
  have HHQ := Lib.hid hhq
  clear hhq
  have HHC := Lib.hid hhc
  clear hhc
  have HE1 := Lib.hid e1
  clear e1
  cases b1
  case false =>
    go_enter Tryz.func9, Tryz.ntmps9
    go_wp2_with fail
    go_ret
    exact ⟨rfl, exq⟩
  go_enter Tryz.func9, Tryz.ntmps9
  go_wp2_with fail
  clear f1 f2 f3
  go_loopw [5] (fun i wr => ∃ k : Nat, k ≤ ps.length ∧ i = .int .i64 k ∧ Hid (∀ j, j < k → D j = true) ∧ (w.alloc (.cells #[.slice qt trk.length ct, .slice qb beds.length cb, .slice qh hours.length ch, .int .i64 wlo, .int .i64 whi, .int .i64 ylo, .int .i64 yhi, .int .i64 rate, .int .i64 limit, .int .i64 base] 30)).Exts wr) (fun i _ => ps.length - (intOf i).toNat)
  case atStart => exact ⟨0, Nat.zero_le _, rfl, Lib.hid (fun j hj => by omega), exq⟩
  case round =>
    obtain ⟨k, hk, rfl, HA, hE⟩ := hrel
    obtain ⟨X8, rfl⟩ := hE
    rcases Nat.lt_or_ge k ps.length with hlt | hge
    · have hlh : k < hours.length := by have := HE1.out; simp at this; omega
      obtain ⟨rfl, hlay⟩ := HPQ.out (by omega)
      obtain ⟨rfl, hlay2⟩ := HHQ.out (by omega)
      obtain ⟨⟨l, lv⟩, hx⟩ := some_of_lt hlt
      have p0 := HPC.out k _ hx 0 _ rfl
      simp only [Nat.mul_one, Nat.add_zero] at p0
      have hrow := HPM.out _ (List.mem_of_getElem? hx)
      dsimp only at hrow
      obtain ⟨ql, lb, lo, lc, rfl, hlm, hlq, hlc⟩ := hrow.ex
      obtain ⟨⟨⟨mlo, mhi⟩, runs, crew, cold⟩, hy⟩ := some_of_lt hlh
      have d3 := HHC.out k _ hy 3 _ rfl
      have d4 := HHC.out k _ hy 4 _ rfl
      dsimp only at d3 d4
      have hd := HDAY.out k l _ _ hx hy
      dsimp only at hd
      have w1 : (k : Int) < (ps.length : Int) := by omega
      have w2 : (k : Int) < (hours.length : Int) := by omega
      have hxk := HGX.out k hlt
      clear hrow hx hy
      have HLQ := Lib.hid hlq
      clear hlq
      have HLC := Lib.hid hlc
      clear hlc
      rcases Int.lt_or_le crew (l.length : Int) with hcl | hcl
      · have hbad := hxk (by rw [hd, decide_eq_false (by omega)]; rfl)
        have hcd : decide (crew < (l.length : Int)) = true := decide_eq_true hcl
        have HBAD := Lib.hid hbad
        clear hbad
        clear hxk hd
        go_wp2_with fail
        refine wp_region_ext (by kernel_rfl) (by kernel_rfl) ?_
        repeat (go_big_quiet_step (fail))
        refine wpQuiet_nil ?_
        rintro _ ⟨X, rfl⟩
        go_wp2_with fail
        go_ret
        exact ⟨by rw [HBAD.out]; rfl, exq⟩
      rw [decide_eq_true hcl] at hd
      have hcl2 : ¬ crew < (l.length : Int) := by omega
      have hcd : decide (crew < (l.length : Int)) = false := decide_eq_false hcl2
      rcases Nat.eq_zero_or_pos l.length with hl0 | hl0
      · rw [decide_eq_true hl0, Bool.true_or, Bool.true_and, Bool.true_and] at hd
        have u1 : ¬ 0 < l.length := by omega
        have u2 : ¬ (0 : Int) < (l.length : Int) := by omega
        have u3 : decide (0 < l.length) = false := decide_eq_false u1
        have u4 : decide ((0 : Int) < (l.length : Int)) = false := decide_eq_false u2
        have hbadl : allN (rAt 0 ((beds.length : Int) - 1) l) l.length = false → (true && an) = false := fun hh => by rw [hxk (by rw [hd, hh])]; rfl
        have hgoodl : allN (rAt 0 ((beds.length : Int) - 1) l) l.length = true → D k = true := fun hh => by rw [hd, hh]
        have HBADL := Lib.hid hbadl
        clear hbadl
        have HGOODL := Lib.hid hgoodl
        clear hgoodl
        clear hxk hd hl0
        go_wp2_with fail
        refine wp_region_ext (by kernel_rfl) (by kernel_rfl) ?_
        repeat (go_big_quiet_step (fail))
        refine wpQuiet_nil ?_
        rintro _ ⟨X, rfl⟩
        go_wp2_with fail
        clear u1 u2 u3 u4
        go_loopw [6] (fun i wr => ∃ k2 : Nat, k2 ≤ l.length ∧ i = .int .i64 k2 ∧ Hid (∀ j, j < k2 → rAt 0 ((beds.length : Int) - 1) l j = true) ∧ (World.ext _ X).Exts wr) (fun i _ => l.length - (intOf i).toNat)
        case atStart => exact ⟨0, Nat.zero_le _, rfl, Lib.hid (fun j hj => by omega), exq⟩
        case round =>
          obtain ⟨k2, hk2, rfl, HA2, hE⟩ := hrel
          obtain ⟨X9, rfl⟩ := hE
          rcases Nat.lt_or_ge k2 l.length with hlt2 | hge2
          · obtain ⟨rfl, hlay3⟩ := HLQ.out (by omega)
            obtain ⟨y, hy⟩ := some_of_lt hlt2
            have c0 := HLC.out k2 y hy 0 _ rfl
            simp only [Nat.mul_one, Nat.add_zero] at c0
            obtain ⟨g1, hg1⟩ : ∃ z, inb 0 ((beds.length : Int) - 1) y = z := ⟨_, rfl⟩
            have w4 : (k2 : Int) < (l.length : Int) := by omega
            rcases Nat.eq_zero_or_pos k2 with hk0 | hk0
            · have hgA : rAt 0 ((beds.length : Int) - 1) l k2 = g1 := by unfold rAt; rw [getD_of hy, hg1, decide_eq_true hk0]; simp
              have w3 : ¬ (0 : Int) < (k2 : Int) := by omega
              have w5 : ¬ 0 < k2 := by omega
              have w7 : decide (0 < k2) = false := decide_eq_false w5
              have w8 : decide ((0 : Int) < (k2 : Int)) = false := decide_eq_false w3
              have HG1 := Lib.hid hg1
              clear hg1
              clear hk0 hy
              cases g1
              · have hbad := HBADL.out (allN_false hlt2 hgA)
                have HBAD := Lib.hid hbad
                clear hbad
                clear hgA
                go_wp2_with fail
                refine wp_region_ext (by kernel_rfl) (by kernel_rfl) ?_
                repeat (go_big_quiet_step ((go_at_call 27; with_reducible exact Calls.in_ext_eq (r02_within_any y 0 ((beds.length : Int) - 1) _) (congrArg Value.bool HG1.out))))
                refine wpQuiet_nil ?_
                rintro _ ⟨X, rfl⟩
                go_wp2_with fail
                go_ret
                exact ⟨by rw [HBAD.out]; rfl, exq⟩
              · have hgood := below_snoc HA2.out hgA
                have HGOOD := Lib.hid hgood
                clear hgood
                clear hgA
                go_wp2_with fail
                refine wp_region_ext (by kernel_rfl) (by kernel_rfl) ?_
                repeat (go_big_quiet_step ((go_at_call 27; with_reducible exact Calls.in_ext_eq (r02_within_any y 0 ((beds.length : Int) - 1) _) (congrArg Value.bool HG1.out))))
                refine wpQuiet_nil ?_
                rintro _ ⟨X, rfl⟩
                go_wp2_with fail
                go_roundw
                case rel => exact ⟨k2 + 1, by omega, by go_num, HGOOD, exq⟩
                case measure => simp [intOf]; omega
            · obtain ⟨z, hz⟩ := some_of_lt (show k2 - 1 < l.length by omega)
              have d0 := HLC.out (k2 - 1) z hz 0 _ rfl
              simp only [Nat.mul_one, Nat.add_zero] at d0
              have hgA : rAt 0 ((beds.length : Int) - 1) l k2 = (g1 && decide (z < y)) := by unfold rAt; rw [getD_of hy, getD_of hz, hg1, show decide (k2 = 0) = false by simp; omega, Bool.false_or]
              have w3 : (0 : Int) < (k2 : Int) := by omega
              have w7 : decide (0 < k2) = true := decide_eq_true (by omega)
              have w8 : decide ((0 : Int) < (k2 : Int)) = true := decide_eq_true w3
              have w6 : (k2 : Int) - 1 < (l.length : Int) := by omega
              have HG1 := Lib.hid hg1
              clear hg1
              clear hy hz
              cases g1
              · have hbad := HBADL.out (allN_false hlt2 hgA)
                have HBAD := Lib.hid hbad
                clear hbad
                clear hgA
                go_wp2_with fail
                refine wp_region_ext (by kernel_rfl) (by kernel_rfl) ?_
                repeat (go_big_quiet_step ((go_at_call 27; with_reducible exact Calls.in_ext_eq (r02_within_any y 0 ((beds.length : Int) - 1) _) (congrArg Value.bool HG1.out))))
                refine wpQuiet_nil ?_
                rintro _ ⟨X, rfl⟩
                go_wp2_with fail
                go_ret
                exact ⟨by rw [HBAD.out]; rfl, exq⟩
              · rcases Int.lt_or_le z y with hzy | hzy
                · have hgood := below_snoc HA2.out (hgA.trans (by rw [decide_eq_true hzy]; rfl))
                  have d5 : decide (y ≤ z) = false := by simp; omega
                  have HGOOD := Lib.hid hgood
                  clear hgood
                  clear hgA
                  go_wp2_with fail
                  refine wp_region_ext (by kernel_rfl) (by kernel_rfl) ?_
                  repeat (go_big_quiet_step ((go_at_call 27; with_reducible exact Calls.in_ext_eq (r02_within_any y 0 ((beds.length : Int) - 1) _) (congrArg Value.bool HG1.out))))
                  refine wpQuiet_nil ?_
                  rintro _ ⟨X, rfl⟩
                  go_wp2_with fail
                  go_roundw
                  case rel => exact ⟨k2 + 1, by omega, by go_num, HGOOD, exq⟩
                  case measure => simp [intOf]; omega
                · have hbad := HBADL.out (allN_false hlt2 (hgA.trans (by rw [decide_eq_false (by omega)]; rfl)))
                  have d5 : decide (y ≤ z) = true := by simp; omega
                  have HBAD := Lib.hid hbad
                  clear hbad
                  clear hgA
                  go_wp2_with fail
                  refine wp_region_ext (by kernel_rfl) (by kernel_rfl) ?_
                  repeat (go_big_quiet_step ((go_at_call 27; with_reducible exact Calls.in_ext_eq (r02_within_any y 0 ((beds.length : Int) - 1) _) (congrArg Value.bool HG1.out))))
                  refine wpQuiet_nil ?_
                  rintro _ ⟨X, rfl⟩
                  go_wp2_with fail
                  go_ret
                  exact ⟨by rw [HBAD.out]; rfl, exq⟩
          · have hday := HGOODL.out (allN_iff.2 (fun j hj => HA2.out j (by omega)))
            have hnl : ¬ k2 < l.length := by omega
            have hgood := below_snoc HA.out hday
            have HGOOD := Lib.hid hgood
            clear hgood
            clear hday HA2
            go_wp2_with fail
            go_roundw
            case rel => exact ⟨k + 1, by omega, by go_num, HGOOD, exq⟩
            case measure => simp [intOf]; omega
      · have u2 : (0 : Int) < (l.length : Int) := by omega
        have u3 : decide (0 < l.length) = true := decide_eq_true hl0
        have u4 : decide ((0 : Int) < (l.length : Int)) = true := decide_eq_true u2
        rw [show decide (l.length = 0) = false from decide_eq_false (by omega), Bool.false_or, Bool.true_and] at hd
        cases cold
        · have hbad := hxk (by rw [hd]; rfl)
          have HBAD := Lib.hid hbad
          clear hbad
          clear hxk hd
          go_wp2_with fail
          refine wp_region_ext (by kernel_rfl) (by kernel_rfl) ?_
          repeat (go_big_quiet_step (fail))
          refine wpQuiet_nil ?_
          rintro _ ⟨X, rfl⟩
          go_wp2_with fail
          go_ret
          exact ⟨by rw [HBAD.out]; rfl, exq⟩
        · rw [Bool.true_and] at hd
          have hbadl : allN (rAt 0 ((beds.length : Int) - 1) l) l.length = false → (true && an) = false := fun hh => by rw [hxk (by rw [hd, hh])]; rfl
          have hgoodl : allN (rAt 0 ((beds.length : Int) - 1) l) l.length = true → D k = true := fun hh => by rw [hd, hh]
          have HBADL := Lib.hid hbadl
          clear hbadl
          have HGOODL := Lib.hid hgoodl
          clear hgoodl
          clear hxk hd
          go_wp2_with fail
          refine wp_region_ext (by kernel_rfl) (by kernel_rfl) ?_
          repeat (go_big_quiet_step (fail))
          refine wpQuiet_nil ?_
          rintro _ ⟨X, rfl⟩
          go_wp2_with fail
          go_loopw [6] (fun i wr => ∃ k2 : Nat, k2 ≤ l.length ∧ i = .int .i64 k2 ∧ Hid (∀ j, j < k2 → rAt 0 ((beds.length : Int) - 1) l j = true) ∧ (World.ext _ X).Exts wr) (fun i _ => l.length - (intOf i).toNat)
          case atStart => exact ⟨0, Nat.zero_le _, rfl, Lib.hid (fun j hj => by omega), exq⟩
          case round =>
            obtain ⟨k2, hk2, rfl, HA2, hE⟩ := hrel
            obtain ⟨X9, rfl⟩ := hE
            rcases Nat.lt_or_ge k2 l.length with hlt2 | hge2
            · obtain ⟨rfl, hlay3⟩ := HLQ.out (by omega)
              obtain ⟨y, hy⟩ := some_of_lt hlt2
              have c0 := HLC.out k2 y hy 0 _ rfl
              simp only [Nat.mul_one, Nat.add_zero] at c0
              obtain ⟨g1, hg1⟩ : ∃ z, inb 0 ((beds.length : Int) - 1) y = z := ⟨_, rfl⟩
              have w4 : (k2 : Int) < (l.length : Int) := by omega
              rcases Nat.eq_zero_or_pos k2 with hk0 | hk0
              · have hgA : rAt 0 ((beds.length : Int) - 1) l k2 = g1 := by unfold rAt; rw [getD_of hy, hg1, decide_eq_true hk0]; simp
                have w3 : ¬ (0 : Int) < (k2 : Int) := by omega
                have w5 : ¬ 0 < k2 := by omega
                have w7 : decide (0 < k2) = false := decide_eq_false w5
                have w8 : decide ((0 : Int) < (k2 : Int)) = false := decide_eq_false w3
                have HG1 := Lib.hid hg1
                clear hg1
                clear hk0 hy
                cases g1
                · have hbad := HBADL.out (allN_false hlt2 hgA)
                  have HBAD := Lib.hid hbad
                  clear hbad
                  clear hgA
                  go_wp2_with fail
                  refine wp_region_ext (by kernel_rfl) (by kernel_rfl) ?_
                  repeat (go_big_quiet_step ((go_at_call 27; with_reducible exact Calls.in_ext_eq (r02_within_any y 0 ((beds.length : Int) - 1) _) (congrArg Value.bool HG1.out))))
                  refine wpQuiet_nil ?_
                  rintro _ ⟨X, rfl⟩
                  go_wp2_with fail
                  go_ret
                  exact ⟨by rw [HBAD.out]; rfl, exq⟩
                · have hgood := below_snoc HA2.out hgA
                  have HGOOD := Lib.hid hgood
                  clear hgood
                  clear hgA
                  go_wp2_with fail
                  refine wp_region_ext (by kernel_rfl) (by kernel_rfl) ?_
                  repeat (go_big_quiet_step ((go_at_call 27; with_reducible exact Calls.in_ext_eq (r02_within_any y 0 ((beds.length : Int) - 1) _) (congrArg Value.bool HG1.out))))
                  refine wpQuiet_nil ?_
                  rintro _ ⟨X, rfl⟩
                  go_wp2_with fail
                  go_roundw
                  case rel => exact ⟨k2 + 1, by omega, by go_num, HGOOD, exq⟩
                  case measure => simp [intOf]; omega
              · obtain ⟨z, hz⟩ := some_of_lt (show k2 - 1 < l.length by omega)
                have d0 := HLC.out (k2 - 1) z hz 0 _ rfl
                simp only [Nat.mul_one, Nat.add_zero] at d0
                have hgA : rAt 0 ((beds.length : Int) - 1) l k2 = (g1 && decide (z < y)) := by unfold rAt; rw [getD_of hy, getD_of hz, hg1, show decide (k2 = 0) = false by simp; omega, Bool.false_or]
                have w3 : (0 : Int) < (k2 : Int) := by omega
                have w7 : decide (0 < k2) = true := decide_eq_true (by omega)
                have w8 : decide ((0 : Int) < (k2 : Int)) = true := decide_eq_true w3
                have w6 : (k2 : Int) - 1 < (l.length : Int) := by omega
                have HG1 := Lib.hid hg1
                clear hg1
                clear hy hz
                cases g1
                · have hbad := HBADL.out (allN_false hlt2 hgA)
                  have HBAD := Lib.hid hbad
                  clear hbad
                  clear hgA
                  go_wp2_with fail
                  refine wp_region_ext (by kernel_rfl) (by kernel_rfl) ?_
                  repeat (go_big_quiet_step ((go_at_call 27; with_reducible exact Calls.in_ext_eq (r02_within_any y 0 ((beds.length : Int) - 1) _) (congrArg Value.bool HG1.out))))
                  refine wpQuiet_nil ?_
                  rintro _ ⟨X, rfl⟩
                  go_wp2_with fail
                  go_ret
                  exact ⟨by rw [HBAD.out]; rfl, exq⟩
                · rcases Int.lt_or_le z y with hzy | hzy
                  · have hgood := below_snoc HA2.out (hgA.trans (by rw [decide_eq_true hzy]; rfl))
                    have d5 : decide (y ≤ z) = false := by simp; omega
                    have HGOOD := Lib.hid hgood
                    clear hgood
                    clear hgA
                    go_wp2_with fail
                    refine wp_region_ext (by kernel_rfl) (by kernel_rfl) ?_
                    repeat (go_big_quiet_step ((go_at_call 27; with_reducible exact Calls.in_ext_eq (r02_within_any y 0 ((beds.length : Int) - 1) _) (congrArg Value.bool HG1.out))))
                    refine wpQuiet_nil ?_
                    rintro _ ⟨X, rfl⟩
                    go_wp2_with fail
                    go_roundw
                    case rel => exact ⟨k2 + 1, by omega, by go_num, HGOOD, exq⟩
                    case measure => simp [intOf]; omega
                  · have hbad := HBADL.out (allN_false hlt2 (hgA.trans (by rw [decide_eq_false (by omega)]; rfl)))
                    have d5 : decide (y ≤ z) = true := by simp; omega
                    have HBAD := Lib.hid hbad
                    clear hbad
                    clear hgA
                    go_wp2_with fail
                    refine wp_region_ext (by kernel_rfl) (by kernel_rfl) ?_
                    repeat (go_big_quiet_step ((go_at_call 27; with_reducible exact Calls.in_ext_eq (r02_within_any y 0 ((beds.length : Int) - 1) _) (congrArg Value.bool HG1.out))))
                    refine wpQuiet_nil ?_
                    rintro _ ⟨X, rfl⟩
                    go_wp2_with fail
                    go_ret
                    exact ⟨by rw [HBAD.out]; rfl, exq⟩
            · have hday := HGOODL.out (allN_iff.2 (fun j hj => HA2.out j (by omega)))
              have hnl : ¬ k2 < l.length := by omega
              have hgood := below_snoc HA.out hday
              have HGOOD := Lib.hid hgood
              clear hgood
              clear hday HA2
              go_wp2_with fail
              go_roundw
              case rel => exact ⟨k + 1, by omega, by go_num, HGOOD, exq⟩
              case measure => simp [intOf]; omega
    · have hall := HGO.out (fun j hj => HA.out j (by omega))
      have hnl : ¬ k < ps.length := by omega
      have HALL := Lib.hid hall
      clear hall
      clear HA
      go_wp2_with fail
      go_ret
      exact ⟨by rw [HALL.out]; rfl, exq⟩
end Go.Proofs.YtcickafaomfbmaaGreatDoor

/-
  Walks of package track: Check.
-/
namespace Go.Proofs.YtcickafaomfbmaaGreatDoor
open Go.RowKit Kr
set_option linter.unusedSimpArgs false
set_option linter.unusedVariables false

theorem inAll_single (lo hi x : Int) : inAll lo hi [x] = inb lo hi x := by unfold inAll; simp
def lastId (t : List Kr.Stretch) (k : Nat) : Int := if k = 0 then -1 else (t.getD (k - 1) default).id
theorem lastId_succ {t : List Kr.Stretch} {k : Nat} {x : Kr.Stretch} (h : t[k]? = some x) : lastId t (k + 1) = x.id := by
  unfold lastId
  rw [if_neg (by omega), Nat.add_sub_cancel, getD_of h]
theorem last_in {t : List Kr.Stretch} {k : Nat} {x : Kr.Stretch} (hx : t[k]? = some x) (hA : ∀ j, j < k → strAt t j = true) :
    (inAll (lastId t k + 1) 9999 [x.id] = (inb 0 9999 x.id && (decide (k = 0) || decide ((t.getD (k - 1) default).id < x.id)))) ∧ -1 ≤ lastId t k ∧ lastId t k ≤ 9999 := by
  rcases Nat.eq_zero_or_pos k with h | h
  · subst h
    have h0 : lastId t 0 = -1 := rfl
    rw [h0]
    refine ⟨?_, by omega, by omega⟩
    simp [inAll]
  · have h1 := hA (k - 1) (by omega)
    unfold strAt at h1
    rw [Bool.and_eq_true] at h1
    have h2 := inb_iff'.1 h1.1
    unfold lastId
    rw [if_neg (by omega)]
    refine ⟨?_, by omega, by omega⟩
    rw [decide_eq_false (show ¬ k = 0 by omega), Bool.false_or, inAll_single, Bool.eq_iff_iff, Bool.and_eq_true, inb_iff', inb_iff', decide_eq_true_eq]
    omega

set_option maxRecDepth 4000 in
set_option maxHeartbeats 20000000 in
theorem track_Check_any (t : List Kr.Stretch) (v : Value) (w : World) (hrow : IsRow (fun s : Kr.Stretch => [.int .i64 s.id, .int .i64 s.long.lo, .int .i64 s.long.hi, .int .i64 s.fall.lo, .int .i64 s.fall.hi, .int .i64 s.radius.lo, .int .i64 s.radius.hi, .int .u8 s.side, .int .i64 s.wall]) 9 w v t) (hsd : ∀ s ∈ t, 0 ≤ s.side ∧ s.side ≤ 255) :
    Calls Tryz.prog 149 #[.agg #[v]] w fun e w' => e = .returned (.int .i64 (if trackB t then 0 else 10)) ∧ w.Exts w' := by
  obtain ⟨p, b, o, cap, rfl, hm, hp, hc⟩ := hrow.ex
  clear hrow
  have HP := Lib.hid hp
  clear hp
  have HC := Lib.hid hc
  clear hc
  have HSD := Lib.hid hsd
  clear hsd
  obtain ⟨b0, hb0⟩ : ∃ z, inAll 1 12 [(t.length : Int)] = z := ⟨_, rfl⟩
  have hf : trackB t = (b0 && allN (strAt t) t.length) := by unfold trackB; rw [← inAll_single, hb0]
  have hgo : (∀ j, j < t.length → strAt t j = true) → allN (strAt t) t.length = true := fun hh => allN_iff.2 hh
  have hgx : ∀ j, j < t.length → strAt t j = false → allN (strAt t) t.length = false := fun j hj hh => allN_false hj hh
  generalize allN (strAt t) t.length = an at hf hgo hgx
  have HB0 := Lib.hid hb0
  clear hb0
  have HF := Lib.hid hf
  clear hf
  have HGO := Lib.hid hgo
  clear hgo
  have HGX := Lib.hid hgx
  clear hgx
  cases b0
  case false =>
    go_enter Tryz.func149, Tryz.ntmps149
    go_wp2_with fail
    go_step3
    go_wp2_with (go_at_call 190; ((with_reducible refine (track_in_any 1 12 _ [(t.length : Int)] _ (row_int1 _ _ _ (by simp))).mono ?_); rintro e w' ⟨rfl, X2, rfl⟩; rw [HB0.out]))
    try rw [Exit.noGoto_ret]
    go_ret
    exact ⟨by rw [HF.out]; rfl, exq⟩
  go_enter Tryz.func149, Tryz.ntmps149
  go_wp2_with fail
  go_step3
  go_wp2_with (go_at_call 190; ((with_reducible refine (track_in_any 1 12 _ [(t.length : Int)] _ (row_int1 _ _ _ (by simp))).mono ?_); rintro e w' ⟨rfl, X2, rfl⟩; rw [HB0.out]))
  go_step3
  go_wp2_with fail
  go_loopw [3, 4, 18] (fun la er i wr => ∃ k : Nat, k ≤ t.length ∧ la = .int .i64 (lastId t k) ∧ er = .int .i64 0 ∧ i = .int .i64 k ∧ Hid (∀ j, j < k → strAt t j = true) ∧ (World.ext _ X2).Exts wr) (fun _ _ i _ => t.length - (intOf i).toNat)
  case atStart => exact ⟨0, Nat.zero_le _, rfl, rfl, rfl, Lib.hid (fun j hj => by omega), exq⟩
  case round =>
    obtain ⟨k, hk, rfl, rfl, rfl, HA, hE⟩ := hrel
    obtain ⟨X3, rfl⟩ := hE
    rcases Nat.lt_or_ge k t.length with hlt | hge
    · obtain ⟨rfl, hlay⟩ := HP.out (by omega)
      obtain ⟨⟨id, ⟨llo, lhi⟩, ⟨flo, fhi⟩, ⟨rlo, rhi⟩, side, wall⟩, hx⟩ := some_of_lt hlt
      have hcs := HC.out k _ hx
      dsimp only at hcs
      have hxk := HGX.out k hlt
      have hside := HSD.out _ (List.mem_of_getElem? hx)
      dsimp only at hside
      have hls := lastId_succ hx
      dsimp only at hls
      obtain ⟨hli, hla1, hla2⟩ := last_in hx HA.out
      dsimp only at hli
      obtain ⟨la, hla⟩ : ∃ z, lastId t k = z := ⟨_, rfl⟩
      rw [hla] at hli hla1 hla2 ⊢
      clear hla
      obtain ⟨c1, hc1⟩ : ∃ z, inAll (la + 1) 9999 [id] = z := ⟨_, rfl⟩
      obtain ⟨b3, ha3⟩ : ∃ z, ordered ⟨llo, lhi⟩ 1 30000 = z := ⟨_, rfl⟩
      obtain ⟨b4, ha4⟩ : ∃ z, ordered ⟨flo, fhi⟩ 0 5000 = z := ⟨_, rfl⟩
      obtain ⟨b5, ha5⟩ : ∃ z, inAll 0 5000 [wall] = z := ⟨_, rfl⟩
      obtain ⟨b6, ha6⟩ : ∃ z, ordered ⟨rlo, rhi⟩ 500 20000 = z := ⟨_, rfl⟩
      obtain ⟨sb, hs1⟩ : ∃ z, inAll 1 2 [side] = z := ⟨_, rfl⟩
      have hgA : strAt t k = (c1 && ((b3 && (b4 && b5)) && sideOk ⟨id, ⟨llo, lhi⟩, ⟨flo, fhi⟩, ⟨rlo, rhi⟩, side, wall⟩)) := by
        unfold strAt strHead
        rw [getD_of hx]
        dsimp only
        rw [← Bool.and_assoc, ← hli, hc1, ha3, ha4, ← inAll_single, ha5]
      have w2 : (k : Int) < (t.length : Int) := by omega
      have hside2 : sb = (decide (side = 1) || decide (side = 2)) := by
        rw [← hs1, Bool.eq_iff_iff]
        simp [inAll, inb]
        omega
      clear hx hli
      have HLS := Lib.hid hls
      clear hls
      have HCS := Lib.hid hcs
      clear hcs
      have HC1 := Lib.hid hc1
      clear hc1
      have HA3 := Lib.hid ha3
      clear ha3
      have HA4 := Lib.hid ha4
      clear ha4
      have HA5 := Lib.hid ha5
      clear ha5
      have HS1 := Lib.hid hs1
      clear hs1
      by_cases s0 : side = 0
      · have hsb : sb = false := by rw [hside2, s0]; rfl
        subst hsb
        have t0 : (side == 0) = true := by simpa using s0
        have u0 : decide (side = 0) = true := by simpa using s0
        by_cases r1 : rlo = 0
        · by_cases r2 : rhi = 0
          · have hso : sideOk ⟨id, ⟨llo, lhi⟩, ⟨flo, fhi⟩, ⟨rlo, rhi⟩, side, wall⟩ = true := by unfold sideOk; simp [s0, r1, r2]
            rw [hso] at hgA
            have a1 : decide (rlo = 0) = true := decide_eq_true r1
            have z1 : (rlo == 0) = true := by simpa using r1
            have a2 : decide (rhi = 0) = true := decide_eq_true r2
            have z2 : (rhi == 0) = true := by simpa using r2
            clear hso hside2 ha6 s0 r1 r2
            have HGA := Lib.hid hgA
            clear hgA
            have HXK := Lib.hid hxk
            clear hxk
            go_wp2_with (first
              | (go_at_call 190; ((with_reducible refine (track_in_any 1 2 _ [side] _ (row_int1 _ _ _ (by simp))).mono ?_); rintro e w' ⟨rfl, X11, rfl⟩; rw [HS1.out]))
              | (go_at_call 191; ((with_reducible refine (track_known_any ⟨rlo, rhi⟩ 500 20000 _).mono ?_); rintro e w' ⟨rfl, X14, rfl⟩; rw [HA6.out]))
              | (refine wpList_load_mid rfl 169 _ rfl b (o + k * 9) rfl [.int .i64 id, .int .i64 llo, .int .i64 lhi, .int .i64 flo, .int .i64 fhi, .int .i64 rlo, .int .i64 rhi, .int .u8 side, .int .i64 wall] _ (fun j u hju => World.Exts.cell (a := w) exq (HCS.out j u hju)) Tryz.underlying169 rfl (by kernel_rfl) ?_)
              | ((with_reducible refine wpList_store_new (t := 169) (cells := #[.int .i64 id, .int .i64 llo, .int .i64 lhi, .int .i64 flo, .int .i64 fhi, .int .i64 rlo, .int .i64 rhi, .int .u8 side, .int .i64 wall]) ?_ ?_ ?_ ?_ ?_ ?_); (· first | rfl | (simp [go_sem]; done)); (· rfl); (· kernel_rfl); (· rfl); (· simp [Value.oneCell'])))
            have hgA := HGA.out
            have hxk := HXK.out
            clear HGA HXK
            cases c1
            case false =>
              have hbad := hxk (by rw [hgA]; simp)
              have HBAD := Lib.hid hbad
              clear hbad
              clear hxk hgA
              go_wp2_with (first
                | (go_at_call 190; ((with_reducible refine (track_in_any (la + 1) 9999 _ [id] _ (row_int1 _ _ _ (by simp))).mono ?_); rintro e w' ⟨rfl, X12, rfl⟩; rw [HC1.out]))
                | (go_at_call 190; ((with_reducible refine (track_in_any 0 5000 _ [wall] _ (row_int1 _ _ _ (by simp))).mono ?_); rintro e w' ⟨rfl, X13, rfl⟩; rw [HA5.out]))
                | (go_at_call 191; ((with_reducible refine (track_known_any ⟨llo, lhi⟩ 1 30000 _).mono ?_); rintro e w' ⟨rfl, X15, rfl⟩; rw [HA3.out]))
                | (go_at_call 191; ((with_reducible refine (track_known_any ⟨flo, fhi⟩ 0 5000 _).mono ?_); rintro e w' ⟨rfl, X16, rfl⟩; rw [HA4.out])))
              try rw [Exit.noGoto_ret]
              go_ret
              exact ⟨by rw [HF.out, HBAD.out]; simp, exq⟩
            cases b3
            case false =>
              have hbad := hxk (by rw [hgA]; simp)
              have HBAD := Lib.hid hbad
              clear hbad
              clear hxk hgA
              go_wp2_with (first
                | (go_at_call 190; ((with_reducible refine (track_in_any (la + 1) 9999 _ [id] _ (row_int1 _ _ _ (by simp))).mono ?_); rintro e w' ⟨rfl, X12, rfl⟩; rw [HC1.out]))
                | (go_at_call 190; ((with_reducible refine (track_in_any 0 5000 _ [wall] _ (row_int1 _ _ _ (by simp))).mono ?_); rintro e w' ⟨rfl, X13, rfl⟩; rw [HA5.out]))
                | (go_at_call 191; ((with_reducible refine (track_known_any ⟨llo, lhi⟩ 1 30000 _).mono ?_); rintro e w' ⟨rfl, X15, rfl⟩; rw [HA3.out]))
                | (go_at_call 191; ((with_reducible refine (track_known_any ⟨flo, fhi⟩ 0 5000 _).mono ?_); rintro e w' ⟨rfl, X16, rfl⟩; rw [HA4.out])))
              try rw [Exit.noGoto_ret]
              go_ret
              exact ⟨by rw [HF.out, HBAD.out]; simp, exq⟩
            cases b4
            case false =>
              have hbad := hxk (by rw [hgA]; simp)
              have HBAD := Lib.hid hbad
              clear hbad
              clear hxk hgA
              go_wp2_with (first
                | (go_at_call 190; ((with_reducible refine (track_in_any (la + 1) 9999 _ [id] _ (row_int1 _ _ _ (by simp))).mono ?_); rintro e w' ⟨rfl, X12, rfl⟩; rw [HC1.out]))
                | (go_at_call 190; ((with_reducible refine (track_in_any 0 5000 _ [wall] _ (row_int1 _ _ _ (by simp))).mono ?_); rintro e w' ⟨rfl, X13, rfl⟩; rw [HA5.out]))
                | (go_at_call 191; ((with_reducible refine (track_known_any ⟨llo, lhi⟩ 1 30000 _).mono ?_); rintro e w' ⟨rfl, X15, rfl⟩; rw [HA3.out]))
                | (go_at_call 191; ((with_reducible refine (track_known_any ⟨flo, fhi⟩ 0 5000 _).mono ?_); rintro e w' ⟨rfl, X16, rfl⟩; rw [HA4.out])))
              try rw [Exit.noGoto_ret]
              go_ret
              exact ⟨by rw [HF.out, HBAD.out]; simp, exq⟩
            cases b5
            case false =>
              have hbad := hxk (by rw [hgA]; simp)
              have HBAD := Lib.hid hbad
              clear hbad
              clear hxk hgA
              go_wp2_with (first
                | (go_at_call 190; ((with_reducible refine (track_in_any (la + 1) 9999 _ [id] _ (row_int1 _ _ _ (by simp))).mono ?_); rintro e w' ⟨rfl, X12, rfl⟩; rw [HC1.out]))
                | (go_at_call 190; ((with_reducible refine (track_in_any 0 5000 _ [wall] _ (row_int1 _ _ _ (by simp))).mono ?_); rintro e w' ⟨rfl, X13, rfl⟩; rw [HA5.out]))
                | (go_at_call 191; ((with_reducible refine (track_known_any ⟨llo, lhi⟩ 1 30000 _).mono ?_); rintro e w' ⟨rfl, X15, rfl⟩; rw [HA3.out]))
                | (go_at_call 191; ((with_reducible refine (track_known_any ⟨flo, fhi⟩ 0 5000 _).mono ?_); rintro e w' ⟨rfl, X16, rfl⟩; rw [HA4.out])))
              try rw [Exit.noGoto_ret]
              go_ret
              exact ⟨by rw [HF.out, HBAD.out]; simp, exq⟩
            have hgood : ∀ j, j < k + 1 → strAt t j = true := below_snoc HA.out (by rw [hgA]; rfl)
            have HGOOD := Lib.hid hgood
            clear hgood
            clear hxk hgA
            go_wp2_with (first
              | (go_at_call 190; ((with_reducible refine (track_in_any (la + 1) 9999 _ [id] _ (row_int1 _ _ _ (by simp))).mono ?_); rintro e w' ⟨rfl, X12, rfl⟩; rw [HC1.out]))
              | (go_at_call 190; ((with_reducible refine (track_in_any 0 5000 _ [wall] _ (row_int1 _ _ _ (by simp))).mono ?_); rintro e w' ⟨rfl, X13, rfl⟩; rw [HA5.out]))
              | (go_at_call 191; ((with_reducible refine (track_known_any ⟨llo, lhi⟩ 1 30000 _).mono ?_); rintro e w' ⟨rfl, X15, rfl⟩; rw [HA3.out]))
              | (go_at_call 191; ((with_reducible refine (track_known_any ⟨flo, fhi⟩ 0 5000 _).mono ?_); rintro e w' ⟨rfl, X16, rfl⟩; rw [HA4.out])))
            go_roundw
            case rel => exact ⟨k + 1, by omega, by rw [HLS.out], rfl, by go_num, HGOOD, exq⟩
            case measure => simp [intOf]; omega
          · have hso : sideOk ⟨id, ⟨llo, lhi⟩, ⟨flo, fhi⟩, ⟨rlo, rhi⟩, side, wall⟩ = false := by unfold sideOk; simp [s0, r1, r2]
            rw [hso] at hgA
            have a1 : decide (rlo = 0) = true := decide_eq_true r1
            have z1 : (rlo == 0) = true := by simpa using r1
            have a2 : decide (rhi = 0) = false := decide_eq_false r2
            have z2 : (rhi == 0) = false := by simpa using r2
            clear hso hside2 ha6 s0 r1 r2
            have HGA := Lib.hid hgA
            clear hgA
            have HXK := Lib.hid hxk
            clear hxk
            go_wp2_with (first
              | (go_at_call 190; ((with_reducible refine (track_in_any 1 2 _ [side] _ (row_int1 _ _ _ (by simp))).mono ?_); rintro e w' ⟨rfl, X11, rfl⟩; rw [HS1.out]))
              | (go_at_call 191; ((with_reducible refine (track_known_any ⟨rlo, rhi⟩ 500 20000 _).mono ?_); rintro e w' ⟨rfl, X14, rfl⟩; rw [HA6.out]))
              | (refine wpList_load_mid rfl 169 _ rfl b (o + k * 9) rfl [.int .i64 id, .int .i64 llo, .int .i64 lhi, .int .i64 flo, .int .i64 fhi, .int .i64 rlo, .int .i64 rhi, .int .u8 side, .int .i64 wall] _ (fun j u hju => World.Exts.cell (a := w) exq (HCS.out j u hju)) Tryz.underlying169 rfl (by kernel_rfl) ?_)
              | ((with_reducible refine wpList_store_new (t := 169) (cells := #[.int .i64 id, .int .i64 llo, .int .i64 lhi, .int .i64 flo, .int .i64 fhi, .int .i64 rlo, .int .i64 rhi, .int .u8 side, .int .i64 wall]) ?_ ?_ ?_ ?_ ?_ ?_); (· first | rfl | (simp [go_sem]; done)); (· rfl); (· kernel_rfl); (· rfl); (· simp [Value.oneCell'])))
            have hgA := HGA.out
            have hxk := HXK.out
            clear HGA HXK
            cases c1
            case false =>
              have hbad := hxk (by rw [hgA]; simp)
              have HBAD := Lib.hid hbad
              clear hbad
              clear hxk hgA
              go_wp2_with (first
                | (go_at_call 190; ((with_reducible refine (track_in_any (la + 1) 9999 _ [id] _ (row_int1 _ _ _ (by simp))).mono ?_); rintro e w' ⟨rfl, X12, rfl⟩; rw [HC1.out]))
                | (go_at_call 190; ((with_reducible refine (track_in_any 0 5000 _ [wall] _ (row_int1 _ _ _ (by simp))).mono ?_); rintro e w' ⟨rfl, X13, rfl⟩; rw [HA5.out]))
                | (go_at_call 191; ((with_reducible refine (track_known_any ⟨llo, lhi⟩ 1 30000 _).mono ?_); rintro e w' ⟨rfl, X15, rfl⟩; rw [HA3.out]))
                | (go_at_call 191; ((with_reducible refine (track_known_any ⟨flo, fhi⟩ 0 5000 _).mono ?_); rintro e w' ⟨rfl, X16, rfl⟩; rw [HA4.out])))
              try rw [Exit.noGoto_ret]
              go_ret
              exact ⟨by rw [HF.out, HBAD.out]; simp, exq⟩
            cases b3
            case false =>
              have hbad := hxk (by rw [hgA]; simp)
              have HBAD := Lib.hid hbad
              clear hbad
              clear hxk hgA
              go_wp2_with (first
                | (go_at_call 190; ((with_reducible refine (track_in_any (la + 1) 9999 _ [id] _ (row_int1 _ _ _ (by simp))).mono ?_); rintro e w' ⟨rfl, X12, rfl⟩; rw [HC1.out]))
                | (go_at_call 190; ((with_reducible refine (track_in_any 0 5000 _ [wall] _ (row_int1 _ _ _ (by simp))).mono ?_); rintro e w' ⟨rfl, X13, rfl⟩; rw [HA5.out]))
                | (go_at_call 191; ((with_reducible refine (track_known_any ⟨llo, lhi⟩ 1 30000 _).mono ?_); rintro e w' ⟨rfl, X15, rfl⟩; rw [HA3.out]))
                | (go_at_call 191; ((with_reducible refine (track_known_any ⟨flo, fhi⟩ 0 5000 _).mono ?_); rintro e w' ⟨rfl, X16, rfl⟩; rw [HA4.out])))
              try rw [Exit.noGoto_ret]
              go_ret
              exact ⟨by rw [HF.out, HBAD.out]; simp, exq⟩
            cases b4
            case false =>
              have hbad := hxk (by rw [hgA]; simp)
              have HBAD := Lib.hid hbad
              clear hbad
              clear hxk hgA
              go_wp2_with (first
                | (go_at_call 190; ((with_reducible refine (track_in_any (la + 1) 9999 _ [id] _ (row_int1 _ _ _ (by simp))).mono ?_); rintro e w' ⟨rfl, X12, rfl⟩; rw [HC1.out]))
                | (go_at_call 190; ((with_reducible refine (track_in_any 0 5000 _ [wall] _ (row_int1 _ _ _ (by simp))).mono ?_); rintro e w' ⟨rfl, X13, rfl⟩; rw [HA5.out]))
                | (go_at_call 191; ((with_reducible refine (track_known_any ⟨llo, lhi⟩ 1 30000 _).mono ?_); rintro e w' ⟨rfl, X15, rfl⟩; rw [HA3.out]))
                | (go_at_call 191; ((with_reducible refine (track_known_any ⟨flo, fhi⟩ 0 5000 _).mono ?_); rintro e w' ⟨rfl, X16, rfl⟩; rw [HA4.out])))
              try rw [Exit.noGoto_ret]
              go_ret
              exact ⟨by rw [HF.out, HBAD.out]; simp, exq⟩
            cases b5
            case false =>
              have hbad := hxk (by rw [hgA]; simp)
              have HBAD := Lib.hid hbad
              clear hbad
              clear hxk hgA
              go_wp2_with (first
                | (go_at_call 190; ((with_reducible refine (track_in_any (la + 1) 9999 _ [id] _ (row_int1 _ _ _ (by simp))).mono ?_); rintro e w' ⟨rfl, X12, rfl⟩; rw [HC1.out]))
                | (go_at_call 190; ((with_reducible refine (track_in_any 0 5000 _ [wall] _ (row_int1 _ _ _ (by simp))).mono ?_); rintro e w' ⟨rfl, X13, rfl⟩; rw [HA5.out]))
                | (go_at_call 191; ((with_reducible refine (track_known_any ⟨llo, lhi⟩ 1 30000 _).mono ?_); rintro e w' ⟨rfl, X15, rfl⟩; rw [HA3.out]))
                | (go_at_call 191; ((with_reducible refine (track_known_any ⟨flo, fhi⟩ 0 5000 _).mono ?_); rintro e w' ⟨rfl, X16, rfl⟩; rw [HA4.out])))
              try rw [Exit.noGoto_ret]
              go_ret
              exact ⟨by rw [HF.out, HBAD.out]; simp, exq⟩
            have hbad := hxk (by rw [hgA]; simp)
            have HBAD := Lib.hid hbad
            clear hbad
            clear hxk hgA
            go_wp2_with (first
              | (go_at_call 190; ((with_reducible refine (track_in_any (la + 1) 9999 _ [id] _ (row_int1 _ _ _ (by simp))).mono ?_); rintro e w' ⟨rfl, X12, rfl⟩; rw [HC1.out]))
              | (go_at_call 190; ((with_reducible refine (track_in_any 0 5000 _ [wall] _ (row_int1 _ _ _ (by simp))).mono ?_); rintro e w' ⟨rfl, X13, rfl⟩; rw [HA5.out]))
              | (go_at_call 191; ((with_reducible refine (track_known_any ⟨llo, lhi⟩ 1 30000 _).mono ?_); rintro e w' ⟨rfl, X15, rfl⟩; rw [HA3.out]))
              | (go_at_call 191; ((with_reducible refine (track_known_any ⟨flo, fhi⟩ 0 5000 _).mono ?_); rintro e w' ⟨rfl, X16, rfl⟩; rw [HA4.out])))
            try rw [Exit.noGoto_ret]
            go_ret
            exact ⟨by rw [HF.out, HBAD.out]; simp, exq⟩
        · have hso : sideOk ⟨id, ⟨llo, lhi⟩, ⟨flo, fhi⟩, ⟨rlo, rhi⟩, side, wall⟩ = false := by unfold sideOk; simp [s0, r1]
          rw [hso] at hgA
          have a1 : decide (rlo = 0) = false := decide_eq_false r1
          have z1 : (rlo == 0) = false := by simpa using r1
          clear hso hside2 ha6 s0 r1
          have HGA := Lib.hid hgA
          clear hgA
          have HXK := Lib.hid hxk
          clear hxk
          go_wp2_with (first
            | (go_at_call 190; ((with_reducible refine (track_in_any 1 2 _ [side] _ (row_int1 _ _ _ (by simp))).mono ?_); rintro e w' ⟨rfl, X11, rfl⟩; rw [HS1.out]))
            | (go_at_call 191; ((with_reducible refine (track_known_any ⟨rlo, rhi⟩ 500 20000 _).mono ?_); rintro e w' ⟨rfl, X14, rfl⟩; rw [HA6.out]))
            | (refine wpList_load_mid rfl 169 _ rfl b (o + k * 9) rfl [.int .i64 id, .int .i64 llo, .int .i64 lhi, .int .i64 flo, .int .i64 fhi, .int .i64 rlo, .int .i64 rhi, .int .u8 side, .int .i64 wall] _ (fun j u hju => World.Exts.cell (a := w) exq (HCS.out j u hju)) Tryz.underlying169 rfl (by kernel_rfl) ?_)
            | ((with_reducible refine wpList_store_new (t := 169) (cells := #[.int .i64 id, .int .i64 llo, .int .i64 lhi, .int .i64 flo, .int .i64 fhi, .int .i64 rlo, .int .i64 rhi, .int .u8 side, .int .i64 wall]) ?_ ?_ ?_ ?_ ?_ ?_); (· first | rfl | (simp [go_sem]; done)); (· rfl); (· kernel_rfl); (· rfl); (· simp [Value.oneCell'])))
          have hgA := HGA.out
          have hxk := HXK.out
          clear HGA HXK
          cases c1
          case false =>
            have hbad := hxk (by rw [hgA]; simp)
            have HBAD := Lib.hid hbad
            clear hbad
            clear hxk hgA
            go_wp2_with (first
              | (go_at_call 190; ((with_reducible refine (track_in_any (la + 1) 9999 _ [id] _ (row_int1 _ _ _ (by simp))).mono ?_); rintro e w' ⟨rfl, X12, rfl⟩; rw [HC1.out]))
              | (go_at_call 190; ((with_reducible refine (track_in_any 0 5000 _ [wall] _ (row_int1 _ _ _ (by simp))).mono ?_); rintro e w' ⟨rfl, X13, rfl⟩; rw [HA5.out]))
              | (go_at_call 191; ((with_reducible refine (track_known_any ⟨llo, lhi⟩ 1 30000 _).mono ?_); rintro e w' ⟨rfl, X15, rfl⟩; rw [HA3.out]))
              | (go_at_call 191; ((with_reducible refine (track_known_any ⟨flo, fhi⟩ 0 5000 _).mono ?_); rintro e w' ⟨rfl, X16, rfl⟩; rw [HA4.out])))
            try rw [Exit.noGoto_ret]
            go_ret
            exact ⟨by rw [HF.out, HBAD.out]; simp, exq⟩
          cases b3
          case false =>
            have hbad := hxk (by rw [hgA]; simp)
            have HBAD := Lib.hid hbad
            clear hbad
            clear hxk hgA
            go_wp2_with (first
              | (go_at_call 190; ((with_reducible refine (track_in_any (la + 1) 9999 _ [id] _ (row_int1 _ _ _ (by simp))).mono ?_); rintro e w' ⟨rfl, X12, rfl⟩; rw [HC1.out]))
              | (go_at_call 190; ((with_reducible refine (track_in_any 0 5000 _ [wall] _ (row_int1 _ _ _ (by simp))).mono ?_); rintro e w' ⟨rfl, X13, rfl⟩; rw [HA5.out]))
              | (go_at_call 191; ((with_reducible refine (track_known_any ⟨llo, lhi⟩ 1 30000 _).mono ?_); rintro e w' ⟨rfl, X15, rfl⟩; rw [HA3.out]))
              | (go_at_call 191; ((with_reducible refine (track_known_any ⟨flo, fhi⟩ 0 5000 _).mono ?_); rintro e w' ⟨rfl, X16, rfl⟩; rw [HA4.out])))
            try rw [Exit.noGoto_ret]
            go_ret
            exact ⟨by rw [HF.out, HBAD.out]; simp, exq⟩
          cases b4
          case false =>
            have hbad := hxk (by rw [hgA]; simp)
            have HBAD := Lib.hid hbad
            clear hbad
            clear hxk hgA
            go_wp2_with (first
              | (go_at_call 190; ((with_reducible refine (track_in_any (la + 1) 9999 _ [id] _ (row_int1 _ _ _ (by simp))).mono ?_); rintro e w' ⟨rfl, X12, rfl⟩; rw [HC1.out]))
              | (go_at_call 190; ((with_reducible refine (track_in_any 0 5000 _ [wall] _ (row_int1 _ _ _ (by simp))).mono ?_); rintro e w' ⟨rfl, X13, rfl⟩; rw [HA5.out]))
              | (go_at_call 191; ((with_reducible refine (track_known_any ⟨llo, lhi⟩ 1 30000 _).mono ?_); rintro e w' ⟨rfl, X15, rfl⟩; rw [HA3.out]))
              | (go_at_call 191; ((with_reducible refine (track_known_any ⟨flo, fhi⟩ 0 5000 _).mono ?_); rintro e w' ⟨rfl, X16, rfl⟩; rw [HA4.out])))
            try rw [Exit.noGoto_ret]
            go_ret
            exact ⟨by rw [HF.out, HBAD.out]; simp, exq⟩
          cases b5
          case false =>
            have hbad := hxk (by rw [hgA]; simp)
            have HBAD := Lib.hid hbad
            clear hbad
            clear hxk hgA
            go_wp2_with (first
              | (go_at_call 190; ((with_reducible refine (track_in_any (la + 1) 9999 _ [id] _ (row_int1 _ _ _ (by simp))).mono ?_); rintro e w' ⟨rfl, X12, rfl⟩; rw [HC1.out]))
              | (go_at_call 190; ((with_reducible refine (track_in_any 0 5000 _ [wall] _ (row_int1 _ _ _ (by simp))).mono ?_); rintro e w' ⟨rfl, X13, rfl⟩; rw [HA5.out]))
              | (go_at_call 191; ((with_reducible refine (track_known_any ⟨llo, lhi⟩ 1 30000 _).mono ?_); rintro e w' ⟨rfl, X15, rfl⟩; rw [HA3.out]))
              | (go_at_call 191; ((with_reducible refine (track_known_any ⟨flo, fhi⟩ 0 5000 _).mono ?_); rintro e w' ⟨rfl, X16, rfl⟩; rw [HA4.out])))
            try rw [Exit.noGoto_ret]
            go_ret
            exact ⟨by rw [HF.out, HBAD.out]; simp, exq⟩
          have hbad := hxk (by rw [hgA]; simp)
          have HBAD := Lib.hid hbad
          clear hbad
          clear hxk hgA
          go_wp2_with (first
            | (go_at_call 190; ((with_reducible refine (track_in_any (la + 1) 9999 _ [id] _ (row_int1 _ _ _ (by simp))).mono ?_); rintro e w' ⟨rfl, X12, rfl⟩; rw [HC1.out]))
            | (go_at_call 190; ((with_reducible refine (track_in_any 0 5000 _ [wall] _ (row_int1 _ _ _ (by simp))).mono ?_); rintro e w' ⟨rfl, X13, rfl⟩; rw [HA5.out]))
            | (go_at_call 191; ((with_reducible refine (track_known_any ⟨llo, lhi⟩ 1 30000 _).mono ?_); rintro e w' ⟨rfl, X15, rfl⟩; rw [HA3.out]))
            | (go_at_call 191; ((with_reducible refine (track_known_any ⟨flo, fhi⟩ 0 5000 _).mono ?_); rintro e w' ⟨rfl, X16, rfl⟩; rw [HA4.out])))
          try rw [Exit.noGoto_ret]
          go_ret
          exact ⟨by rw [HF.out, HBAD.out]; simp, exq⟩
      · have t0 : (side == 0) = false := by simpa using s0
        have u0 : decide (side = 0) = false := by simpa using s0
        cases sb
        · have hso : sideOk ⟨id, ⟨llo, lhi⟩, ⟨flo, fhi⟩, ⟨rlo, rhi⟩, side, wall⟩ = false := by
            unfold sideOk
            have h3 : ¬ side = 1 ∧ ¬ side = 2 := by simpa using hside2.symm
            simp [s0, h3.1, h3.2]
          rw [hso] at hgA
          clear hso hside2 ha6 s0
          have HGA := Lib.hid hgA
          clear hgA
          have HXK := Lib.hid hxk
          clear hxk
          go_wp2_with (first
            | (go_at_call 190; ((with_reducible refine (track_in_any 1 2 _ [side] _ (row_int1 _ _ _ (by simp))).mono ?_); rintro e w' ⟨rfl, X11, rfl⟩; rw [HS1.out]))
            | (go_at_call 191; ((with_reducible refine (track_known_any ⟨rlo, rhi⟩ 500 20000 _).mono ?_); rintro e w' ⟨rfl, X14, rfl⟩; rw [HA6.out]))
            | (refine wpList_load_mid rfl 169 _ rfl b (o + k * 9) rfl [.int .i64 id, .int .i64 llo, .int .i64 lhi, .int .i64 flo, .int .i64 fhi, .int .i64 rlo, .int .i64 rhi, .int .u8 side, .int .i64 wall] _ (fun j u hju => World.Exts.cell (a := w) exq (HCS.out j u hju)) Tryz.underlying169 rfl (by kernel_rfl) ?_)
            | ((with_reducible refine wpList_store_new (t := 169) (cells := #[.int .i64 id, .int .i64 llo, .int .i64 lhi, .int .i64 flo, .int .i64 fhi, .int .i64 rlo, .int .i64 rhi, .int .u8 side, .int .i64 wall]) ?_ ?_ ?_ ?_ ?_ ?_); (· first | rfl | (simp [go_sem]; done)); (· rfl); (· kernel_rfl); (· rfl); (· simp [Value.oneCell'])))
          have hgA := HGA.out
          have hxk := HXK.out
          clear HGA HXK
          cases c1
          case false =>
            have hbad := hxk (by rw [hgA]; simp)
            have HBAD := Lib.hid hbad
            clear hbad
            clear hxk hgA
            go_wp2_with (first
              | (go_at_call 190; ((with_reducible refine (track_in_any (la + 1) 9999 _ [id] _ (row_int1 _ _ _ (by simp))).mono ?_); rintro e w' ⟨rfl, X12, rfl⟩; rw [HC1.out]))
              | (go_at_call 190; ((with_reducible refine (track_in_any 0 5000 _ [wall] _ (row_int1 _ _ _ (by simp))).mono ?_); rintro e w' ⟨rfl, X13, rfl⟩; rw [HA5.out]))
              | (go_at_call 191; ((with_reducible refine (track_known_any ⟨llo, lhi⟩ 1 30000 _).mono ?_); rintro e w' ⟨rfl, X15, rfl⟩; rw [HA3.out]))
              | (go_at_call 191; ((with_reducible refine (track_known_any ⟨flo, fhi⟩ 0 5000 _).mono ?_); rintro e w' ⟨rfl, X16, rfl⟩; rw [HA4.out])))
            try rw [Exit.noGoto_ret]
            go_ret
            exact ⟨by rw [HF.out, HBAD.out]; simp, exq⟩
          cases b3
          case false =>
            have hbad := hxk (by rw [hgA]; simp)
            have HBAD := Lib.hid hbad
            clear hbad
            clear hxk hgA
            go_wp2_with (first
              | (go_at_call 190; ((with_reducible refine (track_in_any (la + 1) 9999 _ [id] _ (row_int1 _ _ _ (by simp))).mono ?_); rintro e w' ⟨rfl, X12, rfl⟩; rw [HC1.out]))
              | (go_at_call 190; ((with_reducible refine (track_in_any 0 5000 _ [wall] _ (row_int1 _ _ _ (by simp))).mono ?_); rintro e w' ⟨rfl, X13, rfl⟩; rw [HA5.out]))
              | (go_at_call 191; ((with_reducible refine (track_known_any ⟨llo, lhi⟩ 1 30000 _).mono ?_); rintro e w' ⟨rfl, X15, rfl⟩; rw [HA3.out]))
              | (go_at_call 191; ((with_reducible refine (track_known_any ⟨flo, fhi⟩ 0 5000 _).mono ?_); rintro e w' ⟨rfl, X16, rfl⟩; rw [HA4.out])))
            try rw [Exit.noGoto_ret]
            go_ret
            exact ⟨by rw [HF.out, HBAD.out]; simp, exq⟩
          cases b4
          case false =>
            have hbad := hxk (by rw [hgA]; simp)
            have HBAD := Lib.hid hbad
            clear hbad
            clear hxk hgA
            go_wp2_with (first
              | (go_at_call 190; ((with_reducible refine (track_in_any (la + 1) 9999 _ [id] _ (row_int1 _ _ _ (by simp))).mono ?_); rintro e w' ⟨rfl, X12, rfl⟩; rw [HC1.out]))
              | (go_at_call 190; ((with_reducible refine (track_in_any 0 5000 _ [wall] _ (row_int1 _ _ _ (by simp))).mono ?_); rintro e w' ⟨rfl, X13, rfl⟩; rw [HA5.out]))
              | (go_at_call 191; ((with_reducible refine (track_known_any ⟨llo, lhi⟩ 1 30000 _).mono ?_); rintro e w' ⟨rfl, X15, rfl⟩; rw [HA3.out]))
              | (go_at_call 191; ((with_reducible refine (track_known_any ⟨flo, fhi⟩ 0 5000 _).mono ?_); rintro e w' ⟨rfl, X16, rfl⟩; rw [HA4.out])))
            try rw [Exit.noGoto_ret]
            go_ret
            exact ⟨by rw [HF.out, HBAD.out]; simp, exq⟩
          cases b5
          case false =>
            have hbad := hxk (by rw [hgA]; simp)
            have HBAD := Lib.hid hbad
            clear hbad
            clear hxk hgA
            go_wp2_with (first
              | (go_at_call 190; ((with_reducible refine (track_in_any (la + 1) 9999 _ [id] _ (row_int1 _ _ _ (by simp))).mono ?_); rintro e w' ⟨rfl, X12, rfl⟩; rw [HC1.out]))
              | (go_at_call 190; ((with_reducible refine (track_in_any 0 5000 _ [wall] _ (row_int1 _ _ _ (by simp))).mono ?_); rintro e w' ⟨rfl, X13, rfl⟩; rw [HA5.out]))
              | (go_at_call 191; ((with_reducible refine (track_known_any ⟨llo, lhi⟩ 1 30000 _).mono ?_); rintro e w' ⟨rfl, X15, rfl⟩; rw [HA3.out]))
              | (go_at_call 191; ((with_reducible refine (track_known_any ⟨flo, fhi⟩ 0 5000 _).mono ?_); rintro e w' ⟨rfl, X16, rfl⟩; rw [HA4.out])))
            try rw [Exit.noGoto_ret]
            go_ret
            exact ⟨by rw [HF.out, HBAD.out]; simp, exq⟩
          have hbad := hxk (by rw [hgA]; simp)
          have HBAD := Lib.hid hbad
          clear hbad
          clear hxk hgA
          go_wp2_with (first
            | (go_at_call 190; ((with_reducible refine (track_in_any (la + 1) 9999 _ [id] _ (row_int1 _ _ _ (by simp))).mono ?_); rintro e w' ⟨rfl, X12, rfl⟩; rw [HC1.out]))
            | (go_at_call 190; ((with_reducible refine (track_in_any 0 5000 _ [wall] _ (row_int1 _ _ _ (by simp))).mono ?_); rintro e w' ⟨rfl, X13, rfl⟩; rw [HA5.out]))
            | (go_at_call 191; ((with_reducible refine (track_known_any ⟨llo, lhi⟩ 1 30000 _).mono ?_); rintro e w' ⟨rfl, X15, rfl⟩; rw [HA3.out]))
            | (go_at_call 191; ((with_reducible refine (track_known_any ⟨flo, fhi⟩ 0 5000 _).mono ?_); rintro e w' ⟨rfl, X16, rfl⟩; rw [HA4.out])))
          try rw [Exit.noGoto_ret]
          go_ret
          exact ⟨by rw [HF.out, HBAD.out]; simp, exq⟩
        · have hso : sideOk ⟨id, ⟨llo, lhi⟩, ⟨flo, fhi⟩, ⟨rlo, rhi⟩, side, wall⟩ = b6 := by
            unfold sideOk
            have h3 : side = 1 ∨ side = 2 := by simpa using hside2.symm
            simp only [s0, if_false, h3, if_true]
            exact ha6
          rw [hso] at hgA
          have HA6 := Lib.hid ha6
          clear ha6
          clear hso hside2 s0
          cases b6
          case false =>
            have HGA := Lib.hid hgA
            clear hgA
            have HXK := Lib.hid hxk
            clear hxk
            go_wp2_with (first
              | (go_at_call 190; ((with_reducible refine (track_in_any 1 2 _ [side] _ (row_int1 _ _ _ (by simp))).mono ?_); rintro e w' ⟨rfl, X11, rfl⟩; rw [HS1.out]))
              | (go_at_call 191; ((with_reducible refine (track_known_any ⟨rlo, rhi⟩ 500 20000 _).mono ?_); rintro e w' ⟨rfl, X14, rfl⟩; rw [HA6.out]))
              | (refine wpList_load_mid rfl 169 _ rfl b (o + k * 9) rfl [.int .i64 id, .int .i64 llo, .int .i64 lhi, .int .i64 flo, .int .i64 fhi, .int .i64 rlo, .int .i64 rhi, .int .u8 side, .int .i64 wall] _ (fun j u hju => World.Exts.cell (a := w) exq (HCS.out j u hju)) Tryz.underlying169 rfl (by kernel_rfl) ?_)
              | ((with_reducible refine wpList_store_new (t := 169) (cells := #[.int .i64 id, .int .i64 llo, .int .i64 lhi, .int .i64 flo, .int .i64 fhi, .int .i64 rlo, .int .i64 rhi, .int .u8 side, .int .i64 wall]) ?_ ?_ ?_ ?_ ?_ ?_); (· first | rfl | (simp [go_sem]; done)); (· rfl); (· kernel_rfl); (· rfl); (· simp [Value.oneCell'])))
            have hgA := HGA.out
            have hxk := HXK.out
            clear HGA HXK
            cases c1
            case false =>
              have hbad := hxk (by rw [hgA]; simp)
              have HBAD := Lib.hid hbad
              clear hbad
              clear hxk hgA
              go_wp2_with (first
                | (go_at_call 190; ((with_reducible refine (track_in_any (la + 1) 9999 _ [id] _ (row_int1 _ _ _ (by simp))).mono ?_); rintro e w' ⟨rfl, X12, rfl⟩; rw [HC1.out]))
                | (go_at_call 190; ((with_reducible refine (track_in_any 0 5000 _ [wall] _ (row_int1 _ _ _ (by simp))).mono ?_); rintro e w' ⟨rfl, X13, rfl⟩; rw [HA5.out]))
                | (go_at_call 191; ((with_reducible refine (track_known_any ⟨llo, lhi⟩ 1 30000 _).mono ?_); rintro e w' ⟨rfl, X15, rfl⟩; rw [HA3.out]))
                | (go_at_call 191; ((with_reducible refine (track_known_any ⟨flo, fhi⟩ 0 5000 _).mono ?_); rintro e w' ⟨rfl, X16, rfl⟩; rw [HA4.out])))
              try rw [Exit.noGoto_ret]
              go_ret
              exact ⟨by rw [HF.out, HBAD.out]; simp, exq⟩
            cases b3
            case false =>
              have hbad := hxk (by rw [hgA]; simp)
              have HBAD := Lib.hid hbad
              clear hbad
              clear hxk hgA
              go_wp2_with (first
                | (go_at_call 190; ((with_reducible refine (track_in_any (la + 1) 9999 _ [id] _ (row_int1 _ _ _ (by simp))).mono ?_); rintro e w' ⟨rfl, X12, rfl⟩; rw [HC1.out]))
                | (go_at_call 190; ((with_reducible refine (track_in_any 0 5000 _ [wall] _ (row_int1 _ _ _ (by simp))).mono ?_); rintro e w' ⟨rfl, X13, rfl⟩; rw [HA5.out]))
                | (go_at_call 191; ((with_reducible refine (track_known_any ⟨llo, lhi⟩ 1 30000 _).mono ?_); rintro e w' ⟨rfl, X15, rfl⟩; rw [HA3.out]))
                | (go_at_call 191; ((with_reducible refine (track_known_any ⟨flo, fhi⟩ 0 5000 _).mono ?_); rintro e w' ⟨rfl, X16, rfl⟩; rw [HA4.out])))
              try rw [Exit.noGoto_ret]
              go_ret
              exact ⟨by rw [HF.out, HBAD.out]; simp, exq⟩
            cases b4
            case false =>
              have hbad := hxk (by rw [hgA]; simp)
              have HBAD := Lib.hid hbad
              clear hbad
              clear hxk hgA
              go_wp2_with (first
                | (go_at_call 190; ((with_reducible refine (track_in_any (la + 1) 9999 _ [id] _ (row_int1 _ _ _ (by simp))).mono ?_); rintro e w' ⟨rfl, X12, rfl⟩; rw [HC1.out]))
                | (go_at_call 190; ((with_reducible refine (track_in_any 0 5000 _ [wall] _ (row_int1 _ _ _ (by simp))).mono ?_); rintro e w' ⟨rfl, X13, rfl⟩; rw [HA5.out]))
                | (go_at_call 191; ((with_reducible refine (track_known_any ⟨llo, lhi⟩ 1 30000 _).mono ?_); rintro e w' ⟨rfl, X15, rfl⟩; rw [HA3.out]))
                | (go_at_call 191; ((with_reducible refine (track_known_any ⟨flo, fhi⟩ 0 5000 _).mono ?_); rintro e w' ⟨rfl, X16, rfl⟩; rw [HA4.out])))
              try rw [Exit.noGoto_ret]
              go_ret
              exact ⟨by rw [HF.out, HBAD.out]; simp, exq⟩
            cases b5
            case false =>
              have hbad := hxk (by rw [hgA]; simp)
              have HBAD := Lib.hid hbad
              clear hbad
              clear hxk hgA
              go_wp2_with (first
                | (go_at_call 190; ((with_reducible refine (track_in_any (la + 1) 9999 _ [id] _ (row_int1 _ _ _ (by simp))).mono ?_); rintro e w' ⟨rfl, X12, rfl⟩; rw [HC1.out]))
                | (go_at_call 190; ((with_reducible refine (track_in_any 0 5000 _ [wall] _ (row_int1 _ _ _ (by simp))).mono ?_); rintro e w' ⟨rfl, X13, rfl⟩; rw [HA5.out]))
                | (go_at_call 191; ((with_reducible refine (track_known_any ⟨llo, lhi⟩ 1 30000 _).mono ?_); rintro e w' ⟨rfl, X15, rfl⟩; rw [HA3.out]))
                | (go_at_call 191; ((with_reducible refine (track_known_any ⟨flo, fhi⟩ 0 5000 _).mono ?_); rintro e w' ⟨rfl, X16, rfl⟩; rw [HA4.out])))
              try rw [Exit.noGoto_ret]
              go_ret
              exact ⟨by rw [HF.out, HBAD.out]; simp, exq⟩
            have hbad := hxk (by rw [hgA]; simp)
            have HBAD := Lib.hid hbad
            clear hbad
            clear hxk hgA
            go_wp2_with (first
              | (go_at_call 190; ((with_reducible refine (track_in_any (la + 1) 9999 _ [id] _ (row_int1 _ _ _ (by simp))).mono ?_); rintro e w' ⟨rfl, X12, rfl⟩; rw [HC1.out]))
              | (go_at_call 190; ((with_reducible refine (track_in_any 0 5000 _ [wall] _ (row_int1 _ _ _ (by simp))).mono ?_); rintro e w' ⟨rfl, X13, rfl⟩; rw [HA5.out]))
              | (go_at_call 191; ((with_reducible refine (track_known_any ⟨llo, lhi⟩ 1 30000 _).mono ?_); rintro e w' ⟨rfl, X15, rfl⟩; rw [HA3.out]))
              | (go_at_call 191; ((with_reducible refine (track_known_any ⟨flo, fhi⟩ 0 5000 _).mono ?_); rintro e w' ⟨rfl, X16, rfl⟩; rw [HA4.out])))
            try rw [Exit.noGoto_ret]
            go_ret
            exact ⟨by rw [HF.out, HBAD.out]; simp, exq⟩
          case true =>
            have HGA := Lib.hid hgA
            clear hgA
            have HXK := Lib.hid hxk
            clear hxk
            go_wp2_with (first
              | (go_at_call 190; ((with_reducible refine (track_in_any 1 2 _ [side] _ (row_int1 _ _ _ (by simp))).mono ?_); rintro e w' ⟨rfl, X11, rfl⟩; rw [HS1.out]))
              | (go_at_call 191; ((with_reducible refine (track_known_any ⟨rlo, rhi⟩ 500 20000 _).mono ?_); rintro e w' ⟨rfl, X14, rfl⟩; rw [HA6.out]))
              | (refine wpList_load_mid rfl 169 _ rfl b (o + k * 9) rfl [.int .i64 id, .int .i64 llo, .int .i64 lhi, .int .i64 flo, .int .i64 fhi, .int .i64 rlo, .int .i64 rhi, .int .u8 side, .int .i64 wall] _ (fun j u hju => World.Exts.cell (a := w) exq (HCS.out j u hju)) Tryz.underlying169 rfl (by kernel_rfl) ?_)
              | ((with_reducible refine wpList_store_new (t := 169) (cells := #[.int .i64 id, .int .i64 llo, .int .i64 lhi, .int .i64 flo, .int .i64 fhi, .int .i64 rlo, .int .i64 rhi, .int .u8 side, .int .i64 wall]) ?_ ?_ ?_ ?_ ?_ ?_); (· first | rfl | (simp [go_sem]; done)); (· rfl); (· kernel_rfl); (· rfl); (· simp [Value.oneCell'])))
            have hgA := HGA.out
            have hxk := HXK.out
            clear HGA HXK
            cases c1
            case false =>
              have hbad := hxk (by rw [hgA]; simp)
              have HBAD := Lib.hid hbad
              clear hbad
              clear hxk hgA
              go_wp2_with (first
                | (go_at_call 190; ((with_reducible refine (track_in_any (la + 1) 9999 _ [id] _ (row_int1 _ _ _ (by simp))).mono ?_); rintro e w' ⟨rfl, X12, rfl⟩; rw [HC1.out]))
                | (go_at_call 190; ((with_reducible refine (track_in_any 0 5000 _ [wall] _ (row_int1 _ _ _ (by simp))).mono ?_); rintro e w' ⟨rfl, X13, rfl⟩; rw [HA5.out]))
                | (go_at_call 191; ((with_reducible refine (track_known_any ⟨llo, lhi⟩ 1 30000 _).mono ?_); rintro e w' ⟨rfl, X15, rfl⟩; rw [HA3.out]))
                | (go_at_call 191; ((with_reducible refine (track_known_any ⟨flo, fhi⟩ 0 5000 _).mono ?_); rintro e w' ⟨rfl, X16, rfl⟩; rw [HA4.out])))
              try rw [Exit.noGoto_ret]
              go_ret
              exact ⟨by rw [HF.out, HBAD.out]; simp, exq⟩
            cases b3
            case false =>
              have hbad := hxk (by rw [hgA]; simp)
              have HBAD := Lib.hid hbad
              clear hbad
              clear hxk hgA
              go_wp2_with (first
                | (go_at_call 190; ((with_reducible refine (track_in_any (la + 1) 9999 _ [id] _ (row_int1 _ _ _ (by simp))).mono ?_); rintro e w' ⟨rfl, X12, rfl⟩; rw [HC1.out]))
                | (go_at_call 190; ((with_reducible refine (track_in_any 0 5000 _ [wall] _ (row_int1 _ _ _ (by simp))).mono ?_); rintro e w' ⟨rfl, X13, rfl⟩; rw [HA5.out]))
                | (go_at_call 191; ((with_reducible refine (track_known_any ⟨llo, lhi⟩ 1 30000 _).mono ?_); rintro e w' ⟨rfl, X15, rfl⟩; rw [HA3.out]))
                | (go_at_call 191; ((with_reducible refine (track_known_any ⟨flo, fhi⟩ 0 5000 _).mono ?_); rintro e w' ⟨rfl, X16, rfl⟩; rw [HA4.out])))
              try rw [Exit.noGoto_ret]
              go_ret
              exact ⟨by rw [HF.out, HBAD.out]; simp, exq⟩
            cases b4
            case false =>
              have hbad := hxk (by rw [hgA]; simp)
              have HBAD := Lib.hid hbad
              clear hbad
              clear hxk hgA
              go_wp2_with (first
                | (go_at_call 190; ((with_reducible refine (track_in_any (la + 1) 9999 _ [id] _ (row_int1 _ _ _ (by simp))).mono ?_); rintro e w' ⟨rfl, X12, rfl⟩; rw [HC1.out]))
                | (go_at_call 190; ((with_reducible refine (track_in_any 0 5000 _ [wall] _ (row_int1 _ _ _ (by simp))).mono ?_); rintro e w' ⟨rfl, X13, rfl⟩; rw [HA5.out]))
                | (go_at_call 191; ((with_reducible refine (track_known_any ⟨llo, lhi⟩ 1 30000 _).mono ?_); rintro e w' ⟨rfl, X15, rfl⟩; rw [HA3.out]))
                | (go_at_call 191; ((with_reducible refine (track_known_any ⟨flo, fhi⟩ 0 5000 _).mono ?_); rintro e w' ⟨rfl, X16, rfl⟩; rw [HA4.out])))
              try rw [Exit.noGoto_ret]
              go_ret
              exact ⟨by rw [HF.out, HBAD.out]; simp, exq⟩
            cases b5
            case false =>
              have hbad := hxk (by rw [hgA]; simp)
              have HBAD := Lib.hid hbad
              clear hbad
              clear hxk hgA
              go_wp2_with (first
                | (go_at_call 190; ((with_reducible refine (track_in_any (la + 1) 9999 _ [id] _ (row_int1 _ _ _ (by simp))).mono ?_); rintro e w' ⟨rfl, X12, rfl⟩; rw [HC1.out]))
                | (go_at_call 190; ((with_reducible refine (track_in_any 0 5000 _ [wall] _ (row_int1 _ _ _ (by simp))).mono ?_); rintro e w' ⟨rfl, X13, rfl⟩; rw [HA5.out]))
                | (go_at_call 191; ((with_reducible refine (track_known_any ⟨llo, lhi⟩ 1 30000 _).mono ?_); rintro e w' ⟨rfl, X15, rfl⟩; rw [HA3.out]))
                | (go_at_call 191; ((with_reducible refine (track_known_any ⟨flo, fhi⟩ 0 5000 _).mono ?_); rintro e w' ⟨rfl, X16, rfl⟩; rw [HA4.out])))
              try rw [Exit.noGoto_ret]
              go_ret
              exact ⟨by rw [HF.out, HBAD.out]; simp, exq⟩
            have hgood : ∀ j, j < k + 1 → strAt t j = true := below_snoc HA.out (by rw [hgA]; rfl)
            have HGOOD := Lib.hid hgood
            clear hgood
            clear hxk hgA
            go_wp2_with (first
              | (go_at_call 190; ((with_reducible refine (track_in_any (la + 1) 9999 _ [id] _ (row_int1 _ _ _ (by simp))).mono ?_); rintro e w' ⟨rfl, X12, rfl⟩; rw [HC1.out]))
              | (go_at_call 190; ((with_reducible refine (track_in_any 0 5000 _ [wall] _ (row_int1 _ _ _ (by simp))).mono ?_); rintro e w' ⟨rfl, X13, rfl⟩; rw [HA5.out]))
              | (go_at_call 191; ((with_reducible refine (track_known_any ⟨llo, lhi⟩ 1 30000 _).mono ?_); rintro e w' ⟨rfl, X15, rfl⟩; rw [HA3.out]))
              | (go_at_call 191; ((with_reducible refine (track_known_any ⟨flo, fhi⟩ 0 5000 _).mono ?_); rintro e w' ⟨rfl, X16, rfl⟩; rw [HA4.out])))
            go_roundw
            case rel => exact ⟨k + 1, by omega, by rw [HLS.out], rfl, by go_num, HGOOD, exq⟩
            case measure => simp [intOf]; omega
    · have hall := HGO.out (fun j hj => HA.out j (by omega))
      have hnl : ¬ k < t.length := by omega
      have HALL := Lib.hid hall
      clear hall
      clear HA
      go_wp2_with fail
      try rw [Exit.noGoto_ret]
      go_ret
      exact ⟨by rw [HF.out, HALL.out]; rfl, exq⟩
end Go.Proofs.YtcickafaomfbmaaGreatDoor
