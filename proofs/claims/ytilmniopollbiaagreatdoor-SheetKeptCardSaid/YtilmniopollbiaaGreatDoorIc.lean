/-
  Walks of the reference of tracks: Track, Check.
-/
import Derived.Test.YtilmniopollbiaaGreatDoorIb
import Derived.Test.YtilmniopollbiaaGreatDoorGiK
namespace Go.Proofs.YtilmniopollbiaaGreatDoor
open Go.RowKit Kr
set_option linter.unusedSimpArgs false
set_option linter.unusedVariables false

set_option maxRecDepth 4000 in
set_option maxHeartbeats 20000000 in
theorem r01_Track_any (t : List Kr.Stretch) (v : Value) (w : World) (hrow : IsRow (fun s : Kr.Stretch => [.int .i64 s.id, .int .i64 s.long.lo, .int .i64 s.long.hi, .int .i64 s.fall.lo, .int .i64 s.fall.hi, .int .i64 s.radius.lo, .int .i64 s.radius.hi, .int .u8 s.side, .int .i64 s.wall]) 9 w v t) :
    Calls Tryz.prog 146 #[.agg #[v]] w fun e w' => e = .returned (.bool (trackB t)) ∧ w.Exts w' := by
  obtain ⟨p, b, o, cap, rfl, hm, hp, hc⟩ := hrow.ex
  clear hrow
  have HP := Lib.hid hp
  clear hp
  have HC := Lib.hid hc
  clear hc
  obtain ⟨b0, hb0⟩ : ∃ z, inb 1 12 (t.length : Int) = z := ⟨_, rfl⟩
  have hf : trackB t = (b0 && allN (strAt t) t.length) := by unfold trackB; rw [hb0]
  have hgo : (∀ j, j < t.length → strAt t j = true) → allN (strAt t) t.length = true := fun hh => allN_iff.2 hh
  have hgx : ∀ j, j < t.length → strAt t j = false → allN (strAt t) t.length = false := fun j hj hh => allN_false hj hh
  generalize allN (strAt t) t.length = an at hf hgo hgx
  have HB0 := Lib.hid hb0
  clear hb0
  have HF := Lib.hid hf
  clear hf
  have HGO := Lib.hid hgo
  clear hgo
  have HGX := Lib.hid hgx
  clear hgx
  cases b0
  case false =>
    go_enter Tryz.func146, Tryz.ntmps146
    go_wp2_with (go_at_call 188; refine (r01_within_any (t.length : Int) 1 12 _).mono ?_; rintro e w' ⟨rfl, X2, rfl⟩; rw [HB0.out])
    go_ret
    exact ⟨by rw [HF.out]; rfl, exq⟩
  go_enter Tryz.func146, Tryz.ntmps146
  go_wp2_with (go_at_call 188; refine (r01_within_any (t.length : Int) 1 12 _).mono ?_; rintro e w' ⟨rfl, X2, rfl⟩; rw [HB0.out])
  go_loopw [3] (fun i wr => ∃ k : Nat, k ≤ t.length ∧ i = .int .i64 k ∧ Hid (∀ j, j < k → strAt t j = true) ∧ (World.ext _ X2).Exts wr) (fun i _ => t.length - (intOf i).toNat)
  case atStart => exact ⟨0, Nat.zero_le _, rfl, Lib.hid (fun j hj => by omega), exq⟩
  case round =>
    obtain ⟨k, hk, rfl, HA, hE⟩ := hrel
    obtain ⟨X3, rfl⟩ := hE
    rcases Nat.lt_or_ge k t.length with hlt | hge
    · obtain ⟨rfl, hlay⟩ := HP.out (by omega)
      obtain ⟨⟨id, ⟨llo, lhi⟩, ⟨flo, fhi⟩, ⟨rlo, rhi⟩, side, wall⟩, hx⟩ := some_of_lt hlt
      have hcs := HC.out k _ hx
      dsimp only at hcs
      have hxk := HGX.out k hlt
      obtain ⟨b1, ha1⟩ : ∃ z, inb 0 9999 id = z := ⟨_, rfl⟩
      obtain ⟨b3, ha3⟩ : ∃ z, ordered ⟨llo, lhi⟩ 1 30000 = z := ⟨_, rfl⟩
      obtain ⟨b4, ha4⟩ : ∃ z, ordered ⟨flo, fhi⟩ 0 5000 = z := ⟨_, rfl⟩
      obtain ⟨b5, ha5⟩ : ∃ z, inb 0 5000 wall = z := ⟨_, rfl⟩
      have hgA : strAt t k = (b1 && ((decide (k = 0) || decide ((t.getD (k - 1) default).id < id)) && ((b3 && (b4 && b5)) && sideOk ⟨id, ⟨llo, lhi⟩, ⟨flo, fhi⟩, ⟨rlo, rhi⟩, side, wall⟩))) := by
        unfold strAt strHead
        rw [getD_of hx]
        dsimp only
        rw [ha1, ha3, ha4, ha5]
      have HA1 := Lib.hid ha1
      clear ha1
      have HA3 := Lib.hid ha3
      clear ha3
      have HA4 := Lib.hid ha4
      clear ha4
      have HA5 := Lib.hid ha5
      clear ha5
      have HCS := Lib.hid hcs
      clear hcs
      have w2 : (k : Int) < (t.length : Int) := by omega
      rcases Nat.eq_zero_or_pos k with hk0 | hk0
      · have w3 : ¬ (0 : Int) < (k : Int) := by omega
        have w5 : ¬ 0 < k := by omega
        rw [decide_eq_true hk0, Bool.true_or, Bool.true_and] at hgA
        clear hx hk0
        cases b1
        case false =>
          have hbad := hxk (by rw [hgA]; rfl)
          have HBAD := Lib.hid hbad
          clear hbad
          clear hxk hgA
          go_wp2_with (first
            | (refine wpList_load_mid rfl 196 _ rfl b (o + k * 9) rfl [.int .i64 id, .int .i64 llo, .int .i64 lhi, .int .i64 flo, .int .i64 fhi, .int .i64 rlo, .int .i64 rhi, .int .u8 side, .int .i64 wall] _ (fun j u hju => World.Exts.cell (a := w) exq (HCS.out j u hju)) Tryz.underlying196 rfl (by kernel_rfl) ?_)
            | (refine wpList_store_new (t := 196) (cells := #[.int .i64 id, .int .i64 llo, .int .i64 lhi, .int .i64 flo, .int .i64 fhi, .int .i64 rlo, .int .i64 rhi, .int .u8 side, .int .i64 wall]) (by rfl) (by rfl) (by kernel_rfl) (by rfl) (by simp [Value.oneCell']) ?_))
          refine wp_region_ext (by kernel_rfl) (by kernel_rfl) ?_
          repeat (go_big_quiet_step ((first
            | (go_at_call 188; first | (with_reducible exact Calls.in_ext_eq (r01_within_any id 0 9999 _) (congrArg Value.bool HA1.out)) | (with_reducible exact Calls.in_ext_eq (r01_within_any wall 0 5000 _) (congrArg Value.bool HA5.out)))
            | (go_at_call 189; first | (with_reducible exact Calls.in_ext_eq (r01_span_any ⟨llo, lhi⟩ 1 30000 _) (congrArg Value.bool HA3.out)) | (with_reducible exact Calls.in_ext_eq (r01_span_any ⟨flo, fhi⟩ 0 5000 _) (congrArg Value.bool HA4.out))))))
          refine wpQuiet_nil ?_
          rintro _ ⟨X, rfl⟩
          go_wp2_with fail
          go_ret
          exact ⟨by rw [HF.out, HBAD.out]; simp, exq⟩
        cases b3
        case false =>
          have hbad := hxk (by rw [hgA]; simp)
          have HBAD := Lib.hid hbad
          clear hbad
          clear hxk hgA
          go_wp2_with (first
            | (refine wpList_load_mid rfl 196 _ rfl b (o + k * 9) rfl [.int .i64 id, .int .i64 llo, .int .i64 lhi, .int .i64 flo, .int .i64 fhi, .int .i64 rlo, .int .i64 rhi, .int .u8 side, .int .i64 wall] _ (fun j u hju => World.Exts.cell (a := w) exq (HCS.out j u hju)) Tryz.underlying196 rfl (by kernel_rfl) ?_)
            | (refine wpList_store_new (t := 196) (cells := #[.int .i64 id, .int .i64 llo, .int .i64 lhi, .int .i64 flo, .int .i64 fhi, .int .i64 rlo, .int .i64 rhi, .int .u8 side, .int .i64 wall]) (by rfl) (by rfl) (by kernel_rfl) (by rfl) (by simp [Value.oneCell']) ?_))
          refine wp_region_ext (by kernel_rfl) (by kernel_rfl) ?_
          repeat (go_big_quiet_step ((first
            | (go_at_call 188; first | (with_reducible exact Calls.in_ext_eq (r01_within_any id 0 9999 _) (congrArg Value.bool HA1.out)) | (with_reducible exact Calls.in_ext_eq (r01_within_any wall 0 5000 _) (congrArg Value.bool HA5.out)))
            | (go_at_call 189; first | (with_reducible exact Calls.in_ext_eq (r01_span_any ⟨llo, lhi⟩ 1 30000 _) (congrArg Value.bool HA3.out)) | (with_reducible exact Calls.in_ext_eq (r01_span_any ⟨flo, fhi⟩ 0 5000 _) (congrArg Value.bool HA4.out))))))
          refine wpQuiet_nil ?_
          rintro _ ⟨X, rfl⟩
          go_wp2_with fail
          go_ret
          exact ⟨by rw [HF.out, HBAD.out]; simp, exq⟩
        cases b4
        case false =>
          have hbad := hxk (by rw [hgA]; simp)
          have HBAD := Lib.hid hbad
          clear hbad
          clear hxk hgA
          go_wp2_with (first
            | (refine wpList_load_mid rfl 196 _ rfl b (o + k * 9) rfl [.int .i64 id, .int .i64 llo, .int .i64 lhi, .int .i64 flo, .int .i64 fhi, .int .i64 rlo, .int .i64 rhi, .int .u8 side, .int .i64 wall] _ (fun j u hju => World.Exts.cell (a := w) exq (HCS.out j u hju)) Tryz.underlying196 rfl (by kernel_rfl) ?_)
            | (refine wpList_store_new (t := 196) (cells := #[.int .i64 id, .int .i64 llo, .int .i64 lhi, .int .i64 flo, .int .i64 fhi, .int .i64 rlo, .int .i64 rhi, .int .u8 side, .int .i64 wall]) (by rfl) (by rfl) (by kernel_rfl) (by rfl) (by simp [Value.oneCell']) ?_))
          refine wp_region_ext (by kernel_rfl) (by kernel_rfl) ?_
          repeat (go_big_quiet_step ((first
            | (go_at_call 188; first | (with_reducible exact Calls.in_ext_eq (r01_within_any id 0 9999 _) (congrArg Value.bool HA1.out)) | (with_reducible exact Calls.in_ext_eq (r01_within_any wall 0 5000 _) (congrArg Value.bool HA5.out)))
            | (go_at_call 189; first | (with_reducible exact Calls.in_ext_eq (r01_span_any ⟨llo, lhi⟩ 1 30000 _) (congrArg Value.bool HA3.out)) | (with_reducible exact Calls.in_ext_eq (r01_span_any ⟨flo, fhi⟩ 0 5000 _) (congrArg Value.bool HA4.out))))))
          refine wpQuiet_nil ?_
          rintro _ ⟨X, rfl⟩
          go_wp2_with fail
          go_ret
          exact ⟨by rw [HF.out, HBAD.out]; simp, exq⟩
        cases b5
        case false =>
          have hbad := hxk (by rw [hgA]; simp)
          have HBAD := Lib.hid hbad
          clear hbad
          clear hxk hgA
          go_wp2_with (first
            | (refine wpList_load_mid rfl 196 _ rfl b (o + k * 9) rfl [.int .i64 id, .int .i64 llo, .int .i64 lhi, .int .i64 flo, .int .i64 fhi, .int .i64 rlo, .int .i64 rhi, .int .u8 side, .int .i64 wall] _ (fun j u hju => World.Exts.cell (a := w) exq (HCS.out j u hju)) Tryz.underlying196 rfl (by kernel_rfl) ?_)
            | (refine wpList_store_new (t := 196) (cells := #[.int .i64 id, .int .i64 llo, .int .i64 lhi, .int .i64 flo, .int .i64 fhi, .int .i64 rlo, .int .i64 rhi, .int .u8 side, .int .i64 wall]) (by rfl) (by rfl) (by kernel_rfl) (by rfl) (by simp [Value.oneCell']) ?_))
          refine wp_region_ext (by kernel_rfl) (by kernel_rfl) ?_
          repeat (go_big_quiet_step ((first
            | (go_at_call 188; first | (with_reducible exact Calls.in_ext_eq (r01_within_any id 0 9999 _) (congrArg Value.bool HA1.out)) | (with_reducible exact Calls.in_ext_eq (r01_within_any wall 0 5000 _) (congrArg Value.bool HA5.out)))
            | (go_at_call 189; first | (with_reducible exact Calls.in_ext_eq (r01_span_any ⟨llo, lhi⟩ 1 30000 _) (congrArg Value.bool HA3.out)) | (with_reducible exact Calls.in_ext_eq (r01_span_any ⟨flo, fhi⟩ 0 5000 _) (congrArg Value.bool HA4.out))))))
          refine wpQuiet_nil ?_
          rintro _ ⟨X, rfl⟩
          go_wp2_with fail
          go_ret
          exact ⟨by rw [HF.out, HBAD.out]; simp, exq⟩
        have HGA := Lib.hid hgA
        clear hgA
        have HXK := Lib.hid hxk
        clear hxk
        go_wp2_with (first
          | (refine wpList_load_mid rfl 196 _ rfl b (o + k * 9) rfl [.int .i64 id, .int .i64 llo, .int .i64 lhi, .int .i64 flo, .int .i64 fhi, .int .i64 rlo, .int .i64 rhi, .int .u8 side, .int .i64 wall] _ (fun j u hju => World.Exts.cell (a := w) exq (HCS.out j u hju)) Tryz.underlying196 rfl (by kernel_rfl) ?_)
          | (refine wpList_store_new (t := 196) (cells := #[.int .i64 id, .int .i64 llo, .int .i64 lhi, .int .i64 flo, .int .i64 fhi, .int .i64 rlo, .int .i64 rhi, .int .u8 side, .int .i64 wall]) (by rfl) (by rfl) (by kernel_rfl) (by rfl) (by simp [Value.oneCell']) ?_))
        refine wp_region_ext (by kernel_rfl) (by kernel_rfl) ?_
        repeat (go_big_quiet_step ((first
          | (go_at_call 188; first | (with_reducible exact Calls.in_ext_eq (r01_within_any id 0 9999 _) (congrArg Value.bool HA1.out)) | (with_reducible exact Calls.in_ext_eq (r01_within_any wall 0 5000 _) (congrArg Value.bool HA5.out)))
          | (go_at_call 189; first | (with_reducible exact Calls.in_ext_eq (r01_span_any ⟨llo, lhi⟩ 1 30000 _) (congrArg Value.bool HA3.out)) | (with_reducible exact Calls.in_ext_eq (r01_span_any ⟨flo, fhi⟩ 0 5000 _) (congrArg Value.bool HA4.out))))))
        refine wpQuiet_nil ?_
        rintro _ ⟨X, rfl⟩
        have hgA := HGA.out
        have hxk := HXK.out
        clear HGA HXK
        by_cases s0 : side = 0
        · have t0 : (side == 0) = true := by simpa using s0
          have u0 : decide (side = 0) = true := by simpa using s0
          have v0 : (side != 0) = false := by simp [bne, t0]
          by_cases r1 : rlo = 0
          · by_cases r2 : rhi = 0
            · have hso : sideOk ⟨id, ⟨llo, lhi⟩, ⟨flo, fhi⟩, ⟨rlo, rhi⟩, side, wall⟩ = true := by unfold sideOk; simp [s0, r1, r2]
              rw [hso] at hgA
              clear hso
              have a1 : (rlo != 0) = false := by simp [bne, r1]
              have a2 : decide (rlo = 0) = true := by simpa using r1
              have a3 : (rhi != 0) = false := by simp [bne, r2]
              have a4 : decide (rhi = 0) = true := by simpa using r2
              have hgood : ∀ j, j < k + 1 → strAt t j = true := below_snoc HA.out (by rw [hgA]; rfl)
              have HGOOD := Lib.hid hgood
              clear hgood
              clear hxk hgA
              clear s0 r1 r2
              go_wp2_with fail
              go_roundw
              case rel => exact ⟨k + 1, by omega, by go_num, HGOOD, exq⟩
              case measure => simp [intOf]; omega
            · have hso : sideOk ⟨id, ⟨llo, lhi⟩, ⟨flo, fhi⟩, ⟨rlo, rhi⟩, side, wall⟩ = false := by unfold sideOk; simp [s0, r1, r2]
              rw [hso] at hgA
              clear hso
              have a1 : (rlo != 0) = false := by simp [bne, r1]
              have a2 : decide (rlo = 0) = true := by simpa using r1
              have a3 : (rhi != 0) = true := by simpa using r2
              have a4 : decide (rhi = 0) = false := by simpa using r2
              have hbad := hxk (by rw [hgA]; simp)
              have HBAD := Lib.hid hbad
              clear hbad
              clear hxk hgA
              clear s0 r1 r2
              go_wp2_with fail
              go_ret
              exact ⟨by rw [HF.out, HBAD.out]; simp, exq⟩
          · have hso : sideOk ⟨id, ⟨llo, lhi⟩, ⟨flo, fhi⟩, ⟨rlo, rhi⟩, side, wall⟩ = false := by unfold sideOk; simp [s0, r1]
            rw [hso] at hgA
            clear hso
            have a1 : (rlo != 0) = true := by simpa using r1
            have a2 : decide (rlo = 0) = false := by simpa using r1
            have hbad := hxk (by rw [hgA]; simp)
            have HBAD := Lib.hid hbad
            clear hbad
            clear hxk hgA
            clear s0 r1
            go_wp2_with fail
            go_ret
            exact ⟨by rw [HF.out, HBAD.out]; simp, exq⟩
        obtain ⟨b6, ha6⟩ : ∃ z, ordered ⟨rlo, rhi⟩ 500 20000 = z := ⟨_, rfl⟩
        have t0 : (side == 0) = false := by simpa using s0
        have u0 : decide (side = 0) = false := by simpa using s0
        have v0 : (side != 0) = true := by simp [bne, t0]
        by_cases s1 : side = 1
        · have hso : sideOk ⟨id, ⟨llo, lhi⟩, ⟨flo, fhi⟩, ⟨rlo, rhi⟩, side, wall⟩ = b6 := by unfold sideOk; simp [s0, s1, ha6]
          rw [hso] at hgA
          have HA6 := Lib.hid ha6
          clear ha6
          clear hso
          have t1 : (side == 1) = true := by simpa using s1
          have u1 : decide (side = 1) = true := by simpa using s1
          have v1 : (side != 1) = false := by simp [bne, t1]
          clear s0 s1
          cases b6
          · have hbad := hxk (by rw [hgA]; simp)
            have HBAD := Lib.hid hbad
            clear hbad
            clear hxk hgA
            go_wp2_with (go_at_call 189; refine (r01_span_any ⟨rlo, rhi⟩ 500 20000 _).mono ?_; rintro e w' ⟨rfl, X9, rfl⟩; rw [HA6.out])
            go_ret
            exact ⟨by rw [HF.out, HBAD.out]; simp, exq⟩
          · have hgood : ∀ j, j < k + 1 → strAt t j = true := below_snoc HA.out (by rw [hgA]; rfl)
            have HGOOD := Lib.hid hgood
            clear hgood
            clear hxk hgA
            go_wp2_with (go_at_call 189; refine (r01_span_any ⟨rlo, rhi⟩ 500 20000 _).mono ?_; rintro e w' ⟨rfl, X9, rfl⟩; rw [HA6.out])
            go_roundw
            case rel => exact ⟨k + 1, by omega, by go_num, HGOOD, exq⟩
            case measure => simp [intOf]; omega
        by_cases s2 : side = 2
        · have hso : sideOk ⟨id, ⟨llo, lhi⟩, ⟨flo, fhi⟩, ⟨rlo, rhi⟩, side, wall⟩ = b6 := by unfold sideOk; simp [s2, ha6]
          rw [hso] at hgA
          have HA6 := Lib.hid ha6
          clear ha6
          clear hso
          have t1 : (side == 1) = false := by simpa using s1
          have u1 : decide (side = 1) = false := by simpa using s1
          have v1 : (side != 1) = true := by simp [bne, t1]
          have t2 : (side == 2) = true := by simpa using s2
          have u2 : decide (side = 2) = true := by simpa using s2
          have v2 : (side != 2) = false := by simp [bne, t2]
          clear s0 s1 s2
          cases b6
          · have hbad := hxk (by rw [hgA]; simp)
            have HBAD := Lib.hid hbad
            clear hbad
            clear hxk hgA
            go_wp2_with (go_at_call 189; refine (r01_span_any ⟨rlo, rhi⟩ 500 20000 _).mono ?_; rintro e w' ⟨rfl, X9, rfl⟩; rw [HA6.out])
            go_ret
            exact ⟨by rw [HF.out, HBAD.out]; simp, exq⟩
          · have hgood : ∀ j, j < k + 1 → strAt t j = true := below_snoc HA.out (by rw [hgA]; rfl)
            have HGOOD := Lib.hid hgood
            clear hgood
            clear hxk hgA
            go_wp2_with (go_at_call 189; refine (r01_span_any ⟨rlo, rhi⟩ 500 20000 _).mono ?_; rintro e w' ⟨rfl, X9, rfl⟩; rw [HA6.out])
            go_roundw
            case rel => exact ⟨k + 1, by omega, by go_num, HGOOD, exq⟩
            case measure => simp [intOf]; omega
        · have hso : sideOk ⟨id, ⟨llo, lhi⟩, ⟨flo, fhi⟩, ⟨rlo, rhi⟩, side, wall⟩ = false := by unfold sideOk; simp [s0, s1, s2]
          rw [hso] at hgA
          clear hso ha6
          have t1 : (side == 1) = false := by simpa using s1
          have u1 : decide (side = 1) = false := by simpa using s1
          have v1 : (side != 1) = true := by simp [bne, t1]
          have t2 : (side == 2) = false := by simpa using s2
          have u2 : decide (side = 2) = false := by simpa using s2
          have v2 : (side != 2) = true := by simp [bne, t2]
          have hbad := hxk (by rw [hgA]; simp)
          have HBAD := Lib.hid hbad
          clear hbad
          clear hxk hgA
          clear s0 s1 s2
          go_wp2_with fail
          go_ret
          exact ⟨by rw [HF.out, HBAD.out]; simp, exq⟩
      · obtain ⟨y, hy⟩ := some_of_lt (show k - 1 < t.length by omega)
        have d0 := HC.out (k - 1) y hy 0 _ rfl
        simp only [Nat.add_zero] at d0
        rw [getD_of hy, show decide (k = 0) = false by simp; omega, Bool.false_or] at hgA
        have w3 : (0 : Int) < (k : Int) := by omega
        have w4 : (k : Int) - 1 < (t.length : Int) := by omega
        clear hx hy
        rcases Int.lt_or_le y.id id with hyz | hyz
        · rw [decide_eq_true hyz, Bool.true_and] at hgA
          have d5 : decide (id ≤ y.id) = false := by simp; omega
          cases b1
          case false =>
            have hbad := hxk (by rw [hgA]; rfl)
            have HBAD := Lib.hid hbad
            clear hbad
            clear hxk hgA
            go_wp2_with (first
              | (refine wpList_load_mid rfl 196 _ rfl b (o + k * 9) rfl [.int .i64 id, .int .i64 llo, .int .i64 lhi, .int .i64 flo, .int .i64 fhi, .int .i64 rlo, .int .i64 rhi, .int .u8 side, .int .i64 wall] _ (fun j u hju => World.Exts.cell (a := w) exq (HCS.out j u hju)) Tryz.underlying196 rfl (by kernel_rfl) ?_)
              | (refine wpList_store_new (t := 196) (cells := #[.int .i64 id, .int .i64 llo, .int .i64 lhi, .int .i64 flo, .int .i64 fhi, .int .i64 rlo, .int .i64 rhi, .int .u8 side, .int .i64 wall]) (by rfl) (by rfl) (by kernel_rfl) (by rfl) (by simp [Value.oneCell']) ?_))
            refine wp_region_ext (by kernel_rfl) (by kernel_rfl) ?_
            repeat (go_big_quiet_step ((first
              | (go_at_call 188; first | (with_reducible exact Calls.in_ext_eq (r01_within_any id 0 9999 _) (congrArg Value.bool HA1.out)) | (with_reducible exact Calls.in_ext_eq (r01_within_any wall 0 5000 _) (congrArg Value.bool HA5.out)))
              | (go_at_call 189; first | (with_reducible exact Calls.in_ext_eq (r01_span_any ⟨llo, lhi⟩ 1 30000 _) (congrArg Value.bool HA3.out)) | (with_reducible exact Calls.in_ext_eq (r01_span_any ⟨flo, fhi⟩ 0 5000 _) (congrArg Value.bool HA4.out))))))
            refine wpQuiet_nil ?_
            rintro _ ⟨X, rfl⟩
            go_wp2_with fail
            go_ret
            exact ⟨by rw [HF.out, HBAD.out]; simp, exq⟩
          cases b3
          case false =>
            have hbad := hxk (by rw [hgA]; simp)
            have HBAD := Lib.hid hbad
            clear hbad
            clear hxk hgA
            go_wp2_with (first
              | (refine wpList_load_mid rfl 196 _ rfl b (o + k * 9) rfl [.int .i64 id, .int .i64 llo, .int .i64 lhi, .int .i64 flo, .int .i64 fhi, .int .i64 rlo, .int .i64 rhi, .int .u8 side, .int .i64 wall] _ (fun j u hju => World.Exts.cell (a := w) exq (HCS.out j u hju)) Tryz.underlying196 rfl (by kernel_rfl) ?_)
              | (refine wpList_store_new (t := 196) (cells := #[.int .i64 id, .int .i64 llo, .int .i64 lhi, .int .i64 flo, .int .i64 fhi, .int .i64 rlo, .int .i64 rhi, .int .u8 side, .int .i64 wall]) (by rfl) (by rfl) (by kernel_rfl) (by rfl) (by simp [Value.oneCell']) ?_))
            refine wp_region_ext (by kernel_rfl) (by kernel_rfl) ?_
            repeat (go_big_quiet_step ((first
              | (go_at_call 188; first | (with_reducible exact Calls.in_ext_eq (r01_within_any id 0 9999 _) (congrArg Value.bool HA1.out)) | (with_reducible exact Calls.in_ext_eq (r01_within_any wall 0 5000 _) (congrArg Value.bool HA5.out)))
              | (go_at_call 189; first | (with_reducible exact Calls.in_ext_eq (r01_span_any ⟨llo, lhi⟩ 1 30000 _) (congrArg Value.bool HA3.out)) | (with_reducible exact Calls.in_ext_eq (r01_span_any ⟨flo, fhi⟩ 0 5000 _) (congrArg Value.bool HA4.out))))))
            refine wpQuiet_nil ?_
            rintro _ ⟨X, rfl⟩
            go_wp2_with fail
            go_ret
            exact ⟨by rw [HF.out, HBAD.out]; simp, exq⟩
          cases b4
          case false =>
            have hbad := hxk (by rw [hgA]; simp)
            have HBAD := Lib.hid hbad
            clear hbad
            clear hxk hgA
            go_wp2_with (first
              | (refine wpList_load_mid rfl 196 _ rfl b (o + k * 9) rfl [.int .i64 id, .int .i64 llo, .int .i64 lhi, .int .i64 flo, .int .i64 fhi, .int .i64 rlo, .int .i64 rhi, .int .u8 side, .int .i64 wall] _ (fun j u hju => World.Exts.cell (a := w) exq (HCS.out j u hju)) Tryz.underlying196 rfl (by kernel_rfl) ?_)
              | (refine wpList_store_new (t := 196) (cells := #[.int .i64 id, .int .i64 llo, .int .i64 lhi, .int .i64 flo, .int .i64 fhi, .int .i64 rlo, .int .i64 rhi, .int .u8 side, .int .i64 wall]) (by rfl) (by rfl) (by kernel_rfl) (by rfl) (by simp [Value.oneCell']) ?_))
            refine wp_region_ext (by kernel_rfl) (by kernel_rfl) ?_
            repeat (go_big_quiet_step ((first
              | (go_at_call 188; first | (with_reducible exact Calls.in_ext_eq (r01_within_any id 0 9999 _) (congrArg Value.bool HA1.out)) | (with_reducible exact Calls.in_ext_eq (r01_within_any wall 0 5000 _) (congrArg Value.bool HA5.out)))
              | (go_at_call 189; first | (with_reducible exact Calls.in_ext_eq (r01_span_any ⟨llo, lhi⟩ 1 30000 _) (congrArg Value.bool HA3.out)) | (with_reducible exact Calls.in_ext_eq (r01_span_any ⟨flo, fhi⟩ 0 5000 _) (congrArg Value.bool HA4.out))))))
            refine wpQuiet_nil ?_
            rintro _ ⟨X, rfl⟩
            go_wp2_with fail
            go_ret
            exact ⟨by rw [HF.out, HBAD.out]; simp, exq⟩
          cases b5
          case false =>
            have hbad := hxk (by rw [hgA]; simp)
            have HBAD := Lib.hid hbad
            clear hbad
            clear hxk hgA
            go_wp2_with (first
              | (refine wpList_load_mid rfl 196 _ rfl b (o + k * 9) rfl [.int .i64 id, .int .i64 llo, .int .i64 lhi, .int .i64 flo, .int .i64 fhi, .int .i64 rlo, .int .i64 rhi, .int .u8 side, .int .i64 wall] _ (fun j u hju => World.Exts.cell (a := w) exq (HCS.out j u hju)) Tryz.underlying196 rfl (by kernel_rfl) ?_)
              | (refine wpList_store_new (t := 196) (cells := #[.int .i64 id, .int .i64 llo, .int .i64 lhi, .int .i64 flo, .int .i64 fhi, .int .i64 rlo, .int .i64 rhi, .int .u8 side, .int .i64 wall]) (by rfl) (by rfl) (by kernel_rfl) (by rfl) (by simp [Value.oneCell']) ?_))
            refine wp_region_ext (by kernel_rfl) (by kernel_rfl) ?_
            repeat (go_big_quiet_step ((first
              | (go_at_call 188; first | (with_reducible exact Calls.in_ext_eq (r01_within_any id 0 9999 _) (congrArg Value.bool HA1.out)) | (with_reducible exact Calls.in_ext_eq (r01_within_any wall 0 5000 _) (congrArg Value.bool HA5.out)))
              | (go_at_call 189; first | (with_reducible exact Calls.in_ext_eq (r01_span_any ⟨llo, lhi⟩ 1 30000 _) (congrArg Value.bool HA3.out)) | (with_reducible exact Calls.in_ext_eq (r01_span_any ⟨flo, fhi⟩ 0 5000 _) (congrArg Value.bool HA4.out))))))
            refine wpQuiet_nil ?_
            rintro _ ⟨X, rfl⟩
            go_wp2_with fail
            go_ret
            exact ⟨by rw [HF.out, HBAD.out]; simp, exq⟩
          have HGA := Lib.hid hgA
          clear hgA
          have HXK := Lib.hid hxk
          clear hxk
          go_wp2_with (first
            | (refine wpList_load_mid rfl 196 _ rfl b (o + k * 9) rfl [.int .i64 id, .int .i64 llo, .int .i64 lhi, .int .i64 flo, .int .i64 fhi, .int .i64 rlo, .int .i64 rhi, .int .u8 side, .int .i64 wall] _ (fun j u hju => World.Exts.cell (a := w) exq (HCS.out j u hju)) Tryz.underlying196 rfl (by kernel_rfl) ?_)
            | (refine wpList_store_new (t := 196) (cells := #[.int .i64 id, .int .i64 llo, .int .i64 lhi, .int .i64 flo, .int .i64 fhi, .int .i64 rlo, .int .i64 rhi, .int .u8 side, .int .i64 wall]) (by rfl) (by rfl) (by kernel_rfl) (by rfl) (by simp [Value.oneCell']) ?_))
          refine wp_region_ext (by kernel_rfl) (by kernel_rfl) ?_
          repeat (go_big_quiet_step ((first
            | (go_at_call 188; first | (with_reducible exact Calls.in_ext_eq (r01_within_any id 0 9999 _) (congrArg Value.bool HA1.out)) | (with_reducible exact Calls.in_ext_eq (r01_within_any wall 0 5000 _) (congrArg Value.bool HA5.out)))
            | (go_at_call 189; first | (with_reducible exact Calls.in_ext_eq (r01_span_any ⟨llo, lhi⟩ 1 30000 _) (congrArg Value.bool HA3.out)) | (with_reducible exact Calls.in_ext_eq (r01_span_any ⟨flo, fhi⟩ 0 5000 _) (congrArg Value.bool HA4.out))))))
          refine wpQuiet_nil ?_
          rintro _ ⟨X, rfl⟩
          have hgA := HGA.out
          have hxk := HXK.out
          clear HGA HXK
          by_cases s0 : side = 0
          · have t0 : (side == 0) = true := by simpa using s0
            have u0 : decide (side = 0) = true := by simpa using s0
            have v0 : (side != 0) = false := by simp [bne, t0]
            by_cases r1 : rlo = 0
            · by_cases r2 : rhi = 0
              · have hso : sideOk ⟨id, ⟨llo, lhi⟩, ⟨flo, fhi⟩, ⟨rlo, rhi⟩, side, wall⟩ = true := by unfold sideOk; simp [s0, r1, r2]
                rw [hso] at hgA
                clear hso
                have a1 : (rlo != 0) = false := by simp [bne, r1]
                have a2 : decide (rlo = 0) = true := by simpa using r1
                have a3 : (rhi != 0) = false := by simp [bne, r2]
                have a4 : decide (rhi = 0) = true := by simpa using r2
                have hgood : ∀ j, j < k + 1 → strAt t j = true := below_snoc HA.out (by rw [hgA]; rfl)
                have HGOOD := Lib.hid hgood
                clear hgood
                clear hxk hgA
                clear s0 r1 r2
                go_wp2_with fail
                go_roundw
                case rel => exact ⟨k + 1, by omega, by go_num, HGOOD, exq⟩
                case measure => simp [intOf]; omega
              · have hso : sideOk ⟨id, ⟨llo, lhi⟩, ⟨flo, fhi⟩, ⟨rlo, rhi⟩, side, wall⟩ = false := by unfold sideOk; simp [s0, r1, r2]
                rw [hso] at hgA
                clear hso
                have a1 : (rlo != 0) = false := by simp [bne, r1]
                have a2 : decide (rlo = 0) = true := by simpa using r1
                have a3 : (rhi != 0) = true := by simpa using r2
                have a4 : decide (rhi = 0) = false := by simpa using r2
                have hbad := hxk (by rw [hgA]; simp)
                have HBAD := Lib.hid hbad
                clear hbad
                clear hxk hgA
                clear s0 r1 r2
                go_wp2_with fail
                go_ret
                exact ⟨by rw [HF.out, HBAD.out]; simp, exq⟩
            · have hso : sideOk ⟨id, ⟨llo, lhi⟩, ⟨flo, fhi⟩, ⟨rlo, rhi⟩, side, wall⟩ = false := by unfold sideOk; simp [s0, r1]
              rw [hso] at hgA
              clear hso
              have a1 : (rlo != 0) = true := by simpa using r1
              have a2 : decide (rlo = 0) = false := by simpa using r1
              have hbad := hxk (by rw [hgA]; simp)
              have HBAD := Lib.hid hbad
              clear hbad
              clear hxk hgA
              clear s0 r1
              go_wp2_with fail
              go_ret
              exact ⟨by rw [HF.out, HBAD.out]; simp, exq⟩
          obtain ⟨b6, ha6⟩ : ∃ z, ordered ⟨rlo, rhi⟩ 500 20000 = z := ⟨_, rfl⟩
          have t0 : (side == 0) = false := by simpa using s0
          have u0 : decide (side = 0) = false := by simpa using s0
          have v0 : (side != 0) = true := by simp [bne, t0]
          by_cases s1 : side = 1
          · have hso : sideOk ⟨id, ⟨llo, lhi⟩, ⟨flo, fhi⟩, ⟨rlo, rhi⟩, side, wall⟩ = b6 := by unfold sideOk; simp [s0, s1, ha6]
            rw [hso] at hgA
            have HA6 := Lib.hid ha6
            clear ha6
            clear hso
            have t1 : (side == 1) = true := by simpa using s1
            have u1 : decide (side = 1) = true := by simpa using s1
            have v1 : (side != 1) = false := by simp [bne, t1]
            clear s0 s1
            cases b6
            · have hbad := hxk (by rw [hgA]; simp)
              have HBAD := Lib.hid hbad
              clear hbad
              clear hxk hgA
              go_wp2_with (go_at_call 189; refine (r01_span_any ⟨rlo, rhi⟩ 500 20000 _).mono ?_; rintro e w' ⟨rfl, X9, rfl⟩; rw [HA6.out])
              go_ret
              exact ⟨by rw [HF.out, HBAD.out]; simp, exq⟩
            · have hgood : ∀ j, j < k + 1 → strAt t j = true := below_snoc HA.out (by rw [hgA]; rfl)
              have HGOOD := Lib.hid hgood
              clear hgood
              clear hxk hgA
              go_wp2_with (go_at_call 189; refine (r01_span_any ⟨rlo, rhi⟩ 500 20000 _).mono ?_; rintro e w' ⟨rfl, X9, rfl⟩; rw [HA6.out])
              go_roundw
              case rel => exact ⟨k + 1, by omega, by go_num, HGOOD, exq⟩
              case measure => simp [intOf]; omega
          by_cases s2 : side = 2
          · have hso : sideOk ⟨id, ⟨llo, lhi⟩, ⟨flo, fhi⟩, ⟨rlo, rhi⟩, side, wall⟩ = b6 := by unfold sideOk; simp [s2, ha6]
            rw [hso] at hgA
            have HA6 := Lib.hid ha6
            clear ha6
            clear hso
            have t1 : (side == 1) = false := by simpa using s1
            have u1 : decide (side = 1) = false := by simpa using s1
            have v1 : (side != 1) = true := by simp [bne, t1]
            have t2 : (side == 2) = true := by simpa using s2
            have u2 : decide (side = 2) = true := by simpa using s2
            have v2 : (side != 2) = false := by simp [bne, t2]
            clear s0 s1 s2
            cases b6
            · have hbad := hxk (by rw [hgA]; simp)
              have HBAD := Lib.hid hbad
              clear hbad
              clear hxk hgA
              go_wp2_with (go_at_call 189; refine (r01_span_any ⟨rlo, rhi⟩ 500 20000 _).mono ?_; rintro e w' ⟨rfl, X9, rfl⟩; rw [HA6.out])
              go_ret
              exact ⟨by rw [HF.out, HBAD.out]; simp, exq⟩
            · have hgood : ∀ j, j < k + 1 → strAt t j = true := below_snoc HA.out (by rw [hgA]; rfl)
              have HGOOD := Lib.hid hgood
              clear hgood
              clear hxk hgA
              go_wp2_with (go_at_call 189; refine (r01_span_any ⟨rlo, rhi⟩ 500 20000 _).mono ?_; rintro e w' ⟨rfl, X9, rfl⟩; rw [HA6.out])
              go_roundw
              case rel => exact ⟨k + 1, by omega, by go_num, HGOOD, exq⟩
              case measure => simp [intOf]; omega
          · have hso : sideOk ⟨id, ⟨llo, lhi⟩, ⟨flo, fhi⟩, ⟨rlo, rhi⟩, side, wall⟩ = false := by unfold sideOk; simp [s0, s1, s2]
            rw [hso] at hgA
            clear hso ha6
            have t1 : (side == 1) = false := by simpa using s1
            have u1 : decide (side = 1) = false := by simpa using s1
            have v1 : (side != 1) = true := by simp [bne, t1]
            have t2 : (side == 2) = false := by simpa using s2
            have u2 : decide (side = 2) = false := by simpa using s2
            have v2 : (side != 2) = true := by simp [bne, t2]
            have hbad := hxk (by rw [hgA]; simp)
            have HBAD := Lib.hid hbad
            clear hbad
            clear hxk hgA
            clear s0 s1 s2
            go_wp2_with fail
            go_ret
            exact ⟨by rw [HF.out, HBAD.out]; simp, exq⟩
        · rw [decide_eq_false (by omega), Bool.false_and, Bool.and_false] at hgA
          have d5 : decide (id ≤ y.id) = true := by simp; omega
          have hbad := hxk hgA
          have HBAD := Lib.hid hbad
          clear hbad
          clear hxk hgA
          cases b1
          all_goals
            go_wp2_with (first
              | (refine wpList_load_mid rfl 196 _ rfl b (o + k * 9) rfl [.int .i64 id, .int .i64 llo, .int .i64 lhi, .int .i64 flo, .int .i64 fhi, .int .i64 rlo, .int .i64 rhi, .int .u8 side, .int .i64 wall] _ (fun j u hju => World.Exts.cell (a := w) exq (HCS.out j u hju)) Tryz.underlying196 rfl (by kernel_rfl) ?_)
              | (refine wpList_store_new (t := 196) (cells := #[.int .i64 id, .int .i64 llo, .int .i64 lhi, .int .i64 flo, .int .i64 fhi, .int .i64 rlo, .int .i64 rhi, .int .u8 side, .int .i64 wall]) (by rfl) (by rfl) (by kernel_rfl) (by rfl) (by simp [Value.oneCell']) ?_))
            refine wp_region_ext (by kernel_rfl) (by kernel_rfl) ?_
            repeat (go_big_quiet_step ((first
              | (go_at_call 188; first | (with_reducible exact Calls.in_ext_eq (r01_within_any id 0 9999 _) (congrArg Value.bool HA1.out)) | (with_reducible exact Calls.in_ext_eq (r01_within_any wall 0 5000 _) (congrArg Value.bool HA5.out)))
              | (go_at_call 189; first | (with_reducible exact Calls.in_ext_eq (r01_span_any ⟨llo, lhi⟩ 1 30000 _) (congrArg Value.bool HA3.out)) | (with_reducible exact Calls.in_ext_eq (r01_span_any ⟨flo, fhi⟩ 0 5000 _) (congrArg Value.bool HA4.out))))))
            refine wpQuiet_nil ?_
            rintro _ ⟨X, rfl⟩
            go_wp2_with fail
            go_ret
            exact ⟨by rw [HF.out, HBAD.out]; simp, exq⟩
    · have hnl : ¬ k < t.length := by omega
      have hall := HGO.out (fun j hj => HA.out j (by omega))
      have w2 : ¬ (k : Int) < (t.length : Int) := by omega
      have HALL := Lib.hid hall
      clear hall
      clear HA
      go_wp2_with fail
      go_ret
      exact ⟨by rw [HF.out, HALL.out]; rfl, exq⟩

set_option maxHeartbeats 400000 in
theorem r01_Check_any (t : List Kr.Stretch) (v : Value) (w : World) (hrow : IsRow (fun s : Kr.Stretch => [.int .i64 s.id, .int .i64 s.long.lo, .int .i64 s.long.hi, .int .i64 s.fall.lo, .int .i64 s.fall.hi, .int .i64 s.radius.lo, .int .i64 s.radius.hi, .int .u8 s.side, .int .i64 s.wall]) 9 w v t) :
    Calls Tryz.prog 93 #[.agg #[v]] w fun e w' => e = .returned (.int .i64 (if trackB t then 0 else 10)) ∧ w.Exts w' := by
  have hc := fun (W : World) (hE : w.Exts W) => r01_Track_any t v W (hrow.mono hE)
  obtain ⟨q, c, rfl⟩ := hrow.len
  generalize trackB t = b at hc ⊢
  have HC := Lib.hid hc
  clear hc
  clear hrow
  cases b
  all_goals
    go_enter Tryz.func93, Tryz.ntmps93
    go_wp2_with (go_at_call 146; refine (HC.out _ exq).mono ?_; rintro e w' ⟨rfl, X2, rfl⟩)
    go_ret
    exact ⟨rfl, exq⟩
end Go.Proofs.YtilmniopollbiaaGreatDoor
