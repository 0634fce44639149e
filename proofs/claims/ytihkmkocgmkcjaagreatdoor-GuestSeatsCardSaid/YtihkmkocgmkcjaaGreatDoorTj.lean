/-
  Walks of the reference of layer 4: twins of bays and gear; whether spans, gear, truths are the same.
-/
import Derived.Test.YtihkmkocgmkcjaaGreatDoorRf
import Derived.Test.YtihkmkocgmkcjaaGreatDoorScE
import Derived.Test.YtihkmkocgmkcjaaGreatDoorBt
import Derived.Deep.RegionHeld3
namespace Go.Proofs.YtihkmkocgmkcjaaGreatDoor
open Go.RowKit Kr

set_option maxHeartbeats 400000 in
theorem r04_SameInts_any (l : List Int) (v1 v2 : Value) (w : World) (h1 : IsRow (fun t : Int => [.int .i64 t]) 1 w v1 l) (h2 : IsRow (fun t : Int => [.int .i64 t]) 1 w v2 l) :
    Calls Tryz.prog 44 #[v1, v2] w fun e w' => e = .returned (.bool true) ∧ w.Exts w' := by
  obtain ⟨p1, b1, o1, cap1, rfl, hm, hp1, hc1⟩ := h1.ex
  obtain ⟨p2, b2, o2, cap2, rfl, hm2, hp2, hc2⟩ := h2.ex
  have HC1 := Lib.hid hc1
  clear hc1
  have HC2 := Lib.hid hc2
  clear hc2
  clear h1 h2
  go_enter Tryz.func44, Tryz.ntmps44
  go_wp2_with fail
  go_loopw [5] (fun i wr => ∃ k : Nat, k ≤ l.length ∧ i = .int .i64 k ∧ w.Exts wr) (fun i _ => l.length - (intOf i).toNat)
  case atStart => exact ⟨0, Nat.zero_le _, rfl, exq⟩
  case round =>
    obtain ⟨k, hk, rfl, X, rfl⟩ := hrel
    by_cases hlt : k < l.length
    · obtain ⟨rfl, hl1⟩ := hp1 (by omega)
      obtain ⟨rfl, hl2⟩ := hp2 (by omega)
      obtain ⟨x, hx⟩ := some_of_lt hlt
      have d1 := HC1.out k x hx
      have d2 := HC2.out k x hx
      have c10 := d1 0 _ rfl
      have c20 := d2 0 _ rfl
      simp only [Nat.add_zero, Nat.mul_one] at c10 c20
      clear hx d1 d2 hp1 hp2
      go_wp2_with fail
      refine wp_region_ext (by kernel_rfl) (by kernel_rfl) ?_
      repeat (go_big_quiet_step (fail))
      refine wpQuiet_nil ?_
      rintro _ ⟨X, rfl⟩
      go_wp2_with fail
      go_roundw
      case rel => exact ⟨k + 1, by omega, by go_num, exq⟩
      case measure => simp [intOf]; omega
    · go_wp2_with fail
      go_ret
      exact ⟨rfl, exq⟩


set_option maxRecDepth 4000 in
set_option maxHeartbeats 2000000 in
theorem r04_SameGear_any (g : Gear) (l1 r1 s1 l2 r2 s2 : Value) (w : World) (h1 : GearAt w (g, l1, r1, s1)) (h2 : GearAt w (g, l2, r2, s2)) :
    Calls Tryz.prog 19 #[.agg #[l1, .int .i64 g.added, .int .i64 g.base, .int .i64 g.jitter, r1, s1, .int .i64 g.spread, .bool g.stamp], .agg #[l2, .int .i64 g.added, .int .i64 g.base, .int .i64 g.jitter, r2, s2, .int .i64 g.spread, .bool g.stamp]] w fun e w' => e = .returned (.bool true) ∧ w.Exts w' := by
  have hl1 := h1.l
  have hl2 := h2.l
  have hr1 := h1.r
  have hr2 := h2.r
  have hs1 := h1.s
  have hs2 := h2.s
  dsimp only at hl1 hl2 hr1 hr2 hs1 hs2
  obtain ⟨p1, b1, o1, cap1, rfl, hm, hp1, hc1⟩ := hl1.ex
  obtain ⟨p2, b2, o2, cap2, rfl, hm2, hp2, hc2⟩ := hl2.ex
  obtain ⟨q1, cq1, rfl⟩ := hr1.len
  obtain ⟨q2, cq2, rfl⟩ := hr2.len
  obtain ⟨q3, cq3, rfl⟩ := hs1.len
  obtain ⟨q4, cq4, rfl⟩ := hs2.len
  have HC1 := Lib.hid hc1
  clear hc1
  have HC2 := Lib.hid hc2
  clear hc2
  have HR1 := Lib.hid hr1
  clear hr1
  have HR2 := Lib.hid hr2
  clear hr2
  have HS1 := Lib.hid hs1
  clear hs1
  have HS2 := Lib.hid hs2
  clear hs2
  clear h1 h2 hl1 hl2
  go_enter Tryz.func19, Tryz.ntmps19
  go_wp2_with (first
    | (go_at_call 44; ((with_reducible refine (r04_SameInts_any g.runners _ _ _ (HR1.out.mono exq) (HR2.out.mono exq)).mono ?_); rintro e w' ⟨rfl, X0, rfl⟩))
    | (go_at_call 44; ((with_reducible refine (r04_SameInts_any g.strokes _ _ _ (HS1.out.mono exq) (HS2.out.mono exq)).mono ?_); rintro e w' ⟨rfl, X1, rfl⟩)))
  go_loopw [5] (fun i wr => ∃ k : Nat, k ≤ g.loads.length ∧ i = .int .i64 k ∧ (World.ext _ X1).Exts wr) (fun i _ => g.loads.length - (intOf i).toNat)
  case atStart => exact ⟨0, Nat.zero_le _, rfl, exq⟩
  case round =>
    obtain ⟨k, hk, rfl, X, rfl⟩ := hrel
    by_cases hlt : k < g.loads.length
    · obtain ⟨rfl, hl1⟩ := hp1 (by omega)
      obtain ⟨rfl, hl2⟩ := hp2 (by omega)
      obtain ⟨x, hx⟩ := some_of_lt hlt
      have d1 := HC1.out k x hx
      have d2 := HC2.out k x hx
      have c10 := d1 0 _ rfl
      have c11 := d1 1 _ rfl
      have c20 := d2 0 _ rfl
      have c21 := d2 1 _ rfl
      simp only [Nat.add_zero] at c10 c11 c20 c21
      clear hx d1 d2 hp1 hp2
      go_wp2_with fail
      refine wp_region_ext (by kernel_rfl) (by kernel_rfl) ?_
      repeat (go_big_quiet_step (fail))
      refine wpQuiet_nil ?_
      rintro _ ⟨X, rfl⟩
      go_wp2_with fail
      go_roundw
      case rel => exact ⟨k + 1, by omega, by go_num, exq⟩
      case measure => simp [intOf]; omega
    · go_wp2_with fail
      go_ret
      exact ⟨rfl, exq⟩
end Go.Proofs.YtihkmkocgmkcjaaGreatDoor
