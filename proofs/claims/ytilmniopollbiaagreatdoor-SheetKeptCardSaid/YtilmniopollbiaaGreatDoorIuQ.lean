/-
  Several texts in one: see the heads of its parts.
-/
import Derived.Test.YtilmniopollbiaaGreatDoorIdF
import Derived.Test.YtilmniopollbiaaGreatDoorTp
import Derived.Test.YtilmniopollbiaaGreatDoorJdk
import Derived.Test.YtilmniopollbiaaGreatDoorIgK
import Derived.Test.YtilmniopollbiaaGreatDoorIsT
import Derived.Test.YtilmniopollbiaaGreatDoorIlO
import Derived.Test.YtilmniopollbiaaGreatDoorTk
import Derived.Test.YtilmniopollbiaaGreatDoorTm

/-
  Walks of references: what compares tracks, covers, plans, sheets; whether a cover is great.
-/
namespace Go.Proofs.YtilmniopollbiaaGreatDoor
open Go.RowKit Kr
set_option linter.unusedSimpArgs false
set_option linter.unusedVariables false

set_option maxHeartbeats 400000 in
theorem r01_SameInts_any (l : List Int) (v1 v2 : Value) (w : World) (h1 : IsRow (fun t : Int => [.int .i64 t]) 1 w v1 l) (h2 : IsRow (fun t : Int => [.int .i64 t]) 1 w v2 l) :
    Calls Tryz.prog 34 #[v1, v2] w fun e w' => e = .returned (.bool true) ∧ w.Exts w' := by
  obtain ⟨p1, b1, o1, cap1, rfl, hm, hp1, hc1⟩ := h1.ex
  obtain ⟨p2, b2, o2, cap2, rfl, hm2, hp2, hc2⟩ := h2.ex
  have HC1 := Lib.hid hc1
  clear hc1
  have HC2 := Lib.hid hc2
  clear hc2
  clear h1 h2
  go_enter Tryz.func34, Tryz.ntmps34
  go_wp2_with fail
  go_loopw [5] (fun i wr => ∃ k : Nat, k ≤ l.length ∧ i = .int .i64 k ∧ w.Exts wr) (fun i _ => l.length - (intOf i).toNat)
  case atStart => exact ⟨0, Nat.zero_le _, rfl, exq⟩
  case round =>
    obtain ⟨k, hk, rfl, X, rfl⟩ := hrel
    by_cases hlt : k < l.length
    · obtain ⟨rfl, hl1⟩ := hp1 (by omega)
      obtain ⟨rfl, hl2⟩ := hp2 (by omega)
      obtain ⟨x, hx⟩ := some_of_lt hlt
      have d1 := HC1.out k x hx
      have d2 := HC2.out k x hx
      have c10 := d1 0 _ rfl
      have c20 := d2 0 _ rfl
      simp only [Nat.add_zero, Nat.mul_one] at c10 c20
      clear hx d1 d2 hp1 hp2
      go_wp2_with fail
      refine wp_region_ext (by kernel_rfl) (by kernel_rfl) ?_
      repeat (go_big_quiet_step (fail))
      refine wpQuiet_nil ?_
      rintro _ ⟨X, rfl⟩
      go_wp2_with fail
      go_roundw
      case rel => exact ⟨k + 1, by omega, by go_num, exq⟩
      case measure => simp [intOf]; omega
    · go_wp2_with fail
      go_ret
      exact ⟨rfl, exq⟩
theorem r02_SameInts_any (l : List Int) (v v' : Value) (w : World) (h : IsRow (fun x : Int => [.int .i64 x]) 1 w v l) (h' : IsRow (fun x : Int => [.int .i64 x]) 1 w v' l) :
    Calls Tryz.prog 54 #[v, v'] w fun e w' => e = .returned (.bool true) ∧ w.Exts w' := by
  have hs := fun (W : World) (hE : w.Exts W) => r01_SameInts_any l v v' W (h.mono hE) (h'.mono hE)
  obtain ⟨p, c, rfl⟩ := h.len
  obtain ⟨p', c', rfl⟩ := h'.len
  clear h h'
  have HS := Lib.hid hs
  clear hs
  go_enter Tryz.func54, Tryz.ntmps54
  go_wp2_with (go_at_call 34; refine (HS.out _ exq).mono ?_; rintro e w' ⟨rfl, X1, rfl⟩)
  go_ret
  exact ⟨rfl, exq⟩

set_option maxHeartbeats 1000000 in
theorem r02_SameLists_any (xs ys : List (List Int × Value)) (v1 v2 : Value) (w : World) (h1 : ListsAt w v1 xs) (h2 : ListsAt w v2 ys) (he : xs.map Prod.fst = ys.map Prod.fst) :
    Calls Tryz.prog 19 #[v1, v2] w fun e w' => e = .returned (.bool true) ∧ w.Exts w' := by
  have hlen : ys.length = xs.length := by rw [← List.length_map (f := Prod.fst), ← he, List.length_map]
  obtain ⟨p1, b1, o1, cap1, rfl, hm, hp1, hc1⟩ := h1.row.ex
  obtain ⟨p2, b2, o2, cap2, rfl, _, hp2, hc2⟩ := h2.row.ex
  have ht1 := h1.mem
  have ht2 := h2.mem
  rw [hlen] at hp2 ⊢
  have HC1 := Lib.hid hc1
  clear hc1
  have HC2 := Lib.hid hc2
  clear hc2
  have HT1 := Lib.hid ht1
  clear ht1
  have HT2 := Lib.hid ht2
  clear ht2
  have HE := Lib.hid he
  clear he
  clear h1 h2
  go_enter Tryz.func19, Tryz.ntmps19
  go_wp2_with fail
  go_loopw [5] (fun i wr => ∃ k : Nat, k ≤ xs.length ∧ i = .int .i64 k ∧ w.Exts wr) (fun i _ => xs.length - (intOf i).toNat)
  case atStart => exact ⟨0, Nat.zero_le _, rfl, exq⟩
  case round =>
    obtain ⟨k, hk, rfl, X, rfl⟩ := hrel
    rcases Nat.lt_or_ge k xs.length with hlt | hge
    · obtain ⟨rfl, hl1⟩ := hp1 (by omega)
      obtain ⟨rfl, hl2⟩ := hp2 (by omega)
      obtain ⟨⟨x, xv⟩, hx⟩ := some_of_lt hlt
      obtain ⟨⟨y, yv⟩, hy⟩ := some_of_lt (show k < ys.length by omega)
      have hxy : x = y := by
        have h := congrArg (fun l => l[k]?) HE.out
        simpa [hx, hy] using h
      subst hxy
      have hr1 := HT1.out _ (List.mem_of_getElem? hx)
      have hr2 := HT2.out _ (List.mem_of_getElem? hy)
      dsimp only at hr1 hr2
      have d1 := HC1.out k _ hx
      have d2 := HC2.out k _ hy
      have c10 := d1 0 _ rfl
      have c20 := d2 0 _ rfl
      simp only [Nat.add_zero, Nat.mul_one] at c10 c20
      obtain ⟨q1, e1, rfl⟩ := hr1.len
      obtain ⟨q2, e2, rfl⟩ := hr2.len
      have HR1 := Lib.hid hr1
      clear hr1
      have HR2 := Lib.hid hr2
      clear hr2
      clear hx hy d1 d2
      go_wp2_with fail
      refine wp_region_ext (by kernel_rfl) (by kernel_rfl) ?_
      repeat (go_big_quiet_step ((go_at_call 54; exact Calls.in_ext (r02_SameInts_any x _ _ _ (HR1.out.mono exq) (HR2.out.mono exq)))))
      refine wpQuiet_nil ?_
      rintro _ ⟨X, rfl⟩
      go_wp2_with fail
      go_roundw
      case rel => exact ⟨k + 1, by omega, by go_num, exq⟩
      case measure => simp [intOf]; omega
    · have hnl : ¬ k < xs.length := by omega
      go_wp2_with fail
      go_ret
      exact ⟨rfl, exq⟩

set_option maxHeartbeats 1000000 in
theorem r11_Same_any (kd : Int) (xs ys : List (List Int × Value)) (v1 v2 : Value) (w : World) (h1 : ListsAt w v1 xs) (h2 : ListsAt w v2 ys) (he : xs.map Prod.fst = ys.map Prod.fst) :
    Calls Tryz.prog 17 #[.agg #[.int .u8 kd, v1], .agg #[.int .u8 kd, v2]] w fun e w' => e = .returned (.bool true) ∧ w.Exts w' := by
  have hlen : ys.length = xs.length := by rw [← List.length_map (f := Prod.fst), ← he, List.length_map]
  obtain ⟨p1, b1, o1, cap1, rfl, hm, hp1, hc1⟩ := h1.row.ex
  obtain ⟨p2, b2, o2, cap2, rfl, _, hp2, hc2⟩ := h2.row.ex
  have ht1 := h1.mem
  have ht2 := h2.mem
  rw [hlen] at hp2 ⊢
  have HC1 := Lib.hid hc1
  clear hc1
  have HC2 := Lib.hid hc2
  clear hc2
  have HT1 := Lib.hid ht1
  clear ht1
  have HT2 := Lib.hid ht2
  clear ht2
  have HE := Lib.hid he
  clear he
  clear h1 h2
  go_enter Tryz.func17, Tryz.ntmps17
  go_wp2_with fail
  go_loopw [5] (fun i wr => ∃ k : Nat, k ≤ xs.length ∧ i = .int .i64 k ∧ ((w.alloc (.cells #[.int .u8 kd, .slice p1 xs.length cap1] 48)).alloc (.cells #[.int .u8 kd, .slice p2 xs.length cap2] 48)).Exts wr) (fun i _ => xs.length - (intOf i).toNat)
  case atStart => exact ⟨0, Nat.zero_le _, rfl, exq⟩
  case round =>
    obtain ⟨k, hk, rfl, X, rfl⟩ := hrel
    rcases Nat.lt_or_ge k xs.length with hlt | hge
    · obtain ⟨rfl, hl1⟩ := hp1 (by omega)
      obtain ⟨rfl, hl2⟩ := hp2 (by omega)
      obtain ⟨⟨x, xv⟩, hx⟩ := some_of_lt hlt
      obtain ⟨⟨y, yv⟩, hy⟩ := some_of_lt (show k < ys.length by omega)
      have hxy : x = y := by
        have h := congrArg (fun l => l[k]?) HE.out
        simpa [hx, hy] using h
      subst hxy
      have hr1 := HT1.out _ (List.mem_of_getElem? hx)
      have hr2 := HT2.out _ (List.mem_of_getElem? hy)
      dsimp only at hr1 hr2
      have d1 := HC1.out k _ hx
      have d2 := HC2.out k _ hy
      have c10 := d1 0 _ rfl
      have c20 := d2 0 _ rfl
      simp only [Nat.add_zero, Nat.mul_one] at c10 c20
      obtain ⟨q1, e1, rfl⟩ := hr1.len
      obtain ⟨q2, e2, rfl⟩ := hr2.len
      have HR1 := Lib.hid hr1
      clear hr1
      have HR2 := Lib.hid hr2
      clear hr2
      clear hx hy d1 d2
      go_wp2_with fail
      refine wp_region_ext (by kernel_rfl) (by kernel_rfl) ?_
      repeat (go_big_quiet_step ((go_at_call 34; exact Calls.in_ext (r01_SameInts_any x _ _ _ (HR1.out.mono exq) (HR2.out.mono exq)))))
      refine wpQuiet_nil ?_
      rintro _ ⟨X, rfl⟩
      go_wp2_with fail
      go_roundw
      case rel => exact ⟨k + 1, by omega, by go_num, exq⟩
      case measure => simp [intOf]; omega
    · have hnl : ¬ k < xs.length := by omega
      go_wp2_with fail
      go_ret
      exact ⟨rfl, exq⟩

set_option maxHeartbeats 2000000 in
theorem r01_Same_any (l : List Kr.Stretch) (v1 v2 : Value) (w : World) (h1 : IsRow (fun s : Kr.Stretch => [.int .i64 s.id, .int .i64 s.long.lo, .int .i64 s.long.hi, .int .i64 s.fall.lo, .int .i64 s.fall.hi, .int .i64 s.radius.lo, .int .i64 s.radius.hi, .int .u8 s.side, .int .i64 s.wall]) 9 w v1 l) (h2 : IsRow (fun s : Kr.Stretch => [.int .i64 s.id, .int .i64 s.long.lo, .int .i64 s.long.hi, .int .i64 s.fall.lo, .int .i64 s.fall.hi, .int .i64 s.radius.lo, .int .i64 s.radius.hi, .int .u8 s.side, .int .i64 s.wall]) 9 w v2 l) :
    Calls Tryz.prog 53 #[.agg #[v1], .agg #[v2]] w fun e w' => e = .returned (.bool true) ∧ w.Exts w' := by
  obtain ⟨p1, b1, o1, cap1, rfl, hm, hp1, hc1⟩ := h1.ex
  obtain ⟨p2, b2, o2, cap2, rfl, hm2, hp2, hc2⟩ := h2.ex
  have HC1 := Lib.hid hc1
  clear hc1
  have HC2 := Lib.hid hc2
  clear hc2
  have HP1 := Lib.hid hp1
  clear hp1
  have HP2 := Lib.hid hp2
  clear hp2
  clear h1 h2
  go_enter Tryz.func53, Tryz.ntmps53
  go_wp2_with fail
  go_loopw [5] (fun i wr => ∃ k : Nat, k ≤ l.length ∧ i = .int .i64 k ∧ ((w.alloc (.cells #[.slice p1 l.length cap1] 24)).alloc (.cells #[.slice p2 l.length cap2] 24)).Exts wr) (fun i _ => l.length - (intOf i).toNat)
  case atStart => exact ⟨0, Nat.zero_le _, rfl, exq⟩
  case round =>
    obtain ⟨k, hk, rfl, X, rfl⟩ := hrel
    rcases Nat.lt_or_ge k l.length with hlt | hge
    · obtain ⟨rfl, hl1⟩ := HP1.out (by omega)
      obtain ⟨rfl, hl2⟩ := HP2.out (by omega)
      obtain ⟨x, hx⟩ := some_of_lt hlt
      have d1 := HC1.out k x hx
      have d2 := HC2.out k x hx
      have c10 := d1 0 _ rfl
      have c11 := d1 1 _ rfl
      have c12 := d1 2 _ rfl
      have c13 := d1 3 _ rfl
      have c14 := d1 4 _ rfl
      have c15 := d1 5 _ rfl
      have c16 := d1 6 _ rfl
      have c17 := d1 7 _ rfl
      have c18 := d1 8 _ rfl
      have c20 := d2 0 _ rfl
      have c21 := d2 1 _ rfl
      have c22 := d2 2 _ rfl
      have c23 := d2 3 _ rfl
      have c24 := d2 4 _ rfl
      have c25 := d2 5 _ rfl
      have c26 := d2 6 _ rfl
      have c27 := d2 7 _ rfl
      have c28 := d2 8 _ rfl
      simp only [Nat.add_zero] at c10 c11 c12 c13 c14 c15 c16 c17 c18 c20 c21 c22 c23 c24 c25 c26 c27 c28
      clear hx d1 d2
      go_wp2_with fail
      refine wp_region_ext (by kernel_rfl) (by kernel_rfl) ?_
      repeat (go_big_quiet_step (fail))
      refine wpQuiet_nil ?_
      rintro _ ⟨X, rfl⟩
      go_wp2_with fail
      go_roundw
      case rel => exact ⟨k + 1, by omega, by go_num, exq⟩
      case measure => simp [intOf]; omega
    · have hnl : ¬ k < l.length := by omega
      go_wp2_with fail
      go_ret
      exact ⟨rfl, exq⟩

set_option maxRecDepth 4000 in
set_option maxHeartbeats 4000000 in
theorem r02_Same_any (c : Kr.Cover) (v u : CoverV) (w : World) (h1 : CoverAt w c v) (h2 : CoverAt w c u) :
    Calls Tryz.prog 18 #[.agg #[v.t, v.b, v.h, .int .i64 c.wear.lo, .int .i64 c.wear.hi, .int .i64 c.layer.lo, .int .i64 c.layer.hi, .int .i64 c.rate, .int .i64 c.limit, .int .i64 c.base], .agg #[u.t, u.b, u.h, .int .i64 c.wear.lo, .int .i64 c.wear.hi, .int .i64 c.layer.lo, .int .i64 c.layer.hi, .int .i64 c.rate, .int .i64 c.limit, .int .i64 c.base]] w fun e w' => e = .returned (.bool true) ∧ w.Exts w' := by
  have ht := fun (W : World) (hE : w.Exts W) => r01_Same_any c.track v.t u.t W (h1.tr.mono hE) (h2.tr.mono hE)
  obtain ⟨vt, vb, vh⟩ := v
  obtain ⟨ut, ub, uh⟩ := u
  obtain ⟨q1, t1, e1⟩ := h1.tr.len
  obtain ⟨q2, t2, e2⟩ := h2.tr.len
  obtain ⟨p1, b1, o1, cap1, e3, hm, hp1, hc1⟩ := h1.bd.ex
  obtain ⟨p2, b2, o2, cap2, e4, hm2, hp2, hc2⟩ := h2.bd.ex
  obtain ⟨p3, b3, o3, cap3, e5, hm3, hp3, hc3⟩ := h1.hr.ex
  obtain ⟨p4, b4, o4, cap4, e6, hm4, hp4, hc4⟩ := h2.hr.ex
  dsimp only at e1 e2 e3 e4 e5 e6 ht
  subst e1 e2 e3 e4 e5 e6
  have HT := Lib.hid ht
  clear ht
  have HC1 := Lib.hid hc1
  clear hc1
  have HC2 := Lib.hid hc2
  clear hc2
  have HP1 := Lib.hid hp1
  clear hp1
  have HP2 := Lib.hid hp2
  clear hp2
  have HC3 := Lib.hid hc3
  clear hc3
  have HC4 := Lib.hid hc4
  clear hc4
  have HP3 := Lib.hid hp3
  clear hp3
  have HP4 := Lib.hid hp4
  clear hp4
  clear h1 h2
  go_enter Tryz.func18, Tryz.ntmps18
  go_wp2_with (go_at_call 53; refine (HT.out _ exq).mono ?_; rintro e w' ⟨rfl, X1, rfl⟩)
  go_loopw [5] (fun i wr => ∃ k : Nat, k ≤ c.beds.length ∧ i = .int .i64 k ∧ (World.ext _ X1).Exts wr) (fun i _ => c.beds.length - (intOf i).toNat)
  case atStart => exact ⟨0, Nat.zero_le _, rfl, exq⟩
  case round =>
    obtain ⟨k, hk, rfl, X, rfl⟩ := hrel
    rcases Nat.lt_or_ge k c.beds.length with hlt | hge
    · obtain ⟨rfl, hl1⟩ := HP1.out (by omega)
      obtain ⟨rfl, hl2⟩ := HP2.out (by omega)
      obtain ⟨x, hx⟩ := some_of_lt hlt
      have d1 := HC1.out k x hx
      have d2 := HC2.out k x hx
      have c10 := d1 0 _ rfl
      have c11 := d1 1 _ rfl
      have c12 := d1 2 _ rfl
      have c20 := d2 0 _ rfl
      have c21 := d2 1 _ rfl
      have c22 := d2 2 _ rfl
      simp only [Nat.add_zero] at c10 c11 c12 c20 c21 c22
      clear hx d1 d2
      go_wp2_with fail
      refine wp_region_ext (by kernel_rfl) (by kernel_rfl) ?_
      repeat (go_big_quiet_step (fail))
      refine wpQuiet_nil ?_
      rintro _ ⟨X, rfl⟩
      go_wp2_with fail
      go_roundw
      case rel => exact ⟨k + 1, by omega, by go_num, exq⟩
      case measure => simp [intOf]; omega
    · have hnl : ¬ k < c.beds.length := by omega
      go_wp2_with fail
      go_loopw [6] (fun i wr => ∃ k : Nat, k ≤ c.hours.length ∧ i = .int .i64 k ∧ (World.ext _ X).Exts wr) (fun i _ => c.hours.length - (intOf i).toNat)
      case atStart => exact ⟨0, Nat.zero_le _, rfl, exq⟩
      case round =>
        clear hk hge hnl
        obtain ⟨k, hk, rfl, X2, rfl⟩ := hrel
        rcases Nat.lt_or_ge k c.hours.length with hlt | hge
        · obtain ⟨rfl, hl1⟩ := HP3.out (by omega)
          obtain ⟨rfl, hl2⟩ := HP4.out (by omega)
          obtain ⟨x, hx⟩ := some_of_lt hlt
          have d1 := HC3.out k x hx
          have d2 := HC4.out k x hx
          have c10 := d1 0 _ rfl
          have c11 := d1 1 _ rfl
          have c12 := d1 2 _ rfl
          have c13 := d1 3 _ rfl
          have c14 := d1 4 _ rfl
          have c20 := d2 0 _ rfl
          have c21 := d2 1 _ rfl
          have c22 := d2 2 _ rfl
          have c23 := d2 3 _ rfl
          have c24 := d2 4 _ rfl
          simp only [Nat.add_zero] at c10 c11 c12 c13 c14 c20 c21 c22 c23 c24
          clear hx d1 d2
          go_wp2_with fail
          refine wp_region_ext (by kernel_rfl) (by kernel_rfl) ?_
          repeat (go_big_quiet_step (fail))
          refine wpQuiet_nil ?_
          rintro _ ⟨X, rfl⟩
          go_wp2_with fail
          go_roundw
          case rel => exact ⟨k + 1, by omega, by go_num, exq⟩
          case measure => simp [intOf]; omega
        · have hnl : ¬ k < c.hours.length := by omega
          go_wp2_with fail
          go_ret
          exact ⟨rfl, exq⟩
end Go.Proofs.YtilmniopollbiaaGreatDoor

/-
  Walks of references: whether a cover or a plan is great; rows of rows that a function owns.
-/
namespace Go.Proofs.YtilmniopollbiaaGreatDoor
open Go.RowKit Kr
set_option linter.unusedSimpArgs false
set_option linter.unusedVariables false

def greatC (c : Kr.Cover) (ps : List (List Int × Value)) : Bool := (((decide (20 < (c.track.length : Int)) || decide (20 < (c.beds.length : Int))) || decide (12 < (c.hours.length : Int))) || decide (12 < (ps.length : Int))) || ps.any fun x => decide (20 < (x.1.length : Int))
theorem greatC_false {c : Kr.Cover} {ps : List (List Int × Value)} (h : greatC c ps = false) : c.track.length ≤ 20 ∧ c.beds.length ≤ 20 ∧ c.hours.length ≤ 12 ∧ ps.length ≤ 12 ∧ ∀ x ∈ ps, x.1.length ≤ 20 := by
  unfold greatC at h
  simp only [Bool.or_eq_false_iff, decide_eq_false_iff_not] at h
  obtain ⟨⟨⟨⟨h1, h2⟩, h3⟩, h4⟩, h5⟩ := h
  refine ⟨by omega, by omega, by omega, by omega, fun x hx => ?_⟩
  have h6 := List.any_eq_false.1 h5 x hx
  simp at h6
  omega

set_option maxHeartbeats 2000000 in
theorem r02_Great_any (c : Kr.Cover) (v : CoverV) (ps : List (List Int × Value)) (pv : Value) (w : World) (h : CoverAt w c v) (hp : ListsAt w pv ps) :
    Calls Tryz.prog 7 #[.agg #[v.t, v.b, v.h, .int .i64 c.wear.lo, .int .i64 c.wear.hi, .int .i64 c.layer.lo, .int .i64 c.layer.hi, .int .i64 c.rate, .int .i64 c.limit, .int .i64 c.base], pv] w fun e w' => e = .returned (.bool (greatC c ps)) ∧ w.Exts w' := by
  have ht := fun (W : World) (hE : w.Exts W) => r01_Great_any c.track v.t W (h.tr.mono hE)
  obtain ⟨qp, pb, po, cp, rfl, hpm, hpq, hpc⟩ := hp.row.ex
  have hpmem := hp.mem
  obtain ⟨vt, vb, vh⟩ := v
  obtain ⟨qt, ct, hqt⟩ := h.tr.len
  obtain ⟨qb, cb, hqb⟩ := h.bd.len
  obtain ⟨qh, ch, hqh⟩ := h.hr.len
  dsimp only at hqt hqb hqh
  subst hqt hqb hqh
  clear h hp
  dsimp only at ht
  obtain ⟨b1, e1⟩ : ∃ z, decide (20 < (c.track.length : Int)) = z := ⟨_, rfl⟩
  obtain ⟨b2, e2⟩ : ∃ z, decide (20 < (c.beds.length : Int)) = z := ⟨_, rfl⟩
  obtain ⟨b3, e3⟩ : ∃ z, decide (12 < (c.hours.length : Int)) = z := ⟨_, rfl⟩
  obtain ⟨b4, e4⟩ : ∃ z, decide (12 < (ps.length : Int)) = z := ⟨_, rfl⟩
  have hf : greatC c ps = ((((b1 || b2) || b3) || b4) || ps.any fun x => decide (20 < (x.1.length : Int))) := by unfold greatC; rw [e1, e2, e3, e4]
  rw [e1] at ht
  have f2 : decide (20 < c.beds.length) = b2 := by rw [← e2, decide_eq_decide]; omega
  have f3 : decide (12 < c.hours.length) = b3 := by rw [← e3, decide_eq_decide]; omega
  have f4 : decide (12 < ps.length) = b4 := by rw [← e4, decide_eq_decide]; omega
  clear e1
  have HT := Lib.hid ht
  clear ht
  have HF := Lib.hid hf
  clear hf
  have HPQ := Lib.hid hpq
  clear hpq
  have HPC := Lib.hid hpc
  clear hpc
  have HPM := Lib.hid hpmem
  clear hpmem
  cases b1
  case true =>
    go_enter Tryz.func7, Tryz.ntmps7
    go_wp2_with (go_at_call 40; refine (HT.out _ exq).mono ?_; rintro e w' ⟨rfl, X1, rfl⟩)
    go_ret
    exact ⟨by rw [HF.out]; simp, exq⟩
  cases b2
  case true =>
    go_enter Tryz.func7, Tryz.ntmps7
    go_wp2_with (go_at_call 40; refine (HT.out _ exq).mono ?_; rintro e w' ⟨rfl, X1, rfl⟩)
    go_ret
    exact ⟨by rw [HF.out]; simp, exq⟩
  cases b3
  case true =>
    go_enter Tryz.func7, Tryz.ntmps7
    go_wp2_with (go_at_call 40; refine (HT.out _ exq).mono ?_; rintro e w' ⟨rfl, X1, rfl⟩)
    go_ret
    exact ⟨by rw [HF.out]; simp, exq⟩
  cases b4
  case true =>
    go_enter Tryz.func7, Tryz.ntmps7
    go_wp2_with (go_at_call 40; refine (HT.out _ exq).mono ?_; rintro e w' ⟨rfl, X1, rfl⟩)
    go_ret
    exact ⟨by rw [HF.out]; simp, exq⟩
  go_enter Tryz.func7, Tryz.ntmps7
  go_wp2_with (go_at_call 40; refine (HT.out _ exq).mono ?_; rintro e w' ⟨rfl, X1, rfl⟩)
  clear e2 e3 e4 f2 f3 f4
  go_loopw [5] (fun i wr => ∃ k : Nat, k ≤ ps.length ∧ i = .int .i64 k ∧ Hid (∀ j y, j < k → ps[j]? = some y → (!decide (20 < (y.1.length : Int))) = true) ∧ (World.ext _ X1).Exts wr) (fun i _ => ps.length - (intOf i).toNat)
  case atStart => exact ⟨0, Nat.zero_le _, rfl, Lib.hid (fun j y hj => by omega), exq⟩
  case round =>
    obtain ⟨k, hk, rfl, HA, hE⟩ := hrel
    obtain ⟨X2, rfl⟩ := hE
    rcases Nat.lt_or_ge k ps.length with hlt | hge
    · obtain ⟨rfl, hlay⟩ := HPQ.out (by omega)
      obtain ⟨⟨l, lv⟩, hx⟩ := some_of_lt hlt
      have p0 := HPC.out k _ hx 0 _ rfl
      simp only [Nat.mul_one, Nat.add_zero] at p0
      have hrow := HPM.out _ (List.mem_of_getElem? hx)
      dsimp only at hrow
      obtain ⟨ql, lc, rfl⟩ := hrow.len
      have w1 : (k : Int) < (ps.length : Int) := by omega
      clear hrow
      rcases Int.lt_or_le 20 (l.length : Int) with hl | hl
      · have hbad : (ps.any fun x => decide (20 < (x.1.length : Int))) = true := List.any_eq_true.2 ⟨_, List.mem_of_getElem? hx, by simpa using hl⟩
        have hd : decide (20 < l.length) = true := decide_eq_true (by omega)
        have HBAD := Lib.hid hbad
        clear hbad
        clear hx
        go_wp2_with fail
        go_ret
        exact ⟨by rw [HF.out, HBAD.out]; simp, exq⟩
      · have hd : decide (20 < l.length) = false := decide_eq_false (by omega)
        have hnl : ¬ 20 < l.length := by omega
        have hgood := all_at (f := fun y : List Int × Value => !decide (20 < (y.1.length : Int))) hx HA.out (by simpa using hl)
        have HGOOD := Lib.hid hgood
        clear hgood
        clear hx
        go_wp2_with fail
        go_roundw
        case rel => exact ⟨k + 1, by omega, by go_num, HGOOD, exq⟩
        case measure => simp [intOf]; omega
    · have hall := all_end (f := fun y : List Int × Value => !decide (20 < (y.1.length : Int))) hge HA.out
      have hany : (ps.any fun x => decide (20 < (x.1.length : Int))) = false := by
        rw [List.any_eq_false]
        intro x hx
        have h1 := List.all_eq_true.1 hall x hx
        simpa using h1
      have hnl : ¬ k < ps.length := by omega
      have HANY := Lib.hid hany
      clear hany
      clear HA hall
      go_wp2_with fail
      go_ret
      exact ⟨by rw [HF.out, HANY.out]; rfl, exq⟩

theorem row_set {α : Type} {enc : α → List Value} {k : Nat} {W : World} {v : Value} {xs : List α} (h : IsRow enc k W v xs) {a : Addr} (hne : ∀ b, v.ownBlock = some b → b ≠ a.block) (u : Value) : IsRow enc k (W.setCell a u) v xs := by
  obtain ⟨p, b, o, cap, rfl, hm, hp, hc⟩ := h.ex
  refine ⟨p, b, o, cap, rfl, hm, fun h0 => ⟨(hp h0).1, ⟨by simpa using (hp h0).2.lt⟩⟩, fun i x hx j w hw => ?_⟩
  have h0 : 0 < xs.length := by have := (List.getElem?_eq_some_iff.1 hx).1; omega
  obtain ⟨rfl, hl⟩ := hp h0
  have h1 := hc i x hx j w hw
  rw [World.cell?_setCell_other W _ _ u (fun e => hne b rfl (by rw [e]))]
  exact h1
/-- Rows of numbers that lie in a slice that a function owns. -/
structure OwnLists (w : World) (base : Nat) (v : Value) (ps : List (List Int × Value)) : Prop where
  own : w.ownsRow base 36 1 v ps.length (ps.flatMap fun x => [x.2])
  base_le : base ≤ w.heap.size
  mem : ∀ x ∈ ps, IsRow (fun x : Int => [.int .i64 x]) 1 w x.2 x.1 ∧ ∀ b, x.2.ownBlock = some b → base ≤ b ∧ b < w.heap.size ∧ v.ownBlock ≠ some b
theorem OwnLists.exts {w w' : World} {base : Nat} {v : Value} {ps : List (List Int × Value)} (h : OwnLists w base v ps) (hE : w.Exts w') : OwnLists w' base v ps :=
  ⟨ownsRow_exts h.own hE, Nat.le_trans h.base_le hE.size, fun x hx => ⟨(h.mem x hx).1.mono hE, fun b hb => ⟨((h.mem x hx).2 b hb).1, Nat.lt_of_lt_of_le ((h.mem x hx).2 b hb).2.1 hE.size, ((h.mem x hx).2 b hb).2.2⟩⟩⟩
theorem OwnLists.lists {w : World} {base : Nat} {v : Value} {ps : List (List Int × Value)} (h : OwnLists w base v ps) : ListsAt w v ps := ⟨IsRow.of_owns h.own (fun _ _ => rfl), fun x hx => (h.mem x hx).1⟩
theorem OwnLists.add {w w' : World} {base : Nat} {v v' vp : Value} {ps : List (List Int × Value)} {l : List Int} (h : OwnLists w base v ps) (hown : w'.ownsRow base 36 1 v' (ps.length + 1) ((ps.flatMap fun x => [x.2]) ++ [vp])) (ha : AppendedW w w' v v' base)
    (hr : IsRow (fun x : Int => [.int .i64 x]) 1 w vp l) (hb : ∀ b, vp.ownBlock = some b → base ≤ b ∧ b < w.heap.size ∧ v.ownBlock ≠ some b) (hsz : w.heap.size ≤ w'.heap.size) : OwnLists w' base v' (ps ++ [(l, vp)]) := by
  refine ⟨by simpa using hown, Nat.le_trans h.base_le hsz, fun x hx => ?_⟩
  have hx' : IsRow (fun x : Int => [.int .i64 x]) 1 w x.2 x.1 ∧ ∀ b, x.2.ownBlock = some b → base ≤ b ∧ b < w.heap.size ∧ v.ownBlock ≠ some b := by
    rcases List.mem_append.1 hx with hx | hx
    · exact h.mem x hx
    · rw [List.mem_singleton.1 hx]; exact ⟨hr, hb⟩
  obtain ⟨a1, a2⟩ := hx'
  exact ⟨row_appended a1 ha fun b e => (a2 b e).2.2, fun b e => ⟨(a2 b e).1, Nat.lt_of_lt_of_le (a2 b e).2.1 hsz, ha.beside b (a2 b e).2.1 (a2 b e).2.2⟩⟩
theorem OwnLists.put {w : World} {base : Nat} {v : Value} {ps : List (List Int × Value)} (h : OwnLists w base v ps) {a : Addr} (ha : a.block < base) (u : Value) : OwnLists (w.setCell a u) base v ps :=
  ⟨World.ownsRow.set h.own (by omega) u, by simpa using h.base_le, fun x hx => ⟨row_set (h.mem x hx).1 (fun b hb => by have := ((h.mem x hx).2 b hb).1; omega) u, fun b hb => by have h1 := (h.mem x hx).2 b hb; exact ⟨h1.1, by simpa using h1.2.1, h1.2.2⟩⟩⟩
theorem OwnLists.none (w : World) (base : Nat) (h : base ≤ w.heap.size) : OwnLists w base (.slice none 0 0) [] := ⟨World.ownsRow_nil _ _ _ _, h, fun x hx => by cases hx⟩
theorem elem_Slint : ElemOf Tryz.prog 31 36 (.slice none 0 0) 1 24 := ⟨Tryz.underlying31, by kernel_rfl, rfl, by decide, by decide⟩
/-- A row of five numbers, and of two, written out. -/
theorem row_fiveL (w : World) (a b c d e : Int) (n : Nat) (hn : n = w.heap.size) : IsRow (fun x : Int => [.int .i64 x]) 1 (w.alloc (.cells #[.int .i64 a, .int .i64 b, .int .i64 c, .int .i64 d, .int .i64 e] 3)) (.slice (some ⟨n, 0, none⟩) 5 5) [a, b, c, d, e] := by
  subst hn
  refine ⟨some ⟨w.heap.size, 0, none⟩, w.heap.size, 0, 5, rfl, by simp, fun _ => ⟨rfl, lays_new _ _⟩, fun i x h j u hj => ?_⟩
  rcases j with _ | j <;> simp at hj
  subst hj
  rcases i with _ | _ | _ | _ | _ | i <;> simp at h
  all_goals
    subst h
    rw [World.cell?_alloc_new]
    rfl
end Go.Proofs.YtilmniopollbiaaGreatDoor

/-
  Walks of the reference of sheets: the ice book.
-/
namespace Go.Proofs.YtilmniopollbiaaGreatDoor
open Go.RowKit Kr
set_option linter.unusedSimpArgs false
set_option linter.unusedVariables false

theorem rowsPart_len (c : Kr.Cover) (plan : List (List Int)) : ∀ (h i : Nat), (rowsPart c plan h i).length = h * c.beds.length + i
  | 0, 0 => by simp [rowsPart, rowsTo]
  | h + 1, 0 => by rw [rowsPart_zero, rowsTo_succ, rowsPart_len c plan h c.beds.length, Nat.succ_mul]; omega
  | h, i + 1 => by rw [rowsPart_succ, List.length_append, rowsPart_len c plan h i, List.length_singleton]; omega
/-- What a function that makes a sheet gives. -/
def SheetIs (w : World) (kd : Int) (rows : List (List Int)) (err : Int) (e : Ending) (w' : World) : Prop :=
  ∃ v ps, e = .returned (.tuple #[.agg #[.int .u8 kd, v], .int .i64 err]) ∧ ListsAt w' v ps ∧ ps.map Prod.fst = rows ∧ w.Exts w'
theorem lists_none (w : World) : ListsAt w (.slice none 0 0) [] := ⟨IsRow.nil w, fun x hx => by cases hx⟩

set_option maxRecDepth 4000 in
set_option maxHeartbeats 8000000 in
theorem r11_OfIce_any (c : Kr.Cover) (v : CoverV) (ps : List (List Int × Value)) (pv : Value) (w : World) (h : CoverAt w c v) (hp : ListsAt w pv ps) (hpf : ∀ x ∈ ps, x.1.length ≤ 1000) :
    Calls Tryz.prog 14 #[.agg #[v.t, v.b, v.h, .int .i64 c.wear.lo, .int .i64 c.wear.hi, .int .i64 c.layer.lo, .int .i64 c.layer.hi, .int .i64 c.rate, .int .i64 c.limit, .int .i64 c.base], pv] w (SheetIs w (if planErr c (ps.map Prod.fst) = 0 then 3 else 0) (if planErr c (ps.map Prod.fst) = 0 then rowsTo c (ps.map Prod.fst) c.hours.length else []) (planErr c (ps.map Prod.fst))) := by
  have hc := fun (W : World) (hE : w.Exts W) => r02_Check_any c v W (h.mono hE)
  have hv := fun (W : World) (hE : w.Exts W) => r02_Valid_any c v ps pv W (h.mono hE) (hp.mono hE)
  obtain ⟨err, he⟩ : ∃ z, planErr c (ps.map Prod.fst) = z := ⟨_, rfl⟩
  rw [he]
  by_cases h0 : err = 0
  · subst h0
    obtain ⟨hce, hva⟩ := planErr_zero he
    have hf := cover_facts hce
    have hpl : ps.length = c.hours.length := by
      unfold validP at hva
      simp at hva
      exact hva.1
    have ht := fun (i m : Nat) (hi : i < c.beds.length) (hm : m ≤ c.hours.length) (W : World) (hE : w.Exts W) => r02_Thick_any c v ps pv i m W (h.mono hE) (hp.mono hE) he hi hm hpf
    rw [hce] at hc
    rw [hva] at hv
    rw [if_pos rfl, if_pos rfl]
    obtain ⟨qp, pb, po, cp, rfl, hpm, hpq, hpc⟩ := hp.row.ex
    have hpmem := hp.mem
    have hb8 := hf.hours.2
    have hb12 := hf.t1.2
    have hbb := hf.beds
    obtain ⟨vt, vb, vh⟩ := v
    obtain ⟨qt, ct, hqt⟩ := h.tr.len
    obtain ⟨qb, cb, hqb⟩ := h.bd.len
    obtain ⟨qh, ch, hqh⟩ := h.hr.len
    dsimp only at hqt hqb hqh
    subst hqt hqb hqh
    clear h hp he hce hva hf
    dsimp only at hc hv ht
    have hc12 : c.beds.length ≤ 12 := by omega
    clear hb12 hbb
    have HC := Lib.hid hc
    clear hc
    have HV := Lib.hid hv
    clear hv
    have HT := Lib.hid ht
    clear ht
    have HPQ := Lib.hid hpq
    clear hpq
    have HPC := Lib.hid hpc
    clear hpc
    have HPM := Lib.hid hpmem
    clear hpmem
    have HPF := Lib.hid hpf
    clear hpf
    have HPL := Lib.hid hpl
    clear hpl
    go_enter Tryz.func14, Tryz.ntmps14
    go_wp2_with (first
      | (go_at_call 46; refine (HC.out _ exq).mono ?_; rintro e w' ⟨rfl, X1, rfl⟩)
      | (go_at_call 47; refine (HV.out _ exq).mono ?_; rintro e w' ⟨rfl, X2, rfl⟩))
    have z1 := World.size_ext_le _ X1
    have z2 := World.size_ext_le _ X2
    simp at z1 z2
    go_loopw [8] (fun t wr => ∃ (hh : Nat) (v : Value) (rs : List (List Int × Value)), hh ≤ c.hours.length ∧ t = .int .i64 hh ∧ Hid (rs.map Prod.fst = rowsTo c (ps.map Prod.fst) hh) ∧ (World.ext _ X2).Exts wr ∧ Hid (LaysAs wr (World.ext _ X2).heap.size (.cells [.int .u8 3, v].toArray 48 (0, 0))) ∧ Hid (OwnLists wr ((World.ext _ X2).heap.size + 1) v rs)) (fun t _ => c.hours.length - (intOf t).toNat)
    case atStart => exact ⟨0, .slice none 0 0, [], Nat.zero_le _, rfl, rfl, exq, Lib.hid (laysAs_size _ _ rfl), Lib.hid (OwnLists.none _ _ (by simp))⟩
    case round =>
      obtain ⟨hh, v, rs, hhk, rfl, HRS, hE, HL, HO⟩ := hrel
      obtain ⟨X3, rfl⟩ := hE
      obtain ⟨qv, cv, hqv⟩ := owns_len HO.out.own
      subst hqv
      have l0 := LaysAs.cell HL.out 0 _ rfl
      have l1 := LaysAs.cell HL.out 1 _ rfl
      have nl := Lays.of_cell l0
      rcases Nat.lt_or_ge hh c.hours.length with hlt | hge
      · have w1 : (hh : Int) < (c.hours.length : Int) := by omega
        go_wp2_with fail
        clear l0 l1 nl
        go_loopw [9] (fun t wr => ∃ (i : Nat) (v : Value) (rs : List (List Int × Value)), i ≤ c.beds.length ∧ t = .int .i64 i ∧ Hid (rs.map Prod.fst = rowsPart c (ps.map Prod.fst) hh i) ∧ (World.ext _ X2).Exts wr ∧ Hid (LaysAs wr (World.ext _ X2).heap.size (.cells [.int .u8 3, v].toArray 48 (0, 0))) ∧ Hid (OwnLists wr ((World.ext _ X2).heap.size + 1) v rs)) (fun t _ => c.beds.length - (intOf t).toNat)
        case atStart => exact ⟨0, _, rs, Nat.zero_le _, rfl, Lib.hid (by rw [rowsPart_zero]; exact HRS.out), exq, HL, HO⟩
        case round =>
          clear HRS HL HO
          obtain ⟨i, v, rs, hik, rfl, HRS, hE, HL, HO⟩ := hrel
          obtain ⟨X4, rfl⟩ := hE
          obtain ⟨qv, cv, hqv⟩ := owns_len HO.out.own
          subst hqv
          have l0 := LaysAs.cell HL.out 0 _ rfl
          have l1 := LaysAs.cell HL.out 1 _ rfl
          have nl := Lays.of_cell l0
          have f1 := laysAs_frz (i := 1) HL.out
          rcases Nat.lt_or_ge i c.beds.length with hilt | hige
          · obtain ⟨rfl, hlay⟩ := HPQ.out (by have := HPL.out; omega)
            obtain ⟨⟨l, lv⟩, hx⟩ := some_of_lt (show hh < ps.length by have := HPL.out; omega)
            have p0 := HPC.out hh _ hx 0 _ rfl
            simp only [Nat.mul_one, Nat.add_zero] at p0
            have hrow := HPM.out _ (List.mem_of_getElem? hx)
            have hlf := HPF.out _ (List.mem_of_getElem? hx)
            dsimp only at hrow hlf
            obtain ⟨ql, lc, rfl⟩ := hrow.len
            obtain ⟨sp, hsp⟩ : ∃ z, (l.any fun y => y == (i : Int)) = z := ⟨_, rfl⟩
            have hspr : sprayed (ps.map Prod.fst) hh i = sp := by
              unfold sprayed
              rw [getD_of (show (ps.map Prod.fst)[hh]? = some l by rw [List.getElem?_map, hx]; rfl), hsp]
            have hnext := rowsPart_succ c (ps.map Prod.fst) hh i
            unfold Kr.rowAt at hnext
            rw [hspr] at hnext
            have hTi := HT.out i hh hilt (by omega)
            obtain ⟨⟨tlo, thi⟩, hT⟩ : ∃ z, thickAt c (ps.map Prod.fst) i hh = z := ⟨_, rfl⟩
            rw [hT] at hnext hTi
            dsimp only at hnext hTi
            have hrl : rs.length = hh * c.beds.length + i := by
              have h1 := congrArg List.length HRS.out
              rwa [List.length_map, rowsPart_len] at h1
            have hrl2 : rs.length ≤ 1000 := by
              have h2 := Nat.mul_le_mul hb8 hc12
              have h3 : hh * c.beds.length ≤ 8 * 12 := Nat.mul_le_mul (by omega) hc12
              omega
            have w2 : (i : Int) < (c.beds.length : Int) := by omega
            have w3 : (hh : Int) < (ps.length : Int) := by have := HPL.out; omega
            have hob : ∀ b, (Value.slice qv rs.length cv).ownBlock = some b → b < (World.ext _ X4).heap.size := fun b e => (HO.out.own.lt b e).2
            have HOB := Lib.hid hob
            clear hob
            have HNEXT := Lib.hid hnext
            clear hnext
            have HTI := Lib.hid hTi
            clear hTi
            have HSP := Lib.hid hsp
            clear hsp
            have HROW := Lib.hid hrow
            clear hrow
            clear hx hspr hT hrl
            cases sp
            · go_wp2_with (first
                | (go_at_call 48; refine (HTI.out _ exq).mono ?_; rintro e w' ⟨rfl, X5, rfl⟩)
                | (go_at_call 49; refine (r02_Has_any l _ (i : Int) _ (HROW.out.mono exq) (by omega)).mono ?_; rintro e w' ⟨rfl, X6, rfl⟩; rw [HSP.out])
                | (at_builtin; refine wpList_append1W (.tmp 54) (.tmp 63) elem_Slint rfl rfl rfl (ownsRow_exts HO.out.own exq) [.slice (some ⟨_, 0, none⟩) 5 5] _ (by simp) rfl rfl ?h1 ?h2 ?h4 ?h3 ?_))
              case h1 => intro u hu; simp at hu; subst hu; rfl
              case h2 => omega
              try (case h4 => decide)
              case h3 => exact Nat.le_trans HO.out.base_le (World.Exts.size exq)
              intro v' w' hown' happ
              have hE8 := happ.exts (World.ext _ X2) exq (by omega)
              have hrow5 := row_fiveL (World.ext _ X6) hh i tlo thi 0 _ rfl
              have hOL := OwnLists.add (HO.out.exts exq) hown' happ hrow5 (fun b e => by
                have hb : (World.ext _ X6).heap.size = b := by simpa [Value.ownBlock] using e
                subst hb
                have hs4 : (World.ext _ X4).heap.size ≤ (World.ext _ X6).heap.size := World.Exts.size exq
                refine ⟨Nat.le_trans HO.out.base_le hs4, by simp, fun e2 => ?_⟩
                have := HOB.out _ e2
                omega) happ.size
              have hLS := LaysAs.appended (HL.out.exts exq) happ (fun e => by have := (HO.out.own.lt _ e).1; omega)
              obtain ⟨q', c', hv'⟩ := owns_len hown'
              subst hv'
              clear l0 l1 nl f1
              obtain ⟨X7, rfl⟩ := hE8
              have l1 := LaysAs.cell hLS.1 1 _ rfl
              have nl := Lays.of_cell l1
              have f1 := laysAs_frz (i := 1) hLS.1
              have HOL := Lib.hid hOL
              clear hOL
              have HLS := Lib.hid hLS
              clear hLS
              clear happ hown' hrow5
              go_wp2_with fail
              go_roundw
              case rel => exact ⟨i + 1, _, _, by omega, by go_num, Lib.hid (by rw [List.map_append, HRS.out, HNEXT.out]; rfl), exq, Lib.hid (LaysAs.set (cs := [.int .u8 3, _]) HLS.out.1 (i := 1) _), Lib.hid (HOL.out.put (by dsimp only; omega) _)⟩
              case measure => simp [intOf]; omega
            · go_wp2_with (first
                | (go_at_call 48; refine (HTI.out _ exq).mono ?_; rintro e w' ⟨rfl, X5, rfl⟩)
                | (go_at_call 49; refine (r02_Has_any l _ (i : Int) _ (HROW.out.mono exq) (by omega)).mono ?_; rintro e w' ⟨rfl, X6, rfl⟩; rw [HSP.out])
                | (at_builtin; refine wpList_append1W (.tmp 54) (.tmp 63) elem_Slint rfl rfl rfl (ownsRow_exts HO.out.own exq) [.slice (some ⟨_, 0, none⟩) 5 5] _ (by simp) rfl rfl ?i1 ?i2 ?i4 ?i3 ?_))
              case i1 => intro u hu; simp at hu; subst hu; rfl
              case i2 => omega
              try (case i4 => decide)
              case i3 => exact Nat.le_trans HO.out.base_le (World.Exts.size exq)
              intro v' w' hown' happ
              have hE8 := happ.exts (World.ext _ X2) exq (by omega)
              have hrow5 := row_fiveL (World.ext _ X6) hh i tlo thi 1 _ rfl
              have hOL := OwnLists.add (HO.out.exts exq) hown' happ hrow5 (fun b e => by
                have hb : (World.ext _ X6).heap.size = b := by simpa [Value.ownBlock] using e
                subst hb
                have hs4 : (World.ext _ X4).heap.size ≤ (World.ext _ X6).heap.size := World.Exts.size exq
                refine ⟨Nat.le_trans HO.out.base_le hs4, by simp, fun e2 => ?_⟩
                have := HOB.out _ e2
                omega) happ.size
              have hLS := LaysAs.appended (HL.out.exts exq) happ (fun e => by have := (HO.out.own.lt _ e).1; omega)
              obtain ⟨q', c', hv'⟩ := owns_len hown'
              subst hv'
              clear l0 l1 nl f1
              obtain ⟨X7, rfl⟩ := hE8
              have l1 := LaysAs.cell hLS.1 1 _ rfl
              have nl := Lays.of_cell l1
              have f1 := laysAs_frz (i := 1) hLS.1
              have HOL := Lib.hid hOL
              clear hOL
              have HLS := Lib.hid hLS
              clear hLS
              clear happ hown' hrow5
              go_wp2_with fail
              go_roundw
              case rel => exact ⟨i + 1, _, _, by omega, by go_num, Lib.hid (by rw [List.map_append, HRS.out, HNEXT.out]; rfl), exq, Lib.hid (LaysAs.set (cs := [.int .u8 3, _]) HLS.out.1 (i := 1) _), Lib.hid (HOL.out.put (by dsimp only; omega) _)⟩
              case measure => simp [intOf]; omega
          · have hir : i = c.beds.length := by omega
            have hnl : ¬ i < c.beds.length := by omega
            have hnx := HRS.out
            rw [hir, ← rowsTo_succ] at hnx
            have HNX := Lib.hid hnx
            clear hnx
            clear hir HRS
            go_wp2_with fail
            go_roundw
            case rel => exact ⟨hh + 1, _, rs, by omega, by go_num, HNX, exq, HL, HO⟩
            case measure => simp [intOf]; omega
      · have hhr : hh = c.hours.length := by omega
        have hnl : ¬ hh < c.hours.length := by omega
        have hrs := HRS.out
        rw [hhr] at hrs
        have HRS2 := Lib.hid hrs
        clear hrs
        clear hhr HRS hge hhk
        go_wp2_with fail
        refine bodyPost_ret (v := .tuple #[.agg #[.int .u8 3, .slice qv rs.length cv], .int .i64 0]) (by simp [results, Tryz.results14, go_sem]) rfl ?_
        exact ⟨_, rs, rfl, ((HO.out.put (by dsimp only; omega) _).put (by dsimp only; omega) _).lists, HRS2.out, exq⟩
  · rw [if_neg h0, if_neg h0]
    obtain ⟨qp, cp, rfl⟩ := hp.row.len
    unfold planErr at he
    obtain ⟨vt, vb, vh⟩ := v
    obtain ⟨qt, ct, hqt⟩ := h.tr.len
    obtain ⟨qb, cb, hqb⟩ := h.bd.len
    obtain ⟨qh, ch, hqh⟩ := h.hr.len
    dsimp only at hqt hqb hqh
    subst hqt hqb hqh
    clear h hp
    dsimp only at hc hv he
    generalize coverErr c = cv at hc he
    generalize validP c (ps.map Prod.fst) = b at hv he
    have HC := Lib.hid hc
    clear hc
    have HV := Lib.hid hv
    clear hv
    by_cases hcv : cv = 0
    · subst hcv
      rw [if_pos rfl] at he
      cases b
      · simp only [Bool.false_eq_true, if_false] at he
        subst he
        go_enter Tryz.func14, Tryz.ntmps14
        go_wp2_with (first
          | (go_at_call 46; refine (HC.out _ exq).mono ?_; rintro e w' ⟨rfl, X1, rfl⟩)
          | (go_at_call 47; refine (HV.out _ exq).mono ?_; rintro e w' ⟨rfl, X2, rfl⟩))
        refine bodyPost_ret (v := .tuple #[.agg #[.int .u8 0, .slice none 0 0], .int .i64 21]) (by simp [results, Tryz.results14, go_sem]) rfl ?_
        exact ⟨_, [], rfl, lists_none _, rfl, exq⟩
      · rw [if_pos rfl] at he
        exact absurd he.symm h0
    · rw [if_neg hcv] at he
      subst he
      have e1 : (cv != 0) = true := by simpa using hcv
      have e2 : decide (cv = 0) = false := by simpa using hcv
      go_enter Tryz.func14, Tryz.ntmps14
      go_wp2_with (go_at_call 46; refine (HC.out _ exq).mono ?_; rintro e w' ⟨rfl, X1, rfl⟩)
      refine bodyPost_ret (v := .tuple #[.agg #[.int .u8 0, .slice none 0 0], .int .i64 cv]) (by simp [results, Tryz.results14, go_sem]) rfl ?_
      exact ⟨_, [], rfl, lists_none _, rfl, exq⟩
end Go.Proofs.YtilmniopollbiaaGreatDoor

/-
  Walks of package sheet: the ice book.
-/
namespace Go.Proofs.YtilmniopollbiaaGreatDoor
open Go.RowKit Kr
set_option linter.unusedSimpArgs false
set_option linter.unusedVariables false

set_option maxRecDepth 4000 in
set_option maxHeartbeats 8000000 in
theorem sheet_OfIce_of (c : Kr.Cover) (v : CoverV) (ps : List (List Int × Value)) (pv : Value) (w : World) (h : CoverAt w c v) (hp : ListsAt w pv ps) (hpf : ∀ x ∈ ps, x.1.length ≤ 1000) (hsd : ∀ s ∈ c.track, 0 ≤ s.side ∧ s.side ≤ 255)
    (hthin : ∀ W : World, w.Exts W → Calls Tryz.prog 43 #[.agg #[v.t, v.b, v.h, .int .i64 c.wear.lo, .int .i64 c.wear.hi, .int .i64 c.layer.lo, .int .i64 c.layer.hi, .int .i64 c.rate, .int .i64 c.limit, .int .i64 c.base], pv] W fun e w' => ∃ q n k, e = .returned (.tuple #[.slice q n k, .int .i64 (planErr c (ps.map Prod.fst))]) ∧ W.Exts w') :
    Calls Tryz.prog 13 #[.agg #[v.t, v.b, v.h, .int .i64 c.wear.lo, .int .i64 c.wear.hi, .int .i64 c.layer.lo, .int .i64 c.layer.hi, .int .i64 c.rate, .int .i64 c.limit, .int .i64 c.base], pv] w (SheetIs w (if planErr c (ps.map Prod.fst) = 0 then 3 else 0) (if planErr c (ps.map Prod.fst) = 0 then rowsTo c (ps.map Prod.fst) c.hours.length else []) (planErr c (ps.map Prod.fst))) := by
  obtain ⟨err, he⟩ : ∃ z, planErr c (ps.map Prod.fst) = z := ⟨_, rfl⟩
  rw [he] at hthin ⊢
  by_cases h0 : err = 0
  · subst h0
    obtain ⟨hce, hva⟩ := planErr_zero he
    have hf := cover_facts hce
    have hpl : ps.length = c.hours.length := by
      unfold validP at hva
      simp at hva
      exact hva.1
    have ht := fun (i m : Nat) (hi : i < c.beds.length) (hm : m ≤ c.hours.length) (W : World) (hE : w.Exts W) => ice_Thick_any c v ps pv i m W (h.mono hE) (hp.mono hE) hsd he hi hm hpf
    rw [if_pos rfl, if_pos rfl]
    obtain ⟨qp, pb, po, cp, rfl, hpm, hpq, hpc⟩ := hp.row.ex
    have hpmem := hp.mem
    have hb8 := hf.hours.2
    have hb12 := hf.t1.2
    have hbb := hf.beds
    obtain ⟨vt, vb, vh⟩ := v
    obtain ⟨qt, ct, hqt⟩ := h.tr.len
    obtain ⟨qb, cb, hqb⟩ := h.bd.len
    obtain ⟨qh, ch, hqh⟩ := h.hr.len
    dsimp only at hqt hqb hqh
    subst hqt hqb hqh
    clear h hp he hce hva hf hsd
    dsimp only at hthin ht
    have hc12 : c.beds.length ≤ 12 := by omega
    clear hb12 hbb
    have HTHIN := Lib.hid hthin
    clear hthin
    have HT := Lib.hid ht
    clear ht
    have HPQ := Lib.hid hpq
    clear hpq
    have HPC := Lib.hid hpc
    clear hpc
    have HPM := Lib.hid hpmem
    clear hpmem
    have HPF := Lib.hid hpf
    clear hpf
    have HPL := Lib.hid hpl
    clear hpl
    go_enter Tryz.func13, Tryz.ntmps13
    go_wp2_with (go_at_call 43; refine (HTHIN.out _ exq).mono ?_; rintro e w' ⟨q0, n0, k0, rfl, X1, rfl⟩)
    have z1 := World.size_ext_le _ X1
    simp at z1
    go_loopw [9, 28] (fun _ t wr => ∃ (hh : Nat) (v : Value) (rs : List (List Int × Value)), hh ≤ c.hours.length ∧ t = .int .i64 hh ∧ Hid (rs.map Prod.fst = rowsTo c (ps.map Prod.fst) hh) ∧ (World.ext _ X1).Exts wr ∧ Hid (LaysAs wr (World.ext _ X1).heap.size (.cells [.int .u8 3, v].toArray 48 (0, 0))) ∧ Hid (OwnLists wr ((World.ext _ X1).heap.size + 1) v rs)) (fun _ t _ => c.hours.length - (intOf t).toNat)
    case atStart => exact ⟨0, .slice none 0 0, [], Nat.zero_le _, rfl, rfl, exq, Lib.hid (laysAs_size _ _ rfl), Lib.hid (OwnLists.none _ _ (by simp))⟩
    case round =>
      obtain ⟨hh, v, rs, hhk, rfl, HRS, hE, HL, HO⟩ := hrel
      obtain ⟨X3, rfl⟩ := hE
      obtain ⟨qv, cv, hqv⟩ := owns_len HO.out.own
      subst hqv
      have l0 := LaysAs.cell HL.out 0 _ rfl
      have l1 := LaysAs.cell HL.out 1 _ rfl
      have nl := Lays.of_cell l0
      rcases Nat.lt_or_ge hh c.hours.length with hlt | hge
      · have w1 : (hh : Int) < (c.hours.length : Int) := by omega
        go_wp2_with fail
        clear l0 l1 nl
        go_loopw [10, 34] (fun _ t wr => ∃ (i : Nat) (v : Value) (rs : List (List Int × Value)), i ≤ c.beds.length ∧ t = .int .i64 i ∧ Hid (rs.map Prod.fst = rowsPart c (ps.map Prod.fst) hh i) ∧ (World.ext _ X1).Exts wr ∧ Hid (LaysAs wr (World.ext _ X1).heap.size (.cells [.int .u8 3, v].toArray 48 (0, 0))) ∧ Hid (OwnLists wr ((World.ext _ X1).heap.size + 1) v rs)) (fun _ t _ => c.beds.length - (intOf t).toNat)
        case atStart => exact ⟨0, _, rs, Nat.zero_le _, rfl, Lib.hid (by rw [rowsPart_zero]; exact HRS.out), exq, HL, HO⟩
        case round =>
          clear HRS HL HO
          obtain ⟨i, v, rs, hik, rfl, HRS, hE, HL, HO⟩ := hrel
          obtain ⟨X4, rfl⟩ := hE
          obtain ⟨qv, cv, hqv⟩ := owns_len HO.out.own
          subst hqv
          have l0 := LaysAs.cell HL.out 0 _ rfl
          have l1 := LaysAs.cell HL.out 1 _ rfl
          have nl := Lays.of_cell l0
          have f1 := laysAs_frz (i := 1) HL.out
          rcases Nat.lt_or_ge i c.beds.length with hilt | hige
          · obtain ⟨rfl, hlay⟩ := HPQ.out (by have := HPL.out; omega)
            obtain ⟨⟨l, lv⟩, hx⟩ := some_of_lt (show hh < ps.length by have := HPL.out; omega)
            have p0 := HPC.out hh _ hx 0 _ rfl
            simp only [Nat.mul_one, Nat.add_zero] at p0
            have hrow := HPM.out _ (List.mem_of_getElem? hx)
            have hlf := HPF.out _ (List.mem_of_getElem? hx)
            dsimp only at hrow hlf
            obtain ⟨ql, lc, rfl⟩ := hrow.len
            obtain ⟨sp, hsp⟩ : ∃ z, (l.any fun y => y == (i : Int)) = z := ⟨_, rfl⟩
            have hspr : sprayed (ps.map Prod.fst) hh i = sp := by
              unfold sprayed
              rw [getD_of (show (ps.map Prod.fst)[hh]? = some l by rw [List.getElem?_map, hx]; rfl), hsp]
            have hnext := rowsPart_succ c (ps.map Prod.fst) hh i
            unfold Kr.rowAt at hnext
            rw [hspr] at hnext
            have hTi := HT.out i hh hilt (by omega)
            obtain ⟨⟨tlo, thi⟩, hT⟩ : ∃ z, thickAt c (ps.map Prod.fst) i hh = z := ⟨_, rfl⟩
            rw [hT] at hnext hTi
            dsimp only at hnext hTi
            have hrl : rs.length = hh * c.beds.length + i := by
              have h1 := congrArg List.length HRS.out
              rwa [List.length_map, rowsPart_len] at h1
            have hrl2 : rs.length ≤ 1000 := by
              have h2 := Nat.mul_le_mul hb8 hc12
              have h3 : hh * c.beds.length ≤ 8 * 12 := Nat.mul_le_mul (by omega) hc12
              omega
            have w2 : (i : Int) < (c.beds.length : Int) := by omega
            have w3 : (hh : Int) < (ps.length : Int) := by have := HPL.out; omega
            have hob : ∀ b, (Value.slice qv rs.length cv).ownBlock = some b → b < (World.ext _ X4).heap.size := fun b e => (HO.out.own.lt b e).2
            have HOB := Lib.hid hob
            clear hob
            have HNEXT := Lib.hid hnext
            clear hnext
            have HTI := Lib.hid hTi
            clear hTi
            have HSP := Lib.hid hsp
            clear hsp
            have HROW := Lib.hid hrow
            clear hrow
            clear hx hspr hT hrl
            cases sp
            · go_wp2_with (first
                | (go_at_call 44; refine (HTI.out _ exq).mono ?_; rintro e w' ⟨rfl, X5, rfl⟩)
                | (go_at_call 45; refine (Contains_int_any l (i : Int) _ _ (HROW.out.mono exq)).mono ?_; rintro e w' ⟨rfl, X6, rfl⟩; rw [HSP.out])
                | (at_builtin; refine wpList_append1W (.tmp 52) (.tmp 61) elem_Slint rfl rfl rfl (ownsRow_exts HO.out.own exq) [.slice (some ⟨_, 0, none⟩) 5 5] _ (by simp) rfl rfl ?h1 ?h2 ?h4 ?h3 ?_))
              case h1 => intro u hu; simp at hu; subst hu; rfl
              case h2 => omega
              try (case h4 => decide)
              case h3 => exact Nat.le_trans HO.out.base_le (World.Exts.size exq)
              intro v' w' hown' happ
              have hE8 := happ.exts (World.ext _ X1) exq (by omega)
              have hrow5 := row_fiveL (World.ext _ X6) hh i tlo thi 0 _ rfl
              have hOL := OwnLists.add (HO.out.exts exq) hown' happ hrow5 (fun b e => by
                have hb : (World.ext _ X6).heap.size = b := by simpa [Value.ownBlock] using e
                subst hb
                have hs4 : (World.ext _ X4).heap.size ≤ (World.ext _ X6).heap.size := World.Exts.size exq
                refine ⟨Nat.le_trans HO.out.base_le hs4, by simp, fun e2 => ?_⟩
                have := HOB.out _ e2
                omega) happ.size
              have hLS := LaysAs.appended (HL.out.exts exq) happ (fun e => by have := (HO.out.own.lt _ e).1; omega)
              obtain ⟨q', c', hv'⟩ := owns_len hown'
              subst hv'
              clear l0 l1 nl f1
              obtain ⟨X7, rfl⟩ := hE8
              have l1 := LaysAs.cell hLS.1 1 _ rfl
              have nl := Lays.of_cell l1
              have f1 := laysAs_frz (i := 1) hLS.1
              have HOL := Lib.hid hOL
              clear hOL
              have HLS := Lib.hid hLS
              clear hLS
              clear happ hown' hrow5
              go_wp2_with fail
              go_roundw
              case rel => exact ⟨i + 1, _, _, by omega, by go_num, Lib.hid (by rw [List.map_append, HRS.out, HNEXT.out]; rfl), exq, Lib.hid (LaysAs.set (cs := [.int .u8 3, _]) HLS.out.1 (i := 1) _), Lib.hid (HOL.out.put (by dsimp only; omega) _)⟩
              case measure => simp [intOf]; omega
            · go_wp2_with (first
                | (go_at_call 44; refine (HTI.out _ exq).mono ?_; rintro e w' ⟨rfl, X5, rfl⟩)
                | (go_at_call 45; refine (Contains_int_any l (i : Int) _ _ (HROW.out.mono exq)).mono ?_; rintro e w' ⟨rfl, X6, rfl⟩; rw [HSP.out])
                | (at_builtin; refine wpList_append1W (.tmp 52) (.tmp 61) elem_Slint rfl rfl rfl (ownsRow_exts HO.out.own exq) [.slice (some ⟨_, 0, none⟩) 5 5] _ (by simp) rfl rfl ?i1 ?i2 ?i4 ?i3 ?_))
              case i1 => intro u hu; simp at hu; subst hu; rfl
              case i2 => omega
              try (case i4 => decide)
              case i3 => exact Nat.le_trans HO.out.base_le (World.Exts.size exq)
              intro v' w' hown' happ
              have hE8 := happ.exts (World.ext _ X1) exq (by omega)
              have hrow5 := row_fiveL (World.ext _ X6) hh i tlo thi 1 _ rfl
              have hOL := OwnLists.add (HO.out.exts exq) hown' happ hrow5 (fun b e => by
                have hb : (World.ext _ X6).heap.size = b := by simpa [Value.ownBlock] using e
                subst hb
                have hs4 : (World.ext _ X4).heap.size ≤ (World.ext _ X6).heap.size := World.Exts.size exq
                refine ⟨Nat.le_trans HO.out.base_le hs4, by simp, fun e2 => ?_⟩
                have := HOB.out _ e2
                omega) happ.size
              have hLS := LaysAs.appended (HL.out.exts exq) happ (fun e => by have := (HO.out.own.lt _ e).1; omega)
              obtain ⟨q', c', hv'⟩ := owns_len hown'
              subst hv'
              clear l0 l1 nl f1
              obtain ⟨X7, rfl⟩ := hE8
              have l1 := LaysAs.cell hLS.1 1 _ rfl
              have nl := Lays.of_cell l1
              have f1 := laysAs_frz (i := 1) hLS.1
              have HOL := Lib.hid hOL
              clear hOL
              have HLS := Lib.hid hLS
              clear hLS
              clear happ hown' hrow5
              go_wp2_with fail
              go_roundw
              case rel => exact ⟨i + 1, _, _, by omega, by go_num, Lib.hid (by rw [List.map_append, HRS.out, HNEXT.out]; rfl), exq, Lib.hid (LaysAs.set (cs := [.int .u8 3, _]) HLS.out.1 (i := 1) _), Lib.hid (HOL.out.put (by dsimp only; omega) _)⟩
              case measure => simp [intOf]; omega
          · have hir : i = c.beds.length := by omega
            have hnl : ¬ i < c.beds.length := by omega
            have hnx := HRS.out
            rw [hir, ← rowsTo_succ] at hnx
            have HNX := Lib.hid hnx
            clear hnx
            clear hir HRS
            go_wp2_with fail
            go_roundw
            case rel => exact ⟨hh + 1, _, rs, by omega, by go_num, HNX, exq, HL, HO⟩
            case measure => simp [intOf]; omega
      · have hhr : hh = c.hours.length := by omega
        have hnl : ¬ hh < c.hours.length := by omega
        have hrs := HRS.out
        rw [hhr] at hrs
        have HRS2 := Lib.hid hrs
        clear hrs
        clear hhr HRS hge hhk
        go_wp2_with fail
        refine bodyPost_ret (v := .tuple #[.agg #[.int .u8 3, .slice qv rs.length cv], .int .i64 0]) (by simp [results, Tryz.results13, go_sem]) rfl ?_
        exact ⟨_, rs, rfl, ((HO.out.put (by dsimp only; omega) _).put (by dsimp only; omega) _).lists, HRS2.out, exq⟩
  · rw [if_neg h0, if_neg h0]
    obtain ⟨qp, cp, rfl⟩ := hp.row.len
    obtain ⟨vt, vb, vh⟩ := v
    obtain ⟨qt, ct, hqt⟩ := h.tr.len
    obtain ⟨qb, cb, hqb⟩ := h.bd.len
    obtain ⟨qh, ch, hqh⟩ := h.hr.len
    dsimp only at hqt hqb hqh
    subst hqt hqb hqh
    clear h hp he
    dsimp only at hthin
    have HTHIN := Lib.hid hthin
    clear hthin
    have e1 : (err != 0) = true := by simpa using h0
    have e2 : decide (err = 0) = false := by simpa using h0
    go_enter Tryz.func13, Tryz.ntmps13
    go_wp2_with (go_at_call 43; refine (HTHIN.out _ exq).mono ?_; rintro e w' ⟨q0, n0, k0, rfl, X1, rfl⟩)
    refine bodyPost_ret (v := .tuple #[.agg #[.int .u8 0, .slice none 0 0], .int .i64 err]) (by simp [results, Tryz.results13, go_sem]) rfl ?_
    exact ⟨_, [], rfl, lists_none _, rfl, exq⟩
end Go.Proofs.YtilmniopollbiaaGreatDoor

/-
  Walks of packages ice and sheet: Thin, and the ice book.
-/
namespace Go.Proofs.YtilmniopollbiaaGreatDoor
open Go.RowKit Kr
set_option linter.unusedSimpArgs false
set_option linter.unusedVariables false

set_option maxRecDepth 4000 in
set_option maxHeartbeats 4000000 in
theorem ice_Thin_any (c : Kr.Cover) (v : CoverV) (ps : List (List Int × Value)) (pv : Value) (w : World) (h : CoverAt w c v) (hp : ListsAt w pv ps) (hl0 : LimsAt w) (hsd : ∀ s ∈ c.track, 0 ≤ s.side ∧ s.side ≤ 255) (hpf : ∀ x ∈ ps, x.1.length ≤ 1000) :
    Calls Tryz.prog 43 #[.agg #[v.t, v.b, v.h, .int .i64 c.wear.lo, .int .i64 c.wear.hi, .int .i64 c.layer.lo, .int .i64 c.layer.hi, .int .i64 c.rate, .int .i64 c.limit, .int .i64 c.base], pv] w fun e w' => ∃ q n k, e = .returned (.tuple #[.slice q n k, .int .i64 (planErr c (ps.map Prod.fst))]) ∧ w.Exts w' := by
  have hask := fun (W : World) (hE : w.Exts W) => ice_asked_any c v ps pv W (h.mono hE) (hp.mono hE) hsd
  have hth := fun (hce : coverErr c = 0) (hpl : ps.length = c.hours.length) (rb : Nat) (W : World) (hE : w.Exts W) (hr : LaysAs W rb (.cells #[v.t, v.b, v.h, .int .i64 c.wear.lo, .int .i64 c.wear.hi, .int .i64 c.layer.lo, .int .i64 c.layer.hi, .int .i64 c.rate, .int .i64 c.limit, .int .i64 c.base] 214)) => rink_thin_any rb c v ps pv W (h.mono hE) (hp.mono hE) hr (hl0.mono hE) (cover_facts hce) hpl hpf
  obtain ⟨err, he⟩ : ∃ z, planErr c (ps.map Prod.fst) = z := ⟨_, rfl⟩
  rw [he] at hask ⊢
  unfold RinkOf at hask
  obtain ⟨qp, cp, rfl⟩ := hp.row.len
  obtain ⟨vt, vb, vh⟩ := v
  obtain ⟨qt, ct, hqt⟩ := h.tr.len
  obtain ⟨qb, cb, hqb⟩ := h.bd.len
  obtain ⟨qh, ch, hqh⟩ := h.hr.len
  dsimp only at hqt hqb hqh
  subst hqt hqb hqh
  dsimp only at hask hth
  clear h hp hl0 hsd hpf
  by_cases h0 : err = 0
  · subst h0
    obtain ⟨hce, hva⟩ := planErr_zero he
    have hpl : ps.length = c.hours.length := by
      unfold validP at hva
      simp at hva
      exact hva.1
    have hth := hth hce hpl
    clear hce hva he
    have HASK := Lib.hid hask
    clear hask
    have HTH := Lib.hid hth
    clear hth
    have HPL := Lib.hid hpl
    clear hpl
    go_enter Tryz.func43, Tryz.ntmps43
    go_wp2_with (first
      | (go_at_call 87; refine (HASK.out _ exq).mono ?_; rintro e w' ⟨p, rfl, hp, X1, rfl⟩; obtain ⟨rb, rfl, hl⟩ := hp rfl; have HL := Lib.hid hl; clear hp hl)
      | (go_at_call 88; refine (HTH.out rb _ exq (HL.out.exts exq)).mono ?_; rintro e w' ⟨q, m, k, rfl, X2, rfl⟩))
    refine bodyPost_ret (v := .tuple #[.slice q m k, .int .i64 0]) (by simp [results, Tryz.results43, go_sem]) rfl ?_
    exact ⟨q, m, k, rfl, exq⟩
  · have e1 : (err != 0) = true := by simpa using h0
    have e2 : decide (err = 0) = false := by simpa using h0
    clear hth he
    have HASK := Lib.hid hask
    clear hask
    go_enter Tryz.func43, Tryz.ntmps43
    go_wp2_with (go_at_call 87; refine (HASK.out _ exq).mono ?_; rintro e w' ⟨p, rfl, -, X1, rfl⟩)
    refine bodyPost_ret (v := .tuple #[.slice none 0 0, .int .i64 err]) (by simp [results, Tryz.results43, go_sem]) rfl ?_
    exact ⟨none, 0, 0, rfl, exq⟩

theorem sheet_OfIce_any (c : Kr.Cover) (v : CoverV) (ps : List (List Int × Value)) (pv : Value) (w : World) (h : CoverAt w c v) (hp : ListsAt w pv ps) (hl0 : LimsAt w) (hpf : ∀ x ∈ ps, x.1.length ≤ 1000) (hsd : ∀ s ∈ c.track, 0 ≤ s.side ∧ s.side ≤ 255) :
    Calls Tryz.prog 13 #[.agg #[v.t, v.b, v.h, .int .i64 c.wear.lo, .int .i64 c.wear.hi, .int .i64 c.layer.lo, .int .i64 c.layer.hi, .int .i64 c.rate, .int .i64 c.limit, .int .i64 c.base], pv] w (SheetIs w (if planErr c (ps.map Prod.fst) = 0 then 3 else 0) (if planErr c (ps.map Prod.fst) = 0 then rowsTo c (ps.map Prod.fst) c.hours.length else []) (planErr c (ps.map Prod.fst))) :=
  sheet_OfIce_of c v ps pv w h hp hpf hsd fun W hE => ice_Thin_any c v ps pv W (h.mono hE) (hp.mono hE) (hl0.mono hE) hsd hpf
end Go.Proofs.YtilmniopollbiaaGreatDoor

/-
  Walks of the references of track and of ice: twins.
-/
namespace Go.Proofs.YtilmniopollbiaaGreatDoor
open Go.RowKit Kr
set_option linter.unusedSimpArgs false
set_option linter.unusedVariables false

theorem elem_Stretch : ElemOf Tryz.prog 22 196 (.agg #[.int .i64 0, .int .i64 0, .int .i64 0, .int .i64 0, .int .i64 0, .int .i64 0, .int .i64 0, .int .u8 0, .int .i64 0]) 9 72 := ⟨Tryz.underlying22, by kernel_rfl, rfl, by decide, by decide⟩
theorem elem_Bed : ElemOf Tryz.prog 25 113 (.agg #[.int .i64 0, .int .i64 0, .int .i64 0]) 3 24 := ⟨Tryz.underlying25, by kernel_rfl, rfl, by decide, by decide⟩
theorem elem_Hour : ElemOf Tryz.prog 26 115 (.agg #[.int .i64 0, .int .i64 0, .int .i64 0, .int .i64 0, .bool false]) 5 40 := ⟨Tryz.underlying26, by kernel_rfl, rfl, by decide, by decide⟩

set_option maxHeartbeats 1000000 in
theorem r01_Twin_own (t : List Kr.Stretch) (v : Value) (w : World) (hrow : IsRow (fun s : Kr.Stretch => [.int .i64 s.id, .int .i64 s.long.lo, .int .i64 s.long.hi, .int .i64 s.fall.lo, .int .i64 s.fall.hi, .int .i64 s.radius.lo, .int .i64 s.radius.hi, .int .u8 s.side, .int .i64 s.wall]) 9 w v t) (hlen : t.length ≤ 1000) :
    Calls Tryz.prog 41 #[.agg #[v]] w fun e w' => ∃ v', e = .returned (.agg #[v']) ∧ w'.ownsRow (w.heap.size + 1 + 1) 196 9 v' t.length (t.flatMap fun s => [.int .i64 s.id, .int .i64 s.long.lo, .int .i64 s.long.hi, .int .i64 s.fall.lo, .int .i64 s.fall.hi, .int .i64 s.radius.lo, .int .i64 s.radius.hi, .int .u8 s.side, .int .i64 s.wall]) ∧ w.Exts w' := by
  obtain ⟨p, cap, rfl⟩ := hrow.len
  have HR := Lib.hid hrow
  clear hrow
  go_enter Tryz.func41, Tryz.ntmps41
  go_wp2_with (at_builtin; refine wpList_append_row (.tmp 3) (.tmp 5) elem_Stretch rfl rfl rfl (ownsRow_new _ _ _ (by simp)) rfl (HR.out.mono exq) (fun _ _ => rfl) (fun _ _ u hu => by simp at hu; rcases hu with rfl | rfl | rfl | rfl | rfl | rfl | rfl | rfl | rfl <;> rfl) (by omega) (by simp) ?_)
  intro v' w' hown' happ
  obtain ⟨X, rfl⟩ := happ.exts ((w.alloc (.cells #[.slice p t.length cap] 24)).alloc (.cells #[.slice none 0 0] 24)) exq (by simp)
  obtain ⟨q, cp, hv⟩ := owns_len hown'
  subst hv
  have HO2 := Lib.hid hown'
  clear hown'
  clear happ
  go_wp2_with fail
  refine bodyPost_ret (v := .agg #[.slice q t.length cp]) (by simp [results, Tryz.results41, go_sem]) rfl ?_
  exact ⟨_, rfl, World.ownsRow.set (by simpa using HO2.out) (by dsimp only; omega) _, exq⟩

/-- What a twin of a cover owns. -/
def CoverOwn (w' : World) (c : Kr.Cover) (t b h : Value) : Prop :=
  ∃ b1 b2 b3, w'.ownsRow b1 196 9 t c.track.length (c.track.flatMap fun s => [.int .i64 s.id, .int .i64 s.long.lo, .int .i64 s.long.hi, .int .i64 s.fall.lo, .int .i64 s.fall.hi, .int .i64 s.radius.lo, .int .i64 s.radius.hi, .int .u8 s.side, .int .i64 s.wall]) ∧ w'.ownsRow b2 113 3 b c.beds.length (c.beds.flatMap fun b => [.int .i64 b.thick.lo, .int .i64 b.thick.hi, .int .i64 b.sun]) ∧ w'.ownsRow b3 115 5 h c.hours.length (c.hours.flatMap fun h => [.int .i64 h.melt.lo, .int .i64 h.melt.hi, .int .i64 h.runs, .int .i64 h.crew, .bool h.cold])

set_option maxRecDepth 4000 in
set_option maxHeartbeats 4000000 in
theorem r02_Twin_own (c : Kr.Cover) (v : CoverV) (w : World) (h : CoverAt w c v) (h1 : c.track.length ≤ 1000) (h2 : c.beds.length ≤ 1000) (h3 : c.hours.length ≤ 1000) :
    Calls Tryz.prog 9 #[.agg #[v.t, v.b, v.h, .int .i64 c.wear.lo, .int .i64 c.wear.hi, .int .i64 c.layer.lo, .int .i64 c.layer.hi, .int .i64 c.rate, .int .i64 c.limit, .int .i64 c.base]] w fun e w' => ∃ v', e = .returned (.agg #[v'.t, v'.b, v'.h, .int .i64 c.wear.lo, .int .i64 c.wear.hi, .int .i64 c.layer.lo, .int .i64 c.layer.hi, .int .i64 c.rate, .int .i64 c.limit, .int .i64 c.base]) ∧ CoverAt w' c v' ∧ RowT 196 w' v'.t ∧ RowT 113 w' v'.b ∧ RowT 115 w' v'.h ∧ w.Exts w' := by
  obtain ⟨vt, vb, vh⟩ := v
  obtain ⟨qt, ct, hqt⟩ := h.tr.len
  obtain ⟨qb, cb, hqb⟩ := h.bd.len
  obtain ⟨qh, ch, hqh⟩ := h.hr.len
  dsimp only at hqt hqb hqh
  subst hqt hqb hqh
  have hbd := h.bd
  have hhr := h.hr
  have htw := fun (W : World) (hE : w.Exts W) => r01_Twin_own c.track _ W (h.tr.mono hE) h1
  dsimp only at hbd hhr htw
  clear h
  have HBD := Lib.hid hbd
  clear hbd
  have HHR := Lib.hid hhr
  clear hhr
  have HTW := Lib.hid htw
  clear htw
  go_enter Tryz.func9, Tryz.ntmps9
  go_wp2_with (first
    | (go_at_call 41; refine (HTW.out _ exq).mono ?_; rintro e w' ⟨v1, rfl, ho1, X1, rfl⟩; obtain ⟨q1, c1, hv1⟩ := owns_len ho1; subst hv1; have HO1 := Lib.hid ho1; clear ho1)
    | (at_builtin; refine wpList_append_row (.tmp 7) (.tmp 9) elem_Bed rfl rfl rfl (ownsRow_new _ _ _ (by simp)) rfl (HBD.out.mono exq) (fun _ _ => rfl) (fun _ _ u hu => by simp at hu; rcases hu with rfl | rfl | rfl <;> rfl) (by omega) (by simp) ?_))
  intro v2 w2 hown2 happ
  obtain ⟨X2, rfl⟩ := happ.exts (World.setCell (World.ext _ X1) _ _) exq (by simp)
  have hz1 := World.size_ext_le _ X1
  simp at hz1
  have hz2 := World.size_ext_le _ X2
  simp at hz2
  obtain ⟨q2, c2, e2⟩ := owns_len hown2
  subst e2
  have HO2 := Lib.hid hown2
  clear hown2
  clear happ
  go_wp2_with (at_builtin; refine wpList_append_row (.tmp 12) (.tmp 14) elem_Hour rfl rfl rfl (ownsRow_new _ _ _ (by simp)) rfl (HHR.out.mono exq) (fun _ _ => rfl) (fun _ _ u hu => by simp at hu; rcases hu with rfl | rfl | rfl | rfl | rfl <;> rfl) (by omega) (by simp) ?_)
  intro v3 w3 hown3 happ
  obtain ⟨X3, rfl⟩ := happ.exts (World.setCell (World.ext _ X2) _ _) exq (by simp)
  obtain ⟨q3, c3, e3⟩ := owns_len hown3
  subst e3
  have HO3 := Lib.hid hown3
  clear hown3
  clear happ
  go_wp2_with fail
  refine bodyPost_ret (v := .agg #[(⟨.slice q1 c.track.length c1, .slice q2 c.beds.length c2, .slice q3 c.hours.length c3⟩ : CoverV).t, (⟨.slice q1 c.track.length c1, .slice q2 c.beds.length c2, .slice q3 c.hours.length c3⟩ : CoverV).b, (⟨.slice q1 c.track.length c1, .slice q2 c.beds.length c2, .slice q3 c.hours.length c3⟩ : CoverV).h, .int .i64 c.wear.lo, .int .i64 c.wear.hi, .int .i64 c.layer.lo, .int .i64 c.layer.hi, .int .i64 c.rate, .int .i64 c.limit, .int .i64 c.base]) (by simp [results, Tryz.results9, go_sem]) rfl ?_
  suffices hs : CoverOwn _ c (.slice q1 c.track.length c1) (.slice q2 c.beds.length c2) (.slice q3 c.hours.length c3) by
    obtain ⟨b1, b2, b3, o1, o2, o3⟩ := hs
    exact ⟨⟨_, _, _⟩, rfl, ⟨IsRow.of_owns o1 (fun _ _ => rfl), IsRow.of_owns o2 (fun _ _ => rfl), IsRow.of_owns o3 (fun _ _ => rfl)⟩, RowT.of_owns o1, RowT.of_owns o2, RowT.of_owns o3, exq⟩
  refine ⟨w.heap.size + 1 + 1 + 1 + 1, (World.ext _ X1).heap.size, (World.ext _ X2).heap.size, ?_, ?_, ?_⟩
  rotate_left 2
  · have h := HO3.out
    iterate 11 refine World.ownsRow.set ?_ (by simp; try omega) _
    simpa using h
  rotate_left 1
  · have h := HO2.out
    iterate 11 refine World.ownsRow.set ?_ (by simp; try omega) _
    refine ownsRow_ext (World.ownsRow.set ?_ (by simp; try omega) _) X3
    simpa using h
  · have h := HO1.out
    iterate 11 refine World.ownsRow.set ?_ (by simp; try omega) _
    refine ownsRow_ext (World.ownsRow.set (ownsRow_ext (World.ownsRow.set ?_ (by simp; try omega) _) X2) (by simp; try omega) _) X3
    simpa using h

theorem flat_snd (L : List (List Int × Value)) : (L.flatMap fun x => [x.2]) = L.map Prod.snd := by
  induction L with
  | nil => rfl
  | cons x L ih => rw [List.flatMap_cons, ih]; rfl
theorem snd_set {L : List (List Int × Value)} {k : Nat} {l : List Int} (v : Value) : (L.flatMap fun x => [x.2]).set k v = (L.set k (l, v)).flatMap fun x => [x.2] := by
  rw [flat_snd, flat_snd, List.map_set]

set_option maxRecDepth 4000 in
set_option maxHeartbeats 4000000 in
theorem r02_TwinPlan_own (ps : List (List Int × Value)) (pv : Value) (w : World) (h : ListsAt w pv ps) (hn : ps.length ≤ 1000) (hpf : ∀ x ∈ ps, x.1.length ≤ 1000) :
    Calls Tryz.prog 10 #[pv] w fun e w' => ∃ v' ps', e = .returned v' ∧ ListsAt w' v' ps' ∧ ps'.map Prod.fst = ps.map Prod.fst ∧ RowT 36 w' v' ∧ (∀ x ∈ ps', RowT 3 w' x.2) ∧ w.Exts w' := by
  have hrow := h.row
  have hmem := h.mem
  obtain ⟨p, cap, rfl⟩ := hrow.len
  clear h
  have HR := Lib.hid hrow
  clear hrow
  have HM := Lib.hid hmem
  clear hmem
  have HPF := Lib.hid hpf
  clear hpf
  go_enter Tryz.func10, Tryz.ntmps10
  go_wp2_with (at_builtin; refine wpList_append_row (.tmp 5) (.tmp 6) elem_Slint rfl rfl rfl (ownsRow_new _ _ _ (by simp)) rfl (HR.out.mono exq) (fun _ _ => rfl) (fun y hy u hu => by obtain ⟨q, c, e⟩ := (HM.out y hy).len; simp [e] at hu; subst hu; rfl) (by omega) (by simp) ?_)
  intro v1 w1 hown1 happ
  obtain ⟨X1, rfl⟩ := happ.exts w exq (by simp)
  rcases Nat.eq_zero_or_pos ps.length with h0 | h0
  · obtain rfl : ps = [] := List.eq_nil_of_length_eq_zero h0
    have hT1 : RowT 36 (World.ext _ X1) v1 := RowT.of_owns hown1
    have hR1 : IsRow (fun x : List Int × Value => [x.2]) 1 (World.ext _ X1) v1 [] := IsRow.of_owns (by simpa using hown1) (fun _ _ => rfl)
    obtain ⟨q1, c1, e1⟩ := owns_len hown1
    subst e1
    have HT1 := Lib.hid hT1
    clear hT1
    have HR1 := Lib.hid hR1
    clear hR1
    clear happ hown1 h0
    simp only [List.length_nil]
    go_wp2_with fail
    go_loopw [4] (fun i wr => i = .int .i64 0 ∧ wr = World.ext _ X1) (fun _ _ => 0)
    case atStart => exact ⟨rfl, rfl⟩
    case round =>
      obtain ⟨rfl, rfl⟩ := hrel
      go_wp2_with fail
      go_ret
      exact ⟨_, [], rfl, ⟨HR1.out, fun x hx => (by cases hx)⟩, rfl, HT1.out, fun x hx => (by cases hx), exq⟩
  · obtain ⟨g, cg, hv1⟩ : ∃ g cg, v1 = .slice (some ⟨g, 0, none⟩) ps.length cg := by
      rcases hown1.2 with ⟨h2, h1⟩ | ⟨g, cg, _, hv, _⟩
      · omega
      · exact ⟨g, cg, by simpa using hv⟩
    subst hv1
    have hgb := hown1.lt g rfl
    have hblk := BlkAt.of_owns hown1
    have hT1 : RowT 36 _ _ := RowT.of_owns hown1
    have hcg : ps.length ≤ cg ∧ cg ≤ 9223372036854775807 := by
      rcases hown1.2 with ⟨h1, _⟩ | ⟨g', c', cur, hv, _, _, h3, h4, _⟩
      · cases h1
      · cases hv; unfold maxLen at h4; omega
    haveI : Lays (World.ext _ X1) g := ⟨hgb.2⟩
    have HBK := Lib.hid hblk
    clear hblk
    have HT1 := Lib.hid hT1
    clear hT1
    clear hown1 happ
    go_wp2_with fail
    go_loopw [4] (fun i wr => ∃ (k : Nat) (L : List (List Int × Value)), k ≤ ps.length ∧ i = .int .i64 k ∧ Hid (L.map Prod.fst = ps.map Prod.fst ∧ BlkAt wr g (L.flatMap fun x => [x.2]) ∧ ∀ x ∈ L, RowOff (fun x : Int => [.int .i64 x]) 1 wr [g] x.2 x.1) ∧ Hid ((∀ i x, i < k → L[i]? = some x → RowT 3 wr x.2) ∧ RowT 36 wr (.slice (some ⟨g, 0, none⟩) ps.length cg)) ∧ Lays wr g ∧ w.Exts wr) (fun i _ => ps.length - (intOf i).toNat)
    case atStart => exact ⟨0, ps, Nat.zero_le _, rfl, Lib.hid ⟨rfl, HBK.out, fun x hx => RowOff.old (HM.out x hx) exq (by simp; omega)⟩, Lib.hid ⟨fun i x hi => absurd hi (Nat.not_lt_zero _), HT1.out⟩, inferInstance, exq⟩
    case round =>
      clear HBK HT1
      obtain ⟨k, L, hk, rfl, HL, HLT, hl1, hE⟩ := hrel
      obtain ⟨X, rfl⟩ := hE
      have hLl : L.length = ps.length := by
        have h1 := congrArg List.length HL.out.1
        rwa [List.length_map, List.length_map] at h1
      rcases Nat.lt_or_ge k ps.length with hlt | hge
      · obtain ⟨⟨l, lv⟩, hs⟩ := some_of_lt (xs := L) (k := k) (by omega)
        obtain ⟨hL1, hL2, hL3⟩ := HL.out
        have hll : l.length ≤ 1000 := by
          have h1 := congrArg (fun z => z[k]?) hL1
          rw [List.getElem?_map, List.getElem?_map, hs] at h1
          obtain ⟨y, hy⟩ := some_of_lt (xs := ps) hlt
          rw [hy] at h1
          have h2 := HPF.out y (List.mem_of_getElem? hy)
          have h3 : l = y.1 := by simpa using h1
          rw [h3]
          exact h2
        have hfl : (L.flatMap fun x => [x.2]).length = L.length := by rw [flat_snd, List.length_map]
        have c0 := hL2.cell k lv (by rw [flat_snd, List.getElem?_map, hs]; rfl)
        have r0 := hL2.free k (by rw [hfl, hLl]; exact hlt)
        have hlv := hL3 _ (List.mem_of_getElem? hs)
        dsimp only at hlv
        obtain ⟨q, cq, etv⟩ := hlv.row.len
        subst etv
        clear hL1 hL2 hL3 hfl
        have HS := Lib.hid hs
        clear hs
        have HV := Lib.hid hlv
        clear hlv
        have HLL := Lib.hid hLl
        clear hLl
        go_wp2_with (at_builtin; refine wpList_append_row (.tmp 16) (.tmp 20) elem_int rfl rfl rfl (ownsRow_new _ _ _ (by simp)) rfl (HV.out.row.mono exq) (fun _ _ => rfl) (fun _ _ u hu => by simp at hu; subst hu; rfl) (by omega) (by simp) ?_)
        intro v2 w2 hown2 happ
        obtain ⟨X2, rfl⟩ := happ.exts (w.ext X) exq (by simp)
        have hoff : RowOff (fun x : Int => [.int .i64 x]) 1 ((w.ext X).ext X2) [g] v2 l := RowOff.own hown2 (fun _ _ => rfl) (fun g' hg' => by rw [List.mem_singleton.1 hg']; exact hl1.lt)
        have hot : RowT 3 ((w.ext X).ext X2) v2 := RowT.of_owns hown2
        obtain ⟨q2, c2, e2⟩ := owns_len hown2
        subst e2
        have HOFF := Lib.hid hoff
        clear hoff
        have HOT := Lib.hid hot
        clear hot
        clear hown2 happ
        go_wp2_with fail
        go_roundw
        case rel =>
          obtain ⟨hL1, hL2, hL3⟩ := HL.out
          refine ⟨k + 1, L.set k (l, .slice q2 l.length c2), by omega, by go_num, Lib.hid ⟨(map_set_same (f := Prod.fst) (y := (l, Value.slice q2 l.length c2)) HS.out rfl).trans hL1, ?_, fun x hx => ?_⟩, Lib.hid ⟨fun i x hi hx => ?_, ?_⟩, inferInstance, exq⟩
          · rw [← snd_set]
            exact BlkAt.set (hL2.exts exq) (by rw [flat_snd, List.length_map, HLL.out]; exact hlt) _
          · rcases List.mem_or_eq_of_mem_set hx with h | rfl
            · exact RowOff.set ((hL3 x h).exts exq) (by simp) _
            · exact RowOff.set HOFF.out (by simp) _
          · refine RowT.set ?_ _ _
            by_cases hik : k = i
            · subst hik
              rw [List.getElem?_set_self (by rw [HLL.out]; exact hlt)] at hx
              cases hx
              exact HOT.out
            · rw [List.getElem?_set_ne hik] at hx
              exact (HLT.out.1 i x (by omega) hx).exts exq
          · exact RowT.set (HLT.out.2.exts exq) _ _
        case measure => simp [intOf]; omega
      · have HLL := Lib.hid hLl
        clear hLl
        have hkn : k = ps.length := by omega
        go_wp2_with fail
        go_ret
        obtain ⟨hL1, hL2, hL3⟩ := HL.out
        refine ⟨_, L, rfl, ⟨?_, fun x hx => (hL3 x hx).row⟩, hL1, HLT.out.2, fun x hx => ?_, exq⟩
        · rw [← HLL.out]
          exact IsRow.of_blk (fun _ => rfl) hL2 inferInstance (by rw [HLL.out]; exact hcg)
        · obtain ⟨i, hi⟩ := List.mem_iff_getElem?.1 hx
          exact HLT.out.1 i x (by have := lt_of_some hi; have := HLL.out; omega) hi
end Go.Proofs.YtilmniopollbiaaGreatDoor
