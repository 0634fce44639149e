/-
  Walks of package scale and of its reference: the conditions, and what is judged.
-/
import Derived.Test.YtomcenfikdmmkaaGreatDoorJa
import Derived.Test.YtomcenfikdmmkaaGreatDoorTp
import Derived.Test.YtomcenfikdmmkaaGreatDoorTq
import Derived.Test.YtomcenfikdmmkaaGreatDoorTk
import Derived.Test.YtomcenfikdmmkaaGreatDoorTj
namespace Go.Proofs.YtomcenfikdmmkaaGreatDoor
open Go.RowKit Kr
set_option linter.unusedSimpArgs false

set_option maxHeartbeats 1000000 in
theorem Min_uint8_any (l : List Int) (v : Value) (w : World) (hrow : IsRow (fun x : Int => [.int .u8 x]) 1 w v l) (h0 : 0 < l.length) : Calls Tryz.prog 31 #[v] w fun e w' => e = .returned (.int .u8 (minL l)) ∧ w.Exts w' := by
  obtain ⟨p, b, o, cap, rfl, hm, hp, hc⟩ := hrow.ex
  obtain ⟨rfl, hlay⟩ := hp h0
  obtain ⟨x, hx⟩ := some_of_lt h0
  have c00 := hc 0 x hx 0 _ rfl
  simp only [Nat.zero_mul, Nat.add_zero] at c00
  have ht1 : minL (l.take 1) = x := by rw [take_snoc hx]; rfl
  have HT1 := Lib.hid ht1
  clear ht1
  have HC := Lib.hid hc
  clear hc
  clear hrow hp hx
  go_enter Tryz.func31, Tryz.ntmps31
  go_wp2_with fail
  go_loopw [3, 4] (fun m i wr => ∃ k : Nat, 1 ≤ k ∧ k ≤ l.length ∧ i = .int .i64 k ∧ m = .int .u8 (minL (l.take k)) ∧ w.Exts wr) (fun _ i _ => l.length - (intOf i).toNat)
  case atStart => exact ⟨1, by omega, by omega, rfl, by rw [HT1.out], (by repeat' (first | with_reducible exact World.Exts.refl _ | with_reducible refine World.Exts.alloc ?_ _ | with_reducible refine World.Exts.drew ?_ | with_reducible refine World.Exts.drewN ?_ _ | with_reducible refine World.Exts.ext ?_ _ | with_reducible refine World.Exts.setCell ?_ ?_ _ | (simp; done) | exact World.size_ext_le _ _ | (simp; omega)))⟩
  case round =>
    obtain ⟨k, hk1, hk, rfl, rfl, hE⟩ := hrel
    obtain ⟨X, rfl⟩ := hE
    by_cases hlt : k < l.length
    · obtain ⟨y, hy⟩ := some_of_lt hlt
      have hcs := HC.out k y hy
      have c0 := hcs 0 _ rfl
      simp only [Nat.mul_one, Nat.add_zero] at c0
      have hnx := minL_snoc (l := l.take k) (by rw [List.length_take]; omega) y
      rw [← take_snoc hy] at hnx
      generalize minL (l.take k) = m at hnx
      have HNX := Lib.hid hnx
      clear hnx
      clear hy hcs
      rcases Int.lt_trichotomy m y with hc1 | hc1 | hc1
      all_goals
        go_wp2_with fail
        go_roundw
        case rel => exact ⟨k + 1, by omega, by omega, by go_num, by rw [HNX.out]; try exact congrArg (Value.int .u8) (by omega), (by repeat' (first | with_reducible exact World.Exts.refl _ | with_reducible refine World.Exts.alloc ?_ _ | with_reducible refine World.Exts.drew ?_ | with_reducible refine World.Exts.drewN ?_ _ | with_reducible refine World.Exts.ext ?_ _ | with_reducible refine World.Exts.setCell ?_ ?_ _ | (simp; done) | exact World.size_ext_le _ _ | (simp; omega)))⟩
        case measure => (simp [intOf]; try omega)
    · have hkn : k = l.length := by omega
      have hfin : minL (l.take k) = minL l := by rw [hkn, List.take_length]
      rw [hfin]
      clear hkn hfin
      go_wp2_with fail
      go_ret
      exact ⟨rfl, (by repeat' (first | with_reducible exact World.Exts.refl _ | with_reducible refine World.Exts.alloc ?_ _ | with_reducible refine World.Exts.drew ?_ | with_reducible refine World.Exts.drewN ?_ _ | with_reducible refine World.Exts.ext ?_ _ | with_reducible refine World.Exts.setCell ?_ ?_ _ | (simp; done) | exact World.size_ext_le _ _ | (simp; omega)))⟩
set_option maxHeartbeats 400000 in
theorem r04_SameBytes_any (l : List Int) (v1 v2 : Value) (w : World) (h1 : IsRow (fun t : Int => [.int .u8 t]) 1 w v1 l) (h2 : IsRow (fun t : Int => [.int .u8 t]) 1 w v2 l) :
    Calls Tryz.prog 15 #[v1, v2] w fun e w' => e = .returned (.bool true) ∧ w.Exts w' := by
  obtain ⟨p1, b1, o1, cap1, rfl, hm, hp1, hc1⟩ := h1.ex
  obtain ⟨p2, b2, o2, cap2, rfl, hm2, hp2, hc2⟩ := h2.ex
  have HC1 := Lib.hid hc1
  clear hc1
  have HC2 := Lib.hid hc2
  clear hc2
  clear h1 h2
  go_enter Tryz.func15, Tryz.ntmps15
  go_wp2_with fail
  go_loopw [5] (fun i wr => ∃ k : Nat, k ≤ l.length ∧ i = .int .i64 k ∧ w.Exts wr) (fun i _ => l.length - (intOf i).toNat)
  case atStart => exact ⟨0, Nat.zero_le _, rfl, (by repeat' (first | with_reducible exact World.Exts.refl _ | with_reducible refine World.Exts.alloc ?_ _ | with_reducible refine World.Exts.drew ?_ | with_reducible refine World.Exts.drewN ?_ _ | with_reducible refine World.Exts.ext ?_ _ | with_reducible refine World.Exts.setCell ?_ ?_ _ | (simp; done) | exact World.size_ext_le _ _ | (simp; omega)))⟩
  case round =>
    obtain ⟨k, hk, rfl, X, rfl⟩ := hrel
    by_cases hlt : k < l.length
    · obtain ⟨rfl, hl1⟩ := hp1 (by omega)
      obtain ⟨rfl, hl2⟩ := hp2 (by omega)
      obtain ⟨x, hx⟩ := some_of_lt hlt
      have d1 := HC1.out k x hx
      have d2 := HC2.out k x hx
      have c10 := d1 0 _ rfl
      have c20 := d2 0 _ rfl
      simp only [Nat.add_zero, Nat.mul_one] at c10 c20
      clear hx d1 d2 hp1 hp2
      go_wp2_with fail
      refine wp_region_ext (by kernel_rfl) (by kernel_rfl) ?_
      repeat (go_big_quiet_step (fail))
      refine wpQuiet_nil ?_
      rintro _ ⟨X, rfl⟩
      go_wp2_with fail
      go_roundw
      case rel => exact ⟨k + 1, by omega, by go_num, (by repeat' (first | with_reducible exact World.Exts.refl _ | with_reducible refine World.Exts.alloc ?_ _ | with_reducible refine World.Exts.drew ?_ | with_reducible refine World.Exts.drewN ?_ _ | with_reducible refine World.Exts.ext ?_ _ | with_reducible refine World.Exts.setCell ?_ ?_ _ | (simp; done) | exact World.size_ext_le _ _ | (simp; omega)))⟩
      case measure => simp [intOf]; omega
    · go_wp2_with fail
      go_ret
      exact ⟨rfl, (by repeat' (first | with_reducible exact World.Exts.refl _ | with_reducible refine World.Exts.alloc ?_ _ | with_reducible refine World.Exts.drew ?_ | with_reducible refine World.Exts.drewN ?_ _ | with_reducible refine World.Exts.ext ?_ _ | with_reducible refine World.Exts.setCell ?_ ?_ _ | (simp; done) | exact World.size_ext_le _ _ | (simp; omega)))⟩
theorem minOf_eq {l : List Int} (h0 : 0 < l.length) (h : ∀ x ∈ l, x ≤ 2) : minL l = minOf l := by
  cases l with
  | nil => simp at h0
  | cons x l =>
    have := h x (List.mem_cons_self ..)
    unfold minOf
    rw [List.foldl_cons, Int.min_eq_right this]
    rfl
theorem row_span1 (w : World) (s : Span) (n : Nat) (hn : n = w.heap.size) : IsRow (fun t : Kr.Span => [.int .i64 t.lo, .int .i64 t.hi]) 2 (w.alloc (.cells #[.int .i64 s.lo, .int .i64 s.hi] 30)) (.slice (some ⟨n, 0, none⟩) 1 1) [s] := by
  have h : BlkAt (w.alloc (.cells ([.int .i64 s.lo, .int .i64 s.hi] : List Value).toArray 30)) n (([s] : List Span).flatMap fun t => [.int .i64 t.lo, .int .i64 t.hi]) := BlkAt.new w _ _ hn
  exact IsRow.of_blk (enc := fun t : Kr.Span => [.int .i64 t.lo, .int .i64 t.hi]) (k := 2) (xs := [s]) (fun _ => rfl) h ⟨by subst hn; simp⟩ (by simp)

set_option maxHeartbeats 400000 in
theorem scale_conditions_1_any (g : Gear) (lv rv sv vt : Value) (l : List Span) (h : Span) (n : Norm) (w : World) (hrow : IsRow (fun t : Kr.Span => [.int .i64 t.lo, .int .i64 t.hi]) 2 w vt l) (hf : Full l) :
    Calls Tryz.prog 162 #[.agg #[lv, .int .i64 g.added, .int .i64 g.base, .int .i64 g.jitter, rv, sv, .int .i64 g.spread, .bool g.stamp, vt, .int .i64 h.lo, .int .i64 h.hi], .agg #[.int .i64 n.total.lo, .int .i64 n.total.hi, .int .i64 n.added, .int .i64 n.warm, .int .i64 n.hard.lo, .int .i64 n.hard.hi, .bool n.stamp]] w fun e w' => e = .returned (.int .u8 (knownR l n.total)) ∧ w.Exts w' := by
  obtain ⟨q, c, rfl⟩ := hrow.len
  have HR := Lib.hid hrow
  clear hrow
  go_enter Tryz.func162, Tryz.ntmps162
  go_wp2_with (go_at_call 38; refine (scale_known_any l n.total _ _ (HR.out.mono (by repeat' (first | with_reducible exact World.Exts.refl _ | with_reducible refine World.Exts.alloc ?_ _ | with_reducible refine World.Exts.drew ?_ | with_reducible refine World.Exts.drewN ?_ _ | with_reducible refine World.Exts.ext ?_ _ | with_reducible refine World.Exts.setCell ?_ ?_ _ | (simp; done) | exact World.size_ext_le _ _ | (simp; omega)))) hf).mono ?_; rintro e w' ⟨rfl, X2, rfl⟩)
  go_ret
  exact ⟨rfl, (by repeat' (first | with_reducible exact World.Exts.refl _ | with_reducible refine World.Exts.alloc ?_ _ | with_reducible refine World.Exts.drew ?_ | with_reducible refine World.Exts.drewN ?_ _ | with_reducible refine World.Exts.ext ?_ _ | with_reducible refine World.Exts.setCell ?_ ?_ _ | (simp; done) | exact World.size_ext_le _ _ | (simp; omega)))⟩
set_option maxHeartbeats 400000 in
theorem scale_conditions_2_any (g : Gear) (lv rv sv vt : Value) (h : Span) (n : Norm) (w : World) :
    Calls Tryz.prog 163 #[.agg #[lv, .int .i64 g.added, .int .i64 g.base, .int .i64 g.jitter, rv, sv, .int .i64 g.spread, .bool g.stamp, vt, .int .i64 h.lo, .int .i64 h.hi], .agg #[.int .i64 n.total.lo, .int .i64 n.total.hi, .int .i64 n.added, .int .i64 n.warm, .int .i64 n.hard.lo, .int .i64 n.hard.hi, .bool n.stamp]] w fun e w' => e = .returned (.int .u8 (sureR (decide (g.added ≤ n.added)))) ∧ w.Exts w' := by
  go_enter Tryz.func163, Tryz.ntmps163
  go_wp2_with (go_at_call 164; refine (scale_sure_any _ _).mono ?_; rintro e w' ⟨rfl, X2, rfl⟩)
  go_ret
  exact ⟨rfl, (by repeat' (first | with_reducible exact World.Exts.refl _ | with_reducible refine World.Exts.alloc ?_ _ | with_reducible refine World.Exts.drew ?_ | with_reducible refine World.Exts.drewN ?_ _ | with_reducible refine World.Exts.ext ?_ _ | with_reducible refine World.Exts.setCell ?_ ?_ _ | (simp; done) | exact World.size_ext_le _ _ | (simp; omega)))⟩
set_option maxHeartbeats 400000 in
theorem scale_conditions_4_any (g : Gear) (lv rv sv vt : Value) (h : Span) (n : Norm) (w : World) (hh : h.lo ≤ h.hi) :
    Calls Tryz.prog 166 #[.agg #[lv, .int .i64 g.added, .int .i64 g.base, .int .i64 g.jitter, rv, sv, .int .i64 g.spread, .bool g.stamp, vt, .int .i64 h.lo, .int .i64 h.hi], .agg #[.int .i64 n.total.lo, .int .i64 n.total.hi, .int .i64 n.added, .int .i64 n.warm, .int .i64 n.hard.lo, .int .i64 n.hard.hi, .bool n.stamp]] w fun e w' => e = .returned (.int .u8 (knownR [h] n.hard)) ∧ w.Exts w' := by
  have hf : Full [h] := fun s hs => by rw [List.mem_singleton.1 hs]; exact hh
  go_enter Tryz.func166, Tryz.ntmps166
  go_wp2_with (go_at_call 38; refine (scale_known_any [h] n.hard _ _ (row_span1 _ h _ (by simp)) hf).mono ?_; rintro e w' ⟨rfl, X2, rfl⟩)
  go_ret
  exact ⟨rfl, (by repeat' (first | with_reducible exact World.Exts.refl _ | with_reducible refine World.Exts.alloc ?_ _ | with_reducible refine World.Exts.drew ?_ | with_reducible refine World.Exts.drewN ?_ _ | with_reducible refine World.Exts.ext ?_ _ | with_reducible refine World.Exts.setCell ?_ ?_ _ | (simp; done) | exact World.size_ext_le _ _ | (simp; omega)))⟩
set_option maxHeartbeats 400000 in
theorem scale_conditions_5_any (g : Gear) (lv rv sv vt : Value) (h : Span) (n : Norm) (w : World) :
    Calls Tryz.prog 167 #[.agg #[lv, .int .i64 g.added, .int .i64 g.base, .int .i64 g.jitter, rv, sv, .int .i64 g.spread, .bool g.stamp, vt, .int .i64 h.lo, .int .i64 h.hi], .agg #[.int .i64 n.total.lo, .int .i64 n.total.hi, .int .i64 n.added, .int .i64 n.warm, .int .i64 n.hard.lo, .int .i64 n.hard.hi, .bool n.stamp]] w fun e w' => e = .returned (.int .u8 (sureR (g.stamp || !n.stamp))) ∧ w.Exts w' := by
  cases hs : g.stamp
  all_goals
    go_enter Tryz.func167, Tryz.ntmps167
    go_wp2_with (go_at_call 164; refine (scale_sure_any _ _).mono ?_; rintro e w' ⟨rfl, X2, rfl⟩)
    go_ret
    exact ⟨rfl, (by repeat' (first | with_reducible exact World.Exts.refl _ | with_reducible refine World.Exts.alloc ?_ _ | with_reducible refine World.Exts.drew ?_ | with_reducible refine World.Exts.drewN ?_ _ | with_reducible refine World.Exts.ext ?_ _ | with_reducible refine World.Exts.setCell ?_ ?_ _ | (simp; done) | exact World.size_ext_le _ _ | (simp; omega)))⟩

set_option maxRecDepth 4000 in
set_option maxHeartbeats 1000000 in
theorem scale_conditions_3_any (g : Gear) (lv rv sv vt : Value) (h : Span) (n : Norm) (w : World) (hg : GearAt w (g, lv, rv, sv)) (hvt : ∃ q k c, vt = .slice q k c) (hb : bare g = true) :
    Calls Tryz.prog 165 #[.agg #[lv, .int .i64 g.added, .int .i64 g.base, .int .i64 g.jitter, rv, sv, .int .i64 g.spread, .bool g.stamp, vt, .int .i64 h.lo, .int .i64 h.hi], .agg #[.int .i64 n.total.lo, .int .i64 n.total.hi, .int .i64 n.added, .int .i64 n.warm, .int .i64 n.hard.lo, .int .i64 n.hard.hi, .bool n.stamp]] w fun e w' => e = .returned (.int .u8 (warmOf g n.warm)) ∧ w.Exts w' := by
  obtain ⟨qt, kt, ct, rfl⟩ := hvt
  have hl1 := hg.l
  have hl2 := hg.r
  have hl3 := hg.s
  dsimp only at hl1 hl2 hl3
  obtain ⟨p1, cap1, rfl⟩ := hl1.len
  obtain ⟨p2, cap2, rfl⟩ := hl2.len
  obtain ⟨p3, cap3, rfl⟩ := hl3.len
  have HG := Lib.hid hg
  clear hg
  have hwm : warm g = (g.runners.map (warmAt g), 0) := by unfold warm; rw [hb]; rfl
  have hbb : ∀ s ∈ g.runners.map (warmAt g), s.lo ≤ s.hi ∧ -9000 ≤ s.lo := fun s hs => by
    obtain ⟨r, hr, rfl⟩ := List.mem_map.1 hs
    obtain ⟨_, hb2, hb3, hb4, _, _, _, _⟩ := bare_bounds hb
    have := hb4 r hr
    unfold warmAt
    dsimp only
    omega
  have hfin : warmOf g n.warm = (g.runners.map (warmAt g)).foldl (warmStep n.warm) 2 := rfl
  rw [hfin]
  clear hl1 hl2 hl3 hfin hb
  generalize g.runners.map (warmAt g) = L at hwm hbb ⊢
  have HWM := Lib.hid hwm
  clear hwm
  go_enter Tryz.func165, Tryz.ntmps165
  go_wp2_with (go_at_call 23; refine (scale_Warm_any g _ _ _ _ (HG.out.mono (by repeat' (first | with_reducible exact World.Exts.refl _ | with_reducible refine World.Exts.alloc ?_ _ | with_reducible refine World.Exts.drew ?_ | with_reducible refine World.Exts.drewN ?_ _ | with_reducible refine World.Exts.ext ?_ _ | with_reducible refine World.Exts.setCell ?_ ?_ _ | (simp; done) | exact World.size_ext_le _ _ | (simp; omega))))).mono ?_; rw [HWM.out]; rintro e w' ⟨v2, rfl, hv2, X2, rfl⟩; obtain ⟨qw, cw, rfl⟩ := hv2.len; have HV2 := Lib.hid hv2; clear hv2)
  obtain ⟨p, b, oo, cap, e, hm, hp, hc⟩ := HV2.out.ex
  cases e
  have HP := Lib.hid hp
  clear hp
  have HC := Lib.hid hc
  clear hc
  have HBB := Lib.hid hbb
  clear hbb
  clear HV2
  go_loopw [7, 18] (fun le i wr => ∃ j : Nat, j ≤ L.length ∧ i = .int .i64 j ∧ le = .int .u8 ((L.take j).foldl (warmStep n.warm) 2) ∧ (World.ext _ X2).Exts wr) (fun _ i _ => L.length - (intOf i).toNat)
  case atStart => exact ⟨0, Nat.zero_le _, rfl, rfl, (by repeat' (first | with_reducible exact World.Exts.refl _ | with_reducible refine World.Exts.alloc ?_ _ | with_reducible refine World.Exts.drew ?_ | with_reducible refine World.Exts.drewN ?_ _ | with_reducible refine World.Exts.ext ?_ _ | with_reducible refine World.Exts.setCell ?_ ?_ _ | (simp; done) | exact World.size_ext_le _ _ | (simp; omega)))⟩
  case round =>
    obtain ⟨j, hj, rfl, rfl, hE⟩ := hrel
    obtain ⟨X, rfl⟩ := hE
    by_cases hlt : j < L.length
    · obtain ⟨rfl, hl⟩ := HP.out (by omega)
      obtain ⟨x, hx⟩ := some_of_lt hlt
      have hcs := HC.out j x hx
      have c0 := hcs 0 _ rfl
      have c1 := hcs 1 _ rfl
      simp only [Nat.add_zero] at c0 c1
      obtain ⟨hx1, hx2⟩ := HBB.out x (List.mem_of_getElem? hx)
      have hnx : (L.take (j + 1)).foldl (warmStep n.warm) 2 = min ((L.take j).foldl (warmStep n.warm) 2) (knownR [x] ⟨min x.lo n.warm, n.warm⟩) := by rw [take_snoc hx, List.foldl_append, warm_known hx1 hx2]; rfl
      have hf : Full [x] := fun s hs => by rw [List.mem_singleton.1 hs]; exact hx1
      generalize (L.take j).foldl (warmStep n.warm) 2 = le at hnx ⊢
      have HNX := Lib.hid hnx
      clear hnx
      have HF := Lib.hid hf
      clear hf
      clear hx hcs
      go_wp2_with (go_at_call 38; refine (scale_known_any [x] ⟨min x.lo n.warm, n.warm⟩ _ _ (row_span1 _ x _ (by simp)) HF.out).mono ?_; rintro e w' ⟨rfl, X3, rfl⟩)
      go_roundw
      case rel => exact ⟨j + 1, by omega, by go_num, by rw [HNX.out], (by repeat' (first | with_reducible exact World.Exts.refl _ | with_reducible refine World.Exts.alloc ?_ _ | with_reducible refine World.Exts.drew ?_ | with_reducible refine World.Exts.drewN ?_ _ | with_reducible refine World.Exts.ext ?_ _ | with_reducible refine World.Exts.setCell ?_ ?_ _ | (simp; done) | exact World.size_ext_le _ _ | (simp; omega)))⟩
      case measure => simp [intOf]; omega
    · have hjn : j = L.length := by omega
      have hfin : L.take j = L := by rw [hjn, List.take_length]
      rw [hfin]
      clear hjn hfin
      go_wp2_with fail
      go_ret
      exact ⟨rfl, (by repeat' (first | with_reducible exact World.Exts.refl _ | with_reducible refine World.Exts.alloc ?_ _ | with_reducible refine World.Exts.drew ?_ | with_reducible refine World.Exts.drewN ?_ _ | with_reducible refine World.Exts.ext ?_ _ | with_reducible refine World.Exts.setCell ?_ ?_ _ | (simp; done) | exact World.size_ext_le _ _ | (simp; omega)))⟩
end Go.Proofs.YtomcenfikdmmkaaGreatDoor
