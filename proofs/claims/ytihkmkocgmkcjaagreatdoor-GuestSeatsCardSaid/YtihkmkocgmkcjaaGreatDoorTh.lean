/-
  Walks of package scale and of its reference: how warm and how hard runners are.
-/
import Derived.Test.YtihkmkocgmkcjaaGreatDoorSortB
import Derived.Test.YtihkmkocgmkcjaaGreatDoorBt
import Derived.Test.YtihkmkocgmkcjaaGreatDoorPl
namespace Go.Proofs.YtihkmkocgmkcjaaGreatDoor
open Go.RowKit Kr

set_option maxRecDepth 4000 in
set_option maxHeartbeats 1000000 in
theorem scale_Warm_any (g : Gear) (lv rv sv : Value) (w : World) (hg : GearAt w (g, lv, rv, sv)) :
    Calls Tryz.prog 233 #[.agg #[lv, .int .i64 g.added, .int .i64 g.base, .int .i64 g.jitter, rv, sv, .int .i64 g.spread, .bool g.stamp]] w fun e w' => ∃ v, e = .returned (.tuple #[v, .int .i64 (warm g).2]) ∧ IsRow (fun t : Kr.Span => [.int .i64 t.lo, .int .i64 t.hi]) 2 w' v (warm g).1 ∧ w.Exts w' := by
  have hl1 := hg.l
  have hl2 := hg.r
  have hl3 := hg.s
  dsimp only at hl1 hl2 hl3
  obtain ⟨p1, cap1, rfl⟩ := hl1.len
  obtain ⟨p2, cap2, rfl⟩ := hl2.len
  obtain ⟨p3, cap3, rfl⟩ := hl3.len
  have HG := Lib.hid hg
  clear hg
  cases hb : bare g
  · have hfin : warm g = ([], 41) := by unfold warm; rw [hb]; rfl
    rw [hfin]
    have HB := Lib.hid hb
    clear hb
    clear hfin
    go_enter Tryz.func233, Tryz.ntmps233
    go_wp2_with (go_at_call 105; refine (scale_bare_any g _ _ _ _ (HG.out.r.mono exq) (HG.out.s.mono exq) HG.out.len).mono ?_; rintro e w' ⟨rfl, X2, rfl⟩; rw [HB.out])
    go_ret2
    exact ⟨_, rfl, IsRow.nil _, exq⟩
  · have hfin : warm g = (g.runners.map (warmAt g), 0) := by unfold warm; rw [hb]; rfl
    rw [hfin]
    obtain ⟨_, hb2, hb3, hb4, hb5, _, _, _⟩ := bare_bounds hb
    obtain ⟨p2', b2, o2, cap2', e, hm2, hp2, hc2⟩ := hl2.ex
    cases e
    have HB := Lib.hid hb
    clear hb
    have HB4 := Lib.hid hb4
    clear hb4
    have HP2 := Lib.hid hp2
    clear hp2
    have HC2 := Lib.hid hc2
    clear hc2
    clear hfin hl2
    go_enter Tryz.func233, Tryz.ntmps233
    go_wp2_with (go_at_call 105; refine (scale_bare_any g _ _ _ _ (HG.out.r.mono exq) (HG.out.s.mono exq) HG.out.len).mono ?_; rintro e w' ⟨rfl, X2, rfl⟩; rw [HB.out])
    go_loopw [4, 13] (fun out i wr => ∃ k : Nat, k ≤ g.runners.length ∧ i = .int .i64 k ∧ Hid (wr.ownsRow (World.ext _ X2).heap.size 28 2 out ((g.runners.take k).map (warmAt g)).length (spanCs ((g.runners.take k).map (warmAt g)))) ∧ (World.ext _ X2).Exts wr) (fun _ i _ => g.runners.length - (intOf i).toNat)
    case atStart => exact ⟨0, Nat.zero_le _, rfl, Lib.hid (World.ownsRow_nil _ _ _ _), exq⟩
    case round =>
      obtain ⟨k, hk, rfl, HO, hE⟩ := hrel
      obtain ⟨X, rfl⟩ := hE
      by_cases hlt : k < g.runners.length
      · obtain ⟨rfl, hl⟩ := HP2.out (by omega)
        obtain ⟨r, hr⟩ := some_of_lt hlt
        have hcs := HC2.out k r hr
        have c0 := hcs 0 _ rfl
        simp only [Nat.mul_one, Nat.add_zero] at c0
        have hrb := HB4.out r (List.mem_of_getElem? hr)
        have hnx : (g.runners.take (k + 1)).map (warmAt g) = (g.runners.take k).map (warmAt g) ++ [⟨r - g.base - 2 * g.jitter, r - g.base + 2 * g.jitter⟩] := by rw [take_snoc hr, List.map_append]; rfl
        have hlen : ((g.runners.take k).map (warmAt g)).length ≤ 1000 := by rw [List.length_map, List.length_take]; omega
        generalize (g.runners.take k).map (warmAt g) = L at hnx hlen HO
        have HNX := Lib.hid hnx
        clear hnx
        clear hr hcs HP2
        go_wp2_with (at_builtin; refine wpList_append1W (.tmp 17) (.tmp 35) elem_Span rfl rfl rfl (ownsRow_exts HO.out exq) [.int .i64 (r - g.base - 2 * g.jitter), .int .i64 (r - g.base + 2 * g.jitter)] _ (by simp) rfl rfl ?h1 ?h2 ?h4 ?h3 ?_)
        case h1 => exact one_Span ⟨r - g.base - 2 * g.jitter, r - g.base + 2 * g.jitter⟩
        case h2 => omega
        case h4 => decide
        case h3 => exact World.Exts.size exq
        intro v' w' hown' happ
        have hE := happ.exts (World.ext _ X2) exq (Nat.le_refl _)
        have HO3 := Lib.hid hown'
        clear hown'
        have HE := Lib.hid hE
        clear hE
        clear happ
        go_wp2_with fail
        go_roundw
        case rel => exact ⟨k + 1, by omega, by go_num, Lib.hid (by rw [HNX.out, spanCs_snoc, List.length_append]; exact HO3.out), HE.out⟩
        case measure => simp [intOf]; omega
      · have hkn : k = g.runners.length := by omega
        have hO := HO.out
        rw [hkn, List.take_length] at hO
        have hrw := row_spans hO
        obtain ⟨q, cp, rfl⟩ := hrw.len
        have HRW := Lib.hid hrw
        clear hrw
        clear hkn HO hO
        go_wp2_with fail
        go_ret2
        exact ⟨_, rfl, HRW.out.mono exq, exq⟩

set_option maxRecDepth 4000 in
set_option maxHeartbeats 1000000 in
theorem r04_Warm_any (g : Gear) (lv rv sv : Value) (w : World) (hg : GearAt w (g, lv, rv, sv)) :
    Calls Tryz.prog 70 #[.agg #[lv, .int .i64 g.added, .int .i64 g.base, .int .i64 g.jitter, rv, sv, .int .i64 g.spread, .bool g.stamp]] w fun e w' => ∃ v, e = .returned (.tuple #[v, .int .i64 (warm g).2]) ∧ IsRow (fun t : Kr.Span => [.int .i64 t.lo, .int .i64 t.hi]) 2 w' v (warm g).1 ∧ w.Exts w' := by
  have hl1 := hg.l
  have hl2 := hg.r
  have hl3 := hg.s
  dsimp only at hl1 hl2 hl3
  obtain ⟨p1, cap1, rfl⟩ := hl1.len
  obtain ⟨p2, cap2, rfl⟩ := hl2.len
  obtain ⟨p3, cap3, rfl⟩ := hl3.len
  have HG := Lib.hid hg
  clear hg
  cases hb : bare g
  · have hfin : warm g = ([], 41) := by unfold warm; rw [hb]; rfl
    rw [hfin]
    have HB := Lib.hid hb
    clear hb
    clear hfin
    go_enter Tryz.func70, Tryz.ntmps70
    go_wp2_with (go_at_call 115; refine (r04_Bare_any g _ _ _ _ (HG.out.r.mono exq) (HG.out.s.mono exq)).mono ?_; rintro e w' ⟨rfl, X2, rfl⟩; rw [HB.out])
    go_ret2
    exact ⟨_, rfl, IsRow.nil _, exq⟩
  · have hfin : warm g = (g.runners.map (warmAt g), 0) := by unfold warm; rw [hb]; rfl
    rw [hfin]
    obtain ⟨_, hb2, hb3, hb4, hb5, _, _, _⟩ := bare_bounds hb
    obtain ⟨p2', b2, o2, cap2', e, hm2, hp2, hc2⟩ := hl2.ex
    cases e
    have HB := Lib.hid hb
    clear hb
    have HB4 := Lib.hid hb4
    clear hb4
    have HP2 := Lib.hid hp2
    clear hp2
    have HC2 := Lib.hid hc2
    clear hc2
    clear hfin hl2
    go_enter Tryz.func70, Tryz.ntmps70
    go_wp2_with (go_at_call 115; refine (r04_Bare_any g _ _ _ _ (HG.out.r.mono exq) (HG.out.s.mono exq)).mono ?_; rintro e w' ⟨rfl, X2, rfl⟩; rw [HB.out])
    go_loopw [4, 5] (fun out i wr => ∃ k : Nat, k ≤ g.runners.length ∧ i = .int .i64 k ∧ Hid (wr.ownsRow (World.ext _ X2).heap.size 28 2 out ((g.runners.take k).map (warmAt g)).length (spanCs ((g.runners.take k).map (warmAt g)))) ∧ (World.ext _ X2).Exts wr) (fun _ i _ => g.runners.length - (intOf i).toNat)
    case atStart => exact ⟨0, Nat.zero_le _, rfl, Lib.hid (World.ownsRow_nil _ _ _ _), exq⟩
    case round =>
      obtain ⟨k, hk, rfl, HO, hE⟩ := hrel
      obtain ⟨X, rfl⟩ := hE
      by_cases hlt : k < g.runners.length
      · obtain ⟨rfl, hl⟩ := HP2.out (by omega)
        obtain ⟨r, hr⟩ := some_of_lt hlt
        have hcs := HC2.out k r hr
        have c0 := hcs 0 _ rfl
        simp only [Nat.mul_one, Nat.add_zero] at c0
        have hrb := HB4.out r (List.mem_of_getElem? hr)
        have hnx : (g.runners.take (k + 1)).map (warmAt g) = (g.runners.take k).map (warmAt g) ++ [⟨r - g.base - 2 * g.jitter, r - g.base + 2 * g.jitter⟩] := by rw [take_snoc hr, List.map_append]; rfl
        have hlen : ((g.runners.take k).map (warmAt g)).length ≤ 1000 := by rw [List.length_map, List.length_take]; omega
        generalize (g.runners.take k).map (warmAt g) = L at hnx hlen HO
        have HNX := Lib.hid hnx
        clear hnx
        clear hr hcs HP2
        go_wp2_with fail
        refine wp_region_ext (by kernel_rfl) (by kernel_rfl) ?_
        repeat (go_big_quiet_step (fail))
        refine wpQuiet_nil ?_
        rintro _ ⟨X, rfl⟩
        go_wp2_with (at_builtin; refine wpList_append1W (.tmp 25) (.tmp 37) elem_Span rfl rfl rfl (ownsRow_exts HO.out exq) [.int .i64 (r - g.base - 2 * g.jitter), .int .i64 (r - g.base + 2 * g.jitter)] _ (by simp) rfl rfl ?h1 ?h2 ?h4 ?h3 ?_)
        case h1 => exact one_Span ⟨r - g.base - 2 * g.jitter, r - g.base + 2 * g.jitter⟩
        case h2 => omega
        case h4 => decide
        case h3 => exact World.Exts.size exq
        intro v' w' hown' happ
        have hE := happ.exts (World.ext _ X2) exq (Nat.le_refl _)
        have HO3 := Lib.hid hown'
        clear hown'
        have HE := Lib.hid hE
        clear hE
        clear happ
        go_wp2_with fail
        go_roundw
        case rel => exact ⟨k + 1, by omega, by go_num, Lib.hid (by rw [HNX.out, spanCs_snoc, List.length_append]; exact HO3.out), HE.out⟩
        case measure => simp [intOf]; omega
      · have hkn : k = g.runners.length := by omega
        have hO := HO.out
        rw [hkn, List.take_length] at hO
        have hrw := row_spans hO
        obtain ⟨q, cp, rfl⟩ := hrw.len
        have HRW := Lib.hid hrw
        clear hrw
        clear hkn HO hO
        go_wp2_with fail
        go_ret2
        exact ⟨_, rfl, HRW.out.mono exq, exq⟩

/-- The greatest, the least of numbers. -/
def maxL : List Int → Int | [] => 0 | x :: l => l.foldl max x
def minL : List Int → Int | [] => 0 | x :: l => l.foldl min x
theorem maxL_snoc {l : List Int} (h : 0 < l.length) (x : Int) : maxL (l ++ [x]) = max (maxL l) x := by
  cases l with
  | nil => simp at h
  | cons y l => simp [maxL]
theorem minL_snoc {l : List Int} (h : 0 < l.length) (x : Int) : minL (l ++ [x]) = min (minL l) x := by
  cases l with
  | nil => simp at h
  | cons y l => simp [minL]
theorem hard_fold {spread : Int} {l : List Int} (h : 0 < l.length) (o : Span) : l.foldl (hardStep spread) o = ⟨max o.lo (maxL l - spread), min o.hi (minL l + spread)⟩ := by
  have key : ∀ (l : List Int) (o : Span) (a b : Int), l.foldl (hardStep spread) ⟨max o.lo (a - spread), min o.hi (b + spread)⟩ = ⟨max o.lo (l.foldl max a - spread), min o.hi (l.foldl min b + spread)⟩ := by
    intro l
    induction l with
    | nil => intro o a b; rfl
    | cons x l ih =>
      intro o a b
      rw [List.foldl_cons, List.foldl_cons, List.foldl_cons, ← ih o (max a x) (min b x)]
      congr 1
      simp only [hardStep, Span.mk.injEq]
      omega
  cases l with
  | nil => simp at h
  | cons x l => rw [List.foldl_cons]; exact key l o x x
theorem maxL_in {l : List Int} (h : 0 < l.length) : maxL l ∈ l := by
  have key : ∀ (l : List Int) (a : Int), l.foldl max a = a ∨ l.foldl max a ∈ l := by
    intro l
    induction l with
    | nil => intro a; exact .inl rfl
    | cons x l ih =>
      intro a
      rw [List.foldl_cons]
      rcases ih (max a x) with h | h
      · rw [h]
        by_cases hc : a ≤ x
        · rw [Int.max_eq_right hc]; exact .inr (List.mem_cons_self ..)
        · rw [Int.max_eq_left (by omega)]; exact .inl rfl
      · exact .inr (List.mem_cons_of_mem _ h)
  cases l with
  | nil => simp at h
  | cons x l =>
    rcases key l x with h | h
    · show l.foldl max x ∈ _; rw [h]; exact List.mem_cons_self ..
    · exact List.mem_cons_of_mem _ h
theorem minL_in {l : List Int} (h : 0 < l.length) : minL l ∈ l := by
  have key : ∀ (l : List Int) (a : Int), l.foldl min a = a ∨ l.foldl min a ∈ l := by
    intro l
    induction l with
    | nil => intro a; exact .inl rfl
    | cons x l ih =>
      intro a
      rw [List.foldl_cons]
      rcases ih (min a x) with h | h
      · rw [h]
        by_cases hc : x ≤ a
        · rw [Int.min_eq_right hc]; exact .inr (List.mem_cons_self ..)
        · rw [Int.min_eq_left (by omega)]; exact .inl rfl
      · exact .inr (List.mem_cons_of_mem _ h)
  cases l with
  | nil => simp at h
  | cons x l =>
    rcases key l x with h | h
    · show l.foldl min x ∈ _; rw [h]; exact List.mem_cons_self ..
    · exact List.mem_cons_of_mem _ h

set_option maxHeartbeats 1000000 in
theorem Max_int_any (l : List Int) (v : Value) (w : World) (hrow : IsRow (fun x : Int => [.int .i64 x]) 1 w v l) (h0 : 0 < l.length) : Calls Tryz.prog 106 #[v] w fun e w' => e = .returned (.int .i64 (maxL l)) ∧ w.Exts w' := by
  obtain ⟨p, b, o, cap, rfl, hm, hp, hc⟩ := hrow.ex
  obtain ⟨rfl, hlay⟩ := hp h0
  obtain ⟨x, hx⟩ := some_of_lt h0
  have c00 := hc 0 x hx 0 _ rfl
  simp only [Nat.zero_mul, Nat.add_zero] at c00
  have ht1 : maxL (l.take 1) = x := by rw [take_snoc hx]; rfl
  have HT1 := Lib.hid ht1
  clear ht1
  have HC := Lib.hid hc
  clear hc
  clear hrow hp hx
  go_enter Tryz.func106, Tryz.ntmps106
  go_wp2_with fail
  go_loopw [3, 4] (fun m i wr => ∃ k : Nat, 1 ≤ k ∧ k ≤ l.length ∧ i = .int .i64 k ∧ m = .int .i64 (maxL (l.take k)) ∧ w.Exts wr) (fun _ i _ => l.length - (intOf i).toNat)
  case atStart => exact ⟨1, by omega, by omega, rfl, by rw [HT1.out], exq⟩
  case round =>
    obtain ⟨k, hk1, hk, rfl, rfl, hE⟩ := hrel
    obtain ⟨X, rfl⟩ := hE
    by_cases hlt : k < l.length
    · obtain ⟨y, hy⟩ := some_of_lt hlt
      have hcs := HC.out k y hy
      have c0 := hcs 0 _ rfl
      simp only [Nat.mul_one, Nat.add_zero] at c0
      have hnx := maxL_snoc (l := l.take k) (by rw [List.length_take]; omega) y
      rw [← take_snoc hy] at hnx
      generalize maxL (l.take k) = m at hnx
      have HNX := Lib.hid hnx
      clear hnx
      clear hy hcs
      rcases Int.lt_trichotomy m y with hc1 | hc1 | hc1
      all_goals
        go_wp2_with fail
        go_roundw
        case rel => exact ⟨k + 1, by omega, by omega, by go_num, by rw [HNX.out]; try exact congrArg (Value.int .i64) (by omega), exq⟩
        case measure => (simp [intOf]; try omega)
    · have hkn : k = l.length := by omega
      have hfin : maxL (l.take k) = maxL l := by rw [hkn, List.take_length]
      rw [hfin]
      clear hkn hfin
      go_wp2_with fail
      go_ret
      exact ⟨rfl, exq⟩
set_option maxHeartbeats 1000000 in
theorem Min_int_any (l : List Int) (v : Value) (w : World) (hrow : IsRow (fun x : Int => [.int .i64 x]) 1 w v l) (h0 : 0 < l.length) : Calls Tryz.prog 107 #[v] w fun e w' => e = .returned (.int .i64 (minL l)) ∧ w.Exts w' := by
  obtain ⟨p, b, o, cap, rfl, hm, hp, hc⟩ := hrow.ex
  obtain ⟨rfl, hlay⟩ := hp h0
  obtain ⟨x, hx⟩ := some_of_lt h0
  have c00 := hc 0 x hx 0 _ rfl
  simp only [Nat.zero_mul, Nat.add_zero] at c00
  have ht1 : minL (l.take 1) = x := by rw [take_snoc hx]; rfl
  have HT1 := Lib.hid ht1
  clear ht1
  have HC := Lib.hid hc
  clear hc
  clear hrow hp hx
  go_enter Tryz.func107, Tryz.ntmps107
  go_wp2_with fail
  go_loopw [3, 4] (fun m i wr => ∃ k : Nat, 1 ≤ k ∧ k ≤ l.length ∧ i = .int .i64 k ∧ m = .int .i64 (minL (l.take k)) ∧ w.Exts wr) (fun _ i _ => l.length - (intOf i).toNat)
  case atStart => exact ⟨1, by omega, by omega, rfl, by rw [HT1.out], exq⟩
  case round =>
    obtain ⟨k, hk1, hk, rfl, rfl, hE⟩ := hrel
    obtain ⟨X, rfl⟩ := hE
    by_cases hlt : k < l.length
    · obtain ⟨y, hy⟩ := some_of_lt hlt
      have hcs := HC.out k y hy
      have c0 := hcs 0 _ rfl
      simp only [Nat.mul_one, Nat.add_zero] at c0
      have hnx := minL_snoc (l := l.take k) (by rw [List.length_take]; omega) y
      rw [← take_snoc hy] at hnx
      generalize minL (l.take k) = m at hnx
      have HNX := Lib.hid hnx
      clear hnx
      clear hy hcs
      rcases Int.lt_trichotomy m y with hc1 | hc1 | hc1
      all_goals
        go_wp2_with fail
        go_roundw
        case rel => exact ⟨k + 1, by omega, by omega, by go_num, by rw [HNX.out]; try exact congrArg (Value.int .i64) (by omega), exq⟩
        case measure => (simp [intOf]; try omega)
    · have hkn : k = l.length := by omega
      have hfin : minL (l.take k) = minL l := by rw [hkn, List.take_length]
      rw [hfin]
      clear hkn hfin
      go_wp2_with fail
      go_ret
      exact ⟨rfl, exq⟩
end Go.Proofs.YtihkmkocgmkcjaaGreatDoor
