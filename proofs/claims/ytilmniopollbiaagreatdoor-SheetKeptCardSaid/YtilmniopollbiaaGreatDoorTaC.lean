/-
  Several texts in one: see the heads of its parts.
-/
import Derived.Test.YtilmniopollbiaaGreatDoorScDT
import Derived.Test.YtilmniopollbiaaGreatDoorPl
import Derived.Test.YtilmniopollbiaaGreatDoorScH

/-
  Walks of package scale and of its reference: the weights for which a scale shows a number.
-/
namespace Go.Proofs.YtilmniopollbiaaGreatDoor
open Go.RowKit Kr

set_option maxHeartbeats 1000000 in
theorem scale_weights_any (s : Scale) (tv : Value) (gain off n : Int) (w : World) (hs : 1 ≤ s.step ∧ s.step ≤ 500) (hg : -10 ≤ gain ∧ gain ≤ 10) (ho : -100 ≤ off ∧ off ≤ 100) (hn : -2000000 ≤ n ∧ n ≤ 2000000) :
    Calls Tryz.prog 200 #[.agg #[.int .i64 s.id, .int .i64 s.step, .int .i64 s.gain.lo, .int .i64 s.gain.hi, .int .i64 s.off.lo, .int .i64 s.off.hi, tv], .agg #[.int .i64 gain, .int .i64 off], .int .i64 n] w fun e w' => e = .returned (.agg #[.int .i64 (wt s.step gain off n).lo, .int .i64 (wt s.step gain off n).hi]) ∧ w.Exts w' := by
  unfold wt
  have b1 := ediv_bounds (a := -1000 * (n - off)) (b := 1000 + gain) (m := 9000000000) (by omega) (by omega) (by omega) (by omega)
  have b2 := ediv_bounds (a := 1000 * (n + s.step - off) - 1) (b := 1000 + gain) (m := 9000000000) (by omega) (by omega) (by omega) (by omega)
  generalize hql : -1000 * (n - off) / (1000 + gain) = ql at b1 ⊢
  generalize hqh : (1000 * (n + s.step - off) - 1) / (1000 + gain) = qh at b2 ⊢
  rcases Int.lt_or_le 0 (-ql) with m1 | m1 <;> rcases Int.lt_or_le qh 1000000 with m2 | m2
  all_goals
    go_enter Tryz.func200, Tryz.ntmps200
    go_wp2_with fail
    refine wp_region_ext_tail 22 (by kernel_rfl) (by kernel_rfl) ?_
    simp only [List.take_succ_cons, List.take_zero, List.drop_succ_cons, List.drop_zero]
    repeat (go_big_quiet_step ((go_at_call 247; first | exact Calls.in_ext_eq (scale_down_any _ _ _ ⟨by omega, by omega⟩ (by omega)) (congrArg (Value.int .i64) hql) | exact Calls.in_ext_eq (scale_down_any _ _ _ ⟨by omega, by omega⟩ (by omega)) (congrArg (Value.int .i64) hqh))))
    refine wpQuiet_nil ?_
    rintro _ ⟨X, rfl⟩
    go_wp2_with fail
    refine bodyPost_ret (v := .agg #[.int .i64 (max 0 (-ql)), .int .i64 (min 1000000 qh)]) (by simp [results, Tryz.results200, go_sem] <;> omega) rfl ?_
    exact ⟨rfl, exq⟩

/-- The reference's weights. -/
def wtR (step gain off n : Int) : Span := if 1000 * (n + step - off) - 1 < 0 then ⟨1, 0⟩ else ⟨(max (1000 * (n - off)) 0 + (1000 + gain) - 1) / (1000 + gain), min ((1000 * (n + step - off) - 1) / (1000 + gain)) 1000000⟩
theorem wtR_eq {step gain off n : Int} (hg : -10 ≤ gain ∧ gain ≤ 10) : ((wtR step gain off n).lo ≤ (wtR step gain off n).hi ↔ (wt step gain off n).lo ≤ (wt step gain off n).hi) ∧ ((wt step gain off n).lo ≤ (wt step gain off n).hi → wtR step gain off n = wt step gain off n) := by
  have hb : 0 < 1000 + gain := by omega
  have e1 : -(-1000 * (n - off) / (1000 + gain)) = (1000 * (n - off) + (1000 + gain) - 1) / (1000 + gain) := by
    have := floor_ceil (-1000 * (n - off)) (1000 + gain) hb
    rw [this, Int.neg_neg]
    congr 1; omega
  unfold wtR wt
  by_cases hh : 1000 * (n + step - off) - 1 < 0
  · rw [if_pos hh]
    have h2 : (1000 * (n + step - off) - 1) / (1000 + gain) < 0 := Int.ediv_neg_of_neg_of_pos hh hb
    simp only
    constructor
    · constructor <;> intro h <;> omega
    · intro h; omega
  · rw [if_neg hh, e1]
    have e2 : (max (1000 * (n - off)) 0 + (1000 + gain) - 1) / (1000 + gain) = max 0 ((1000 * (n - off) + (1000 + gain) - 1) / (1000 + gain)) := by
      by_cases hc : 0 ≤ 1000 * (n - off)
      · rw [Int.max_eq_left hc]
        have : 0 ≤ (1000 * (n - off) + (1000 + gain) - 1) / (1000 + gain) := Int.ediv_nonneg (by omega) (by omega)
        omega
      · rw [Int.max_eq_right (by omega)]
        have h1 : (0 + (1000 + gain) - 1) / (1000 + gain) = 0 := Int.ediv_eq_zero_of_lt (by omega) (by omega)
        have h2 : (1000 * (n - off) + (1000 + gain) - 1) / (1000 + gain) ≤ 0 := by
          have := Int.ediv_le_ediv hb (show 1000 * (n - off) + (1000 + gain) - 1 ≤ 0 + (1000 + gain) - 1 by omega)
          omega
        rw [h1]; omega
    rw [e2, Int.min_comm]
    exact ⟨Iff.rfl, fun _ => rfl⟩
theorem wtR_bound {step gain off n : Int} (hg : -10 ≤ gain ∧ gain ≤ 10) (ho : -100 ≤ off ∧ off ≤ 100) (hn : -2000000 ≤ n ∧ n ≤ 2000000) : 0 ≤ (wtR step gain off n).lo ∧ (wtR step gain off n).lo ≤ 9000000000 ∧ 0 ≤ (wtR step gain off n).hi ∧ (wtR step gain off n).hi ≤ 1000000 := by
  unfold wtR
  split
  · simp
  · have b1 := ediv_bounds (a := max (1000 * (n - off)) 0 + (1000 + gain) - 1) (b := 1000 + gain) (m := 9000000000) (by omega) (by omega) (by omega) (by omega)
    have h1 : 0 ≤ (max (1000 * (n - off)) 0 + (1000 + gain) - 1) / (1000 + gain) := Int.ediv_nonneg (by omega) (by omega)
    have h2 : 0 ≤ (1000 * (n + step - off) - 1) / (1000 + gain) := Int.ediv_nonneg (by omega) (by omega)
    simp only
    omega

set_option maxHeartbeats 1000000 in
theorem r04_Weights_any (s : Scale) (tv : Value) (gain off n : Int) (w : World) (hs : 1 ≤ s.step ∧ s.step ≤ 500) (hg : -10 ≤ gain ∧ gain ≤ 10) (ho : -100 ≤ off ∧ off ≤ 100) (hn : -2000000 ≤ n ∧ n ≤ 2000000) :
    Calls Tryz.prog 206 #[.agg #[.int .i64 s.id, .int .i64 s.step, .int .i64 s.gain.lo, .int .i64 s.gain.hi, .int .i64 s.off.lo, .int .i64 s.off.hi, tv], .int .i64 gain, .int .i64 off, .int .i64 n] w fun e w' => e = .returned (.agg #[.int .i64 (wtR s.step gain off n).lo, .int .i64 (wtR s.step gain off n).hi]) ∧ w.Exts w' := by
  unfold wtR
  rcases Int.lt_or_le (1000 * (n + s.step - off) - 1) 0 with hh | hh
  · rw [if_pos hh]
    go_enter Tryz.func206, Tryz.ntmps206
    go_wp2_with fail
    refine wp_region_ext (by kernel_rfl) (by kernel_rfl) ?_
    repeat (go_big_quiet_step (fail))
    refine wpQuiet_nil ?_
    rintro _ ⟨X, rfl⟩
    go_wp2_with fail
    refine bodyPost_ret (v := .agg #[.int .i64 1, .int .i64 0]) (by simp [results, Tryz.results206, go_sem]) rfl ?_
    exact ⟨rfl, exq⟩
  · rw [if_neg (by omega)]
    have b1 := ediv_bounds (a := max (1000 * (n - off)) 0 + (1000 + gain) - 1) (b := 1000 + gain) (m := 9000000000) (by omega) (by omega) (by omega) (by omega)
    have b2 := ediv_bounds (a := 1000 * (n + s.step - off) - 1) (b := 1000 + gain) (m := 9000000000) (by omega) (by omega) (by omega) (by omega)
    have b3 : 0 < 1000 + gain := by omega
    rcases Int.lt_or_le (1000 * (n - off)) 0 with m1 | m1
    · rw [Int.max_eq_right (by omega), Int.zero_add]
      rcases Int.lt_or_le 1000000 ((1000 * (n + s.step - off) - 1) / (1000 + gain)) with m2 | m2
      all_goals
        go_enter Tryz.func206, Tryz.ntmps206
        go_wp2_with fail
        refine wp_region_ext (by kernel_rfl) (by kernel_rfl) ?_
        repeat (go_big_quiet_step (fail))
        refine wpQuiet_nil ?_
        rintro _ ⟨X, rfl⟩
        go_wp2_with fail
        refine wp_region_ext_tail 12 (by kernel_rfl) (by kernel_rfl) ?_
        simp only [List.take_succ_cons, List.take_zero, List.drop_succ_cons, List.drop_zero]
        repeat (go_big_quiet_step (fail))
        refine wpQuiet_nil ?_
        rintro _ ⟨X, rfl⟩
        go_wp2_with fail
        refine bodyPost_ret (v := .agg #[.int .i64 ((1000 + gain - 1) / (1000 + gain)), .int .i64 (min ((1000 * (n + s.step - off) - 1) / (1000 + gain)) 1000000)]) (by simp [results, Tryz.results206, go_sem] <;> omega) rfl ?_
        exact ⟨rfl, exq⟩
    · rw [Int.max_eq_left (by omega)]
      rcases Int.lt_or_le 1000000 ((1000 * (n + s.step - off) - 1) / (1000 + gain)) with m2 | m2
      all_goals
        go_enter Tryz.func206, Tryz.ntmps206
        go_wp2_with fail
        refine wp_region_ext (by kernel_rfl) (by kernel_rfl) ?_
        repeat (go_big_quiet_step (fail))
        refine wpQuiet_nil ?_
        rintro _ ⟨X, rfl⟩
        go_wp2_with fail
        refine wp_region_ext_tail 12 (by kernel_rfl) (by kernel_rfl) ?_
        simp only [List.take_succ_cons, List.take_zero, List.drop_succ_cons, List.drop_zero]
        repeat (go_big_quiet_step (fail))
        refine wpQuiet_nil ?_
        rintro _ ⟨X, rfl⟩
        go_wp2_with fail
        refine bodyPost_ret (v := .agg #[.int .i64 ((1000 * (n - off) + (1000 + gain) - 1) / (1000 + gain)), .int .i64 (min ((1000 * (n + s.step - off) - 1) / (1000 + gain)) 1000000)]) (by simp [results, Tryz.results206, go_sem] <;> omega) rfl ?_
        exact ⟨rfl, exq⟩
end Go.Proofs.YtilmniopollbiaaGreatDoor

/-
  Walks of the reference of layer 4: all truths of a scale with loads.
-/
namespace Go.Proofs.YtilmniopollbiaaGreatDoor
open Go.RowKit Kr

theorem elem_part : ElemOf Tryz.prog 237 286 (.agg #[.int .i64 0, .int .i64 0, .int .i64 0, .int .i64 0]) 4 32 := ⟨Tryz.underlying237, by kernel_rfl, rfl, by decide, by decide⟩
def partCs (l : List Part) : List Value := l.flatMap fun t => [.int .i64 t.gain, .int .i64 t.off, .int .i64 t.sum.lo, .int .i64 t.sum.hi]
theorem ownsRow_down {w : World} {base base' size n : Nat} {e : TypeId} {v : Value} {xs : List Value} (h : w.ownsRow base e size v n xs) (hb : base' ≤ base) : w.ownsRow base' e size v n xs :=
  ⟨h.1, h.2.elim Or.inl (fun ⟨g, cap, cur, hv, hg, r⟩ => Or.inr ⟨g, cap, cur, hv, Nat.le_trans hb hg, r⟩)⟩
theorem row_parts {w : World} {base : Nat} {e : TypeId} {v : Value} {l : List Part} (h : w.ownsRow base e 4 v l.length (partCs l)) : IsRow (fun t : Kr.Part => [.int .i64 t.gain, .int .i64 t.off, .int .i64 t.sum.lo, .int .i64 t.sum.hi]) 4 w v l :=
  IsRow.of_owns h (fun _ _ => rfl)
theorem addLoad_other {s : Scale} {gain off : Int} {x : Option Span} {l : Load} (h : (l.scale == s.id) = false) : addLoad s gain off x l = x := by
  unfold addLoad; rw [if_neg (by simpa using h)]
theorem fold_snoc {s : Scale} {gain off : Int} {ls : List Load} {j : Nat} {l : Load} (h : ls[j]? = some l) (x : Option Span) : (ls.take (j + 1)).foldl (addLoad s gain off) x = addLoad s gain off ((ls.take j).foldl (addLoad s gain off) x) l := by
  rw [take_snoc h, List.foldl_append]; rfl
theorem parts_yes {s : Scale} {gain lo : Int} {ls : List Load} {m : Nat} {x : Span} (h : ls.foldl (addLoad s gain (lo + m)) (some ⟨0, 0⟩) = some x) : partsN s ls gain lo (m + 1) = partsN s ls gain lo m ++ [⟨gain, lo + m, x⟩] := by
  rw [partsN]; unfold Kr.partAt partSum; rw [h]
theorem parts_no {s : Scale} {gain lo : Int} {ls : List Load} {m : Nat} (h : ls.foldl (addLoad s gain (lo + m)) (some ⟨0, 0⟩) = none) : partsN s ls gain lo (m + 1) = partsN s ls gain lo m := by
  rw [partsN]; unfold Kr.partAt partSum; rw [h]; simp

theorem addLoad_miss {s : Scale} {gain off : Int} {x : Option Span} {l : Load} (h : (l.scale == s.id) = true) (hg : -10 ≤ gain ∧ gain ≤ 10) (hb : (wtR s.step gain off l.shown).hi < (wtR s.step gain off l.shown).lo ∨ x = none) : addLoad s gain off x l = none := by
  have hq := (wtR_eq (step := s.step) (off := off) (n := l.shown) hg).1
  unfold addLoad
  rw [if_pos (by simpa using h)]
  cases x with
  | none => rfl
  | some x =>
    simp only
    rw [if_neg (fun hc => ?_)]
    rcases hb with hb | hb
    · have := hq.2 hc; omega
    · cases hb
theorem addLoad_hit {s : Scale} {gain off : Int} {x : Span} {l : Load} (h : (l.scale == s.id) = true) (hg : -10 ≤ gain ∧ gain ≤ 10) (hb : (wtR s.step gain off l.shown).lo ≤ (wtR s.step gain off l.shown).hi) :
    addLoad s gain off (some x) l = some ⟨x.lo + (wtR s.step gain off l.shown).lo, x.hi + (wtR s.step gain off l.shown).hi⟩ := by
  have hq := wtR_eq (step := s.step) (off := off) (n := l.shown) hg
  rw [hq.2 (hq.1.1 hb)]
  unfold addLoad
  rw [if_pos (by simpa using h)]
  simp only
  rw [if_pos (hq.1.1 hb)]

set_option maxRecDepth 4000 in
set_option maxHeartbeats 4000000 in
theorem r04_parts_own (s : Scale) (tv : Value) (g : Gear) (lv rv sv : Value) (w : World) (hrow : IsRow (fun t : Kr.Trial => [.int .i64 t.weight, .int .i64 t.shown]) 2 w tv s.trials) (hr : right s = true) (hg : GearAt w (g, lv, rv, sv)) (h6 : g.loads.length ≤ 6)
    (hsh : ∀ l ∈ g.loads, l.scale = s.id → -2000000 ≤ l.shown ∧ l.shown ≤ 2000000) :
    Calls Tryz.prog 168 #[.agg #[.int .i64 s.id, .int .i64 s.step, .int .i64 s.gain.lo, .int .i64 s.gain.hi, .int .i64 s.off.lo, .int .i64 s.off.hi, tv], .agg #[lv, .int .i64 g.added, .int .i64 g.base, .int .i64 g.jitter, rv, sv, .int .i64 g.spread, .bool g.stamp]] w fun e w' => ∃ v, e = .returned v ∧ w'.ownsRow w.heap.size 286 4 v (parts s g.loads).length (partCs (parts s g.loads)) ∧ w.Exts w' := by
  obtain ⟨p, cap, rfl⟩ := hrow.len
  have hl1 := hg.l
  have hl2 := hg.r
  have hl3 := hg.s
  dsimp only at hl1 hl2 hl3
  obtain ⟨p1, b1, o1, cap1, rfl, hm1, hp1, hc1⟩ := hl1.ex
  obtain ⟨p2, cap2, rfl⟩ := hl2.len
  obtain ⟨p3, cap3, rfl⟩ := hl3.len
  have hst := (right_bounds hr).2.1
  have htb := tunes_bound hr
  have hlen2 := tunesN_len s s.gain.lo (gainN s)
  have hlen3 := gainN_le hr
  have HR := Lib.hid hrow
  clear hrow
  have HOK := Lib.hid hr
  clear hr
  have HC1 := Lib.hid hc1
  clear hc1
  have HP1 := Lib.hid hp1
  clear hp1
  have HSH := Lib.hid hsh
  clear hsh
  have HTB := Lib.hid htb
  clear htb
  clear hg hl1 hl2 hl3
  go_enter Tryz.func168, Tryz.ntmps168
  go_wp2_with (go_at_call 205; refine (r04_tunes_any s _ _ (HR.out.mono exq) HOK.out).mono ?_; rintro e w' ⟨v, rfl, ho, X3, rfl⟩; have hrw := row_tunes ho; obtain ⟨q, bt, ot, cp, rfl, hmt, hpt, hct⟩ := hrw.ex; have HCT := Lib.hid hct; have HPT := Lib.hid hpt; clear ho hrw hct hpt)
  go_loopw [5, 7] (fun out i wr => ∃ k : Nat, k ≤ (tunes s).length ∧ i = .int .i64 k ∧ Hid (wr.ownsRow (World.ext _ X3).heap.size 286 4 out (partsL s g.loads ((tunes s).take k)).length (partCs (partsL s g.loads ((tunes s).take k)))) ∧ (World.ext _ X3).Exts wr) (fun _ i _ => (tunes s).length - (intOf i).toNat)
  case atStart => exact ⟨0, Nat.zero_le _, rfl, Lib.hid (World.ownsRow_nil _ _ _ _), exq⟩
  case round =>
    obtain ⟨k, hk, rfl, HO, X, rfl⟩ := hrel
    by_cases hlt : k < (tunes s).length
    · obtain ⟨rfl, hlt1⟩ := HPT.out (by omega)
      obtain ⟨t, ht⟩ := some_of_lt hlt
      have hcs := HCT.out k t ht
      have c0 := hcs 0 _ rfl
      have c1 := hcs 1 _ rfl
      have c2 := hcs 2 _ rfl
      simp only [Nat.add_zero] at c0 c1 c2
      obtain ⟨hb1, hb2, hb3, _, _, hb4, _, _⟩ := HTB.out t (List.mem_of_getElem? ht)
      have hnextk : partsL s g.loads ((tunes s).take (k + 1)) = partsL s g.loads ((tunes s).take k) ++ partsN s g.loads t.gain t.off.lo (offN t) := by rw [take_snoc ht]; unfold partsL; rw [List.flatMap_append]; simp [partsT]
      have hlenk : (partsL s g.loads ((tunes s).take k)).length ≤ 201 * k := by
        have h := partsL_len s g.loads ((tunes s).take k) (fun t ht => by have := HTB.out t (List.mem_of_mem_take ht); omega)
        rw [List.length_take] at h; omega
      have HNK := Lib.hid hnextk
      clear hnextk
      have HLK := Lib.hid hlenk
      clear hlenk
      clear ht hcs HPT
      go_wp2_with fail
      go_loopw [5, 8] (fun out off wr => ∃ m : Nat, m ≤ offN t ∧ off = .int .i64 (t.off.lo + m) ∧ Hid (wr.ownsRow (World.ext _ X3).heap.size 286 4 out (partsL s g.loads ((tunes s).take k) ++ partsN s g.loads t.gain t.off.lo m).length (partCs (partsL s g.loads ((tunes s).take k) ++ partsN s g.loads t.gain t.off.lo m))) ∧ (World.ext _ X3).Exts wr) (fun _ off _ => (t.off.hi + 1 - intOf off).toNat)
      case atStart => exact ⟨0, Nat.zero_le _, congrArg (Value.int .i64) (by omega), Lib.hid (by simpa [partsN] using HO.out), exq⟩
      case round =>
        obtain ⟨m, hm, rfl, HO2, hE2⟩ := hrel
        obtain ⟨X2, rfl⟩ := hE2
        by_cases hlt2 : t.off.lo + m ≤ t.off.hi
        · go_wp2_with fail
          go_loopw [10, 11] (fun can kk wr => ∃ (j : Nat) (b : Bool) (lo hi : Int), j ≤ g.loads.length ∧ kk = .int .i64 j ∧ can = .bool b ∧ Hid ((g.loads.take j).foldl (addLoad s t.gain (t.off.lo + m)) (some ⟨0, 0⟩) = if b then some ⟨lo, hi⟩ else none) ∧ (0 ≤ lo ∧ lo ≤ 9000000000 * j) ∧ (0 ≤ hi ∧ hi ≤ 9000000000 * j) ∧ (World.ext _ X2).Exts wr ∧ Lays wr (World.ext _ X2).heap.size ∧
            wr.cell? ⟨(World.ext _ X2).heap.size, 0, none⟩ = some (.int .i64 t.gain) ∧ wr.cell? ⟨(World.ext _ X2).heap.size, 1, none⟩ = some (.int .i64 (t.off.lo + m)) ∧ wr.cell? ⟨(World.ext _ X2).heap.size, 2, none⟩ = some (.int .i64 lo) ∧ wr.cell? ⟨(World.ext _ X2).heap.size, 3, none⟩ = some (.int .i64 hi) ∧
            wr.frozen? ⟨(World.ext _ X2).heap.size, 2, none⟩ = false ∧ wr.frozen? ⟨(World.ext _ X2).heap.size, 3, none⟩ = false) (fun _ kk _ => g.loads.length - (intOf kk).toNat)
          case atStart => exact ⟨0, true, 0, 0, Nat.zero_le _, rfl, rfl, rfl, by omega, by omega, exq, lays_new _ _, by simp, by simp, by simp, by simp, by simp, by simp⟩
          case round =>
            obtain ⟨j, b, lo, hi, hj, rfl, rfl, HF, hlo, hhi, hE4, hlay, e0, e1, e2, e3, f2, f3⟩ := hrel
            obtain ⟨X4, rfl⟩ := hE4
            by_cases hlt3 : j < g.loads.length
            · obtain ⟨rfl, hlp1⟩ := HP1.out (by omega)
              obtain ⟨ld, hld⟩ := some_of_lt hlt3
              have hcl := HC1.out j ld hld
              have a0 := hcl 0 _ rfl
              have a1 := hcl 1 _ rfl
              simp only [Nat.add_zero] at a0 a1
              have hsn := fold_snoc (s := s) (gain := t.gain) (off := t.off.lo + m) hld (some ⟨0, 0⟩)
              rw [HF.out] at hsn
              have hshown := HSH.out ld (List.mem_of_getElem? hld)
              have HSN := Lib.hid hsn
              clear hsn
              clear hcl hld HP1
              cases hq : ld.scale == s.id
              · have hq2 : (ld.scale != s.id) = true := by simp [bne, hq]
                have hnx := HSN.out
                rw [addLoad_other hq] at hnx
                have HNX := Lib.hid hnx
                clear hnx
                clear hq hshown
                go_wp2_with fail
                refine wp_region_ext (by kernel_rfl) (by kernel_rfl) ?_
                repeat (go_big_quiet_step (fail))
                refine wpQuiet_nil ?_
                rintro _ ⟨X, rfl⟩
                go_wp2_with fail
                go_roundw
                case rel => exact ⟨j + 1, b, lo, hi, by omega, by go_num, rfl, Lib.hid HNX.out, by omega, by omega, exq, inferInstance, by simp [go_sem, e0], by simp [go_sem, e1], by simp [go_sem, e2], by simp [go_sem, e3], by simp [go_sem, f2], by simp [go_sem, f3]⟩
                case measure => simp [intOf]; omega
              · have hq2 : (ld.scale != s.id) = false := by simp [bne, hq]
                have hsb := hshown (by simpa using hq)
                have hwb := wtR_bound (step := s.step) (n := ld.shown) (off := t.off.lo + m) (gain := t.gain) hb1 (by omega) hsb
                have hyes : b = true → (wtR s.step t.gain (t.off.lo + m) ld.shown).lo ≤ (wtR s.step t.gain (t.off.lo + m) ld.shown).hi → (g.loads.take (j + 1)).foldl (addLoad s t.gain (t.off.lo + m)) (some ⟨0, 0⟩) = some ⟨lo + (wtR s.step t.gain (t.off.lo + m) ld.shown).lo, hi + (wtR s.step t.gain (t.off.lo + m) ld.shown).hi⟩ := fun h1 h2 => by
                  rw [HSN.out, h1]; exact addLoad_hit hq hb1 h2
                have hno : (b = false ∨ (wtR s.step t.gain (t.off.lo + m) ld.shown).hi < (wtR s.step t.gain (t.off.lo + m) ld.shown).lo) → (g.loads.take (j + 1)).foldl (addLoad s t.gain (t.off.lo + m)) (some ⟨0, 0⟩) = none := fun h1 => by
                  rw [HSN.out]; refine addLoad_miss hq hb1 ?_
                  rcases h1 with h1 | h1
                  · right; rw [h1]; rfl
                  · left; exact h1
                generalize hwr : wtR s.step t.gain (t.off.lo + m) ld.shown = x at hwb hyes hno
                have HWR := Lib.hid hwr
                clear hwr
                have HYES := Lib.hid hyes
                clear hyes
                have HNO := Lib.hid hno
                clear hno
                clear hq hshown
                go_wp2_with fail
                refine wp_region_ext (by kernel_rfl) (by kernel_rfl) ?_
                repeat (go_big_quiet_step (fail))
                refine wpQuiet_nil ?_
                rintro _ ⟨X, rfl⟩
                go_wp2_with fail
                refine wp_region_alloc 15 14 _ (.cells #[.int .i64 0, .int .i64 0] 28) (by kernel_rfl) (fun pp => by kernel_rfl) (by kernel_rfl) rfl rfl rfl (by decide) (fun a W => by kernel_rfl) ?_
                apply Exists.intro
                refine ⟨fun pp hpp T hT L hL => ?_, fun pp => ?_, fun pp Wp hpp hEp hop => ?_⟩
                · haveI := hT.2
                  simp only [mvOp, List.set_cons_succ, List.set_cons_zero, List.take_succ_cons, List.take_zero]
                  repeat (go_big_quiet_step ((go_at_call 206; exact Calls.in_extT_eq hT (r04_Weights_any s _ _ _ _ _ hst hb1 (by omega) hsb) (by rw [HWR.out]))))
                  exact wpQuiet_nil hL
                · rfl
                simp only [List.drop_succ_cons, List.drop_zero]
                obtain ⟨X5, rfl⟩ := hEp
                have p0 := cells_block (cs := [.int .i64 0, .int .i64 0]) hop 0 _ rfl
                have p1 := cells_block (cs := [.int .i64 0, .int .i64 0]) hop 1 _ rfl
                have q0 := block_frozen (i := 0) hop
                have q1 := block_frozen (i := 1) hop
                haveI := Lays.of_cell p0
                have hB9 : (World.ext _ X2).heap.size < pp := Nat.lt_of_lt_of_le Lays.lt hpp
                haveI : Differ pp (World.ext _ X2).heap.size := ⟨by omega⟩
                haveI : Differ (World.ext _ X2).heap.size pp := ⟨by omega⟩
                clear hop hpp
                cases b
                · go_wp2_with fail
                  go_roundw
                  case rel => exact ⟨j + 1, false, lo + x.lo, hi + x.hi, by omega, by go_num, rfl, Lib.hid (HNO.out (.inl rfl)), by omega, by omega, exq, inferInstance, by simp [go_sem, e0], by simp [go_sem, e1], by simp [go_sem, e2], by simp [go_sem, e3], by simp [go_sem, f2], by simp [go_sem, f3]⟩
                  case measure => simp [intOf]; omega
                · rcases Int.lt_or_le x.hi x.lo with hx | hx
                  · have hdx : decide (x.lo ≤ x.hi) = false := by simp; omega
                    go_wp2_with fail
                    go_roundw
                    case rel => exact ⟨j + 1, false, lo + x.lo, hi + x.hi, by omega, by go_num, rfl, Lib.hid (HNO.out (.inr hx)), by omega, by omega, exq, inferInstance, by simp [go_sem, e0], by simp [go_sem, e1], by simp [go_sem, e2], by simp [go_sem, e3], by simp [go_sem, f2], by simp [go_sem, f3]⟩
                    case measure => simp [intOf]; omega
                  · have hdx : decide (x.lo ≤ x.hi) = true := by simpa using hx
                    go_wp2_with fail
                    go_roundw
                    case rel => exact ⟨j + 1, true, lo + x.lo, hi + x.hi, by omega, by go_num, rfl, Lib.hid (HYES.out rfl hx), by omega, by omega, exq, inferInstance, by simp [go_sem, e0], by simp [go_sem, e1], by simp [go_sem, e2], by simp [go_sem, e3], by simp [go_sem, f2], by simp [go_sem, f3]⟩
                    case measure => simp [intOf]; omega
            · have hjn : j = g.loads.length := by omega
              have hF := HF.out
              rw [hjn, List.take_length] at hF
              have HF2 := Lib.hid hF
              clear hF
              clear hjn
              cases b
              · have hnx := parts_no HF2.out
                have HNX := Lib.hid hnx
                clear hnx
                go_wp2_with fail
                go_roundw
                case rel => exact ⟨m + 1, by unfold offN; omega, congrArg (Value.int .i64) (by omega), Lib.hid (by rw [HNX.out]; exact ownsRow_exts HO2.out exq), exq⟩
                case measure => simp [intOf]; omega
              · have hnx := parts_yes HF2.out
                have HNX := Lib.hid hnx
                clear hnx
                have hlp := partsN_len s g.loads t.gain t.off.lo m
                have hoN : offN t ≤ 201 := by unfold offN; omega
                have hlen4 : (partsL s g.loads ((tunes s).take k) ++ partsN s g.loads t.gain t.off.lo m).length ≤ 10000000 := by
                  have := HLK.out
                  rw [List.length_append]; unfold tunes at hk hlt; omega
                have hown := ownsRow_exts (W := World.ext _ X4) HO2.out exq
                have HOW := Lib.hid hown
                clear hown
                go_wp2_with (at_builtin; refine wpList_append1 (.tmp 98) (.tmp 100) elem_part rfl rfl rfl HOW.out [.int .i64 t.gain, .int .i64 (t.off.lo + m), .int .i64 lo, .int .i64 hi] _ rfl rfl rfl ?h1 ?h2 ?h3 ?_)
                case h1 => exact ⟨rfl, rfl, rfl, rfl⟩
                case h2 => (rw [List.length_append] at hlen4; first | omega | (rw [List.length_append]; omega))
                case h3 => exact World.Exts.size exq
                intro v' w' hown' happ
                have hE := happ.exts (World.ext _ X3) exq (Nat.le_refl _)
                have HO3 := Lib.hid hown'
                clear hown'
                have HE := Lib.hid hE
                clear hE
                clear happ
                go_wp2_with fail
                go_roundw
                case rel => exact ⟨m + 1, by unfold offN; omega, congrArg (Value.int .i64) (by omega), Lib.hid (by rw [HNX.out, ← List.append_assoc, List.length_append]; simpa [partCs] using HO3.out), HE.out⟩
                case measure => simp [intOf]; omega
        · have hmn : m = offN t := by unfold offN at hm ⊢; omega
          have hO := HO2.out
          rw [hmn, ← HNK.out] at hO
          have HO3 := Lib.hid hO
          clear hO
          clear hmn
          go_wp2_with fail
          go_roundw
          case rel => exact ⟨k + 1, by omega, by go_num, Lib.hid HO3.out, exq⟩
          case measure => simp [intOf]; omega
    · have hkn : k = (tunes s).length := by omega
      have hO := HO.out
      rw [hkn, List.take_length] at hO
      have HO3 := Lib.hid hO
      clear hO
      clear hkn
      go_wp2_with fail
      go_ret
      exact ⟨_, rfl, ownsRow_down HO3.out (World.Exts.size exq), exq⟩
theorem r04_parts_any (s : Scale) (tv : Value) (g : Gear) (lv rv sv : Value) (w : World) (hrow : IsRow (fun t : Kr.Trial => [.int .i64 t.weight, .int .i64 t.shown]) 2 w tv s.trials) (hr : right s = true) (hg : GearAt w (g, lv, rv, sv)) (h6 : g.loads.length ≤ 6)
    (hsh : ∀ l ∈ g.loads, l.scale = s.id → -2000000 ≤ l.shown ∧ l.shown ≤ 2000000) :
    Calls Tryz.prog 168 #[.agg #[.int .i64 s.id, .int .i64 s.step, .int .i64 s.gain.lo, .int .i64 s.gain.hi, .int .i64 s.off.lo, .int .i64 s.off.hi, tv], .agg #[lv, .int .i64 g.added, .int .i64 g.base, .int .i64 g.jitter, rv, sv, .int .i64 g.spread, .bool g.stamp]] w fun e w' => ∃ v, e = .returned v ∧ IsRow (fun t : Kr.Part => [.int .i64 t.gain, .int .i64 t.off, .int .i64 t.sum.lo, .int .i64 t.sum.hi]) 4 w' v (parts s g.loads) ∧ w.Exts w' :=
  (r04_parts_own s tv g lv rv sv w hrow hr hg h6 hsh).mono fun _ _ ⟨v, h1, h2, h3⟩ => ⟨v, h1, row_parts h2, h3⟩
end Go.Proofs.YtilmniopollbiaaGreatDoor
