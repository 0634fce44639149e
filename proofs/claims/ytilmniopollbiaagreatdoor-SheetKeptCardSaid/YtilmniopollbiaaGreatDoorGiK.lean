/-
  Several texts in one: see the heads of its parts.
-/
import Derived.Test.YtilmniopollbiaaGreatDoorGaI
import Derived.Test.YtilmniopollbiaaGreatDoorGcH
import Derived.Test.YtilmniopollbiaaGreatDoorScDT
import Derived.Test.YtilmniopollbiaaGreatDoorSa
import Derived.Test.YtilmniopollbiaaGreatDoorRx
import Derived.Test.YtilmniopollbiaaGreatDoorPl
import Derived.Deep.MidRow
import Derived.Deep.WholeRow

/-
  Walks of the reference of guests: gear that has nothing.
-/
namespace Go.Proofs.YtilmniopollbiaaGreatDoor
open Go.RowKit Kr
set_option linter.unusedSimpArgs false
set_option linter.unusedVariables false

set_option maxHeartbeats 400000 in
theorem r04_SameInts_none (l : List Int) (v : Value) (w : World) (hrow : IsRow (fun x : Int => [.int .i64 x]) 1 w v l) :
    Calls Tryz.prog 55 #[v, .slice none 0 0] w fun e w' => e = .returned (.bool (decide (l = []))) ∧ w.Exts w' := by
  by_cases h : l = []
  · subst h
    exact r04_SameInts_any [] v _ w hrow (IsRow.nil w)
  · have h0 : ¬ (l.length : Int) = 0 := fun e => h (List.eq_nil_of_length_eq_zero (by omega))
    have hd : decide (l = []) = false := by simpa using h
    rw [hd]
    obtain ⟨q, c, rfl⟩ := hrow.len
    clear hrow
    go_enter Tryz.func55, Tryz.ntmps55
    go_wp2_with fail
    go_ret
    exact ⟨rfl, exq⟩

set_option maxHeartbeats 2000000 in
theorem r04_SameGear_none (g : Gear) (lv rv sv : Value) (w : World) (hg : GearAt w (g, lv, rv, sv)) :
    Calls Tryz.prog 21 #[.agg #[lv, .int .i64 g.added, .int .i64 g.base, .int .i64 g.jitter, rv, sv, .int .i64 g.spread, .bool g.stamp], .agg #[.slice none 0 0, .int .i64 0, .int .i64 0, .int .i64 0, .slice none 0 0, .slice none 0 0, .int .i64 0, .bool false]] w fun e w' => e = .returned (.bool (decide (g = noGear))) ∧ w.Exts w' := by
  by_cases h : g = noGear
  · subst h
    exact r04_SameGear_any noGear lv rv sv _ _ _ w hg ⟨IsRow.nil w, IsRow.nil w, IsRow.nil w, ⟨by decide, by decide⟩, fun l hl => by cases hl⟩
  · have hfin : decide (g = noGear) = false := by simpa using h
    have hl := hg.l
    have hr := hg.r
    have hs := hg.s
    dsimp only at hl hr hs
    obtain ⟨q1, c1, rfl⟩ := hl.len
    obtain ⟨q2, c2, rfl⟩ := hr.len
    obtain ⟨q3, c3, rfl⟩ := hs.len
    obtain ⟨ls, ad, ba, ji, rs, ss, sp, st⟩ := g
    dsimp only at hr hs hfin h
    obtain ⟨b5, hb5⟩ : ∃ b, decide (rs = []) = b := ⟨_, rfl⟩
    obtain ⟨b6, hb6⟩ : ∃ b, decide (ss = []) = b := ⟨_, rfl⟩
    have HFIN := Lib.hid hfin
    clear hfin
    have HR1 := Lib.hid hr
    clear hr
    have HS1 := Lib.hid hs
    clear hs
    have C5 := Lib.hid hb5
    clear hb5
    have C6 := Lib.hid hb6
    clear hb6
    clear hl hg
    by_cases k1 : ls = []
    case neg =>
      have k0 : ¬ (ls.length : Int) = 0 := fun e => k1 (List.eq_nil_of_length_eq_zero (by omega))
      go_enter Tryz.func21, Tryz.ntmps21
      go_wp2_with (first
        | (go_at_call 55; ((with_reducible refine (r04_SameInts_none rs _ _ (HR1.out.mono exq)).mono ?_); rintro e w' ⟨rfl, X0, rfl⟩; rw [C5.out]))
        | (go_at_call 55; ((with_reducible refine (r04_SameInts_none ss _ _ (HS1.out.mono exq)).mono ?_); rintro e w' ⟨rfl, X1, rfl⟩; rw [C6.out])))
      go_ret
      rw [HFIN.out]
      exact ⟨rfl, exq⟩
    subst k1
    by_cases k2 : ad = 0
    case neg =>
      go_enter Tryz.func21, Tryz.ntmps21
      go_wp2_with (first
        | (go_at_call 55; ((with_reducible refine (r04_SameInts_none rs _ _ (HR1.out.mono exq)).mono ?_); rintro e w' ⟨rfl, X0, rfl⟩; rw [C5.out]))
        | (go_at_call 55; ((with_reducible refine (r04_SameInts_none ss _ _ (HS1.out.mono exq)).mono ?_); rintro e w' ⟨rfl, X1, rfl⟩; rw [C6.out])))
      go_ret
      rw [HFIN.out]
      exact ⟨rfl, exq⟩
    by_cases k3 : ba = 0
    case neg =>
      go_enter Tryz.func21, Tryz.ntmps21
      go_wp2_with (first
        | (go_at_call 55; ((with_reducible refine (r04_SameInts_none rs _ _ (HR1.out.mono exq)).mono ?_); rintro e w' ⟨rfl, X0, rfl⟩; rw [C5.out]))
        | (go_at_call 55; ((with_reducible refine (r04_SameInts_none ss _ _ (HS1.out.mono exq)).mono ?_); rintro e w' ⟨rfl, X1, rfl⟩; rw [C6.out])))
      go_ret
      rw [HFIN.out]
      exact ⟨rfl, exq⟩
    by_cases k4 : ji = 0
    case neg =>
      go_enter Tryz.func21, Tryz.ntmps21
      go_wp2_with (first
        | (go_at_call 55; ((with_reducible refine (r04_SameInts_none rs _ _ (HR1.out.mono exq)).mono ?_); rintro e w' ⟨rfl, X0, rfl⟩; rw [C5.out]))
        | (go_at_call 55; ((with_reducible refine (r04_SameInts_none ss _ _ (HS1.out.mono exq)).mono ?_); rintro e w' ⟨rfl, X1, rfl⟩; rw [C6.out])))
      go_ret
      rw [HFIN.out]
      exact ⟨rfl, exq⟩
    cases b5
    case false =>
      go_enter Tryz.func21, Tryz.ntmps21
      go_wp2_with (first
        | (go_at_call 55; ((with_reducible refine (r04_SameInts_none rs _ _ (HR1.out.mono exq)).mono ?_); rintro e w' ⟨rfl, X0, rfl⟩; rw [C5.out]))
        | (go_at_call 55; ((with_reducible refine (r04_SameInts_none ss _ _ (HS1.out.mono exq)).mono ?_); rintro e w' ⟨rfl, X1, rfl⟩; rw [C6.out])))
      go_ret
      rw [HFIN.out]
      exact ⟨rfl, exq⟩
    cases b6
    case false =>
      go_enter Tryz.func21, Tryz.ntmps21
      go_wp2_with (first
        | (go_at_call 55; ((with_reducible refine (r04_SameInts_none rs _ _ (HR1.out.mono exq)).mono ?_); rintro e w' ⟨rfl, X0, rfl⟩; rw [C5.out]))
        | (go_at_call 55; ((with_reducible refine (r04_SameInts_none ss _ _ (HS1.out.mono exq)).mono ?_); rintro e w' ⟨rfl, X1, rfl⟩; rw [C6.out])))
      go_ret
      rw [HFIN.out]
      exact ⟨rfl, exq⟩
    by_cases k7 : sp = 0
    case neg =>
      go_enter Tryz.func21, Tryz.ntmps21
      go_wp2_with (first
        | (go_at_call 55; ((with_reducible refine (r04_SameInts_none rs _ _ (HR1.out.mono exq)).mono ?_); rintro e w' ⟨rfl, X0, rfl⟩; rw [C5.out]))
        | (go_at_call 55; ((with_reducible refine (r04_SameInts_none ss _ _ (HS1.out.mono exq)).mono ?_); rintro e w' ⟨rfl, X1, rfl⟩; rw [C6.out])))
      go_ret
      rw [HFIN.out]
      exact ⟨rfl, exq⟩
    cases st
    case true =>
      go_enter Tryz.func21, Tryz.ntmps21
      go_wp2_with (first
        | (go_at_call 55; ((with_reducible refine (r04_SameInts_none rs _ _ (HR1.out.mono exq)).mono ?_); rintro e w' ⟨rfl, X0, rfl⟩; rw [C5.out]))
        | (go_at_call 55; ((with_reducible refine (r04_SameInts_none ss _ _ (HS1.out.mono exq)).mono ?_); rintro e w' ⟨rfl, X1, rfl⟩; rw [C6.out])))
      go_ret
      rw [HFIN.out]
      exact ⟨rfl, exq⟩
    refine absurd ?_ h
    have e5 : rs = [] := of_decide_eq_true C5.out
    have e6 : ss = [] := of_decide_eq_true C6.out
    rw [e5, e6, k2, k3, k4, k7]
    rfl
end Go.Proofs.YtilmniopollbiaaGreatDoor

/-
  Walks of package scale and of its reference: what is known of spans, whether a norm is valid.
-/
namespace Go
@[go_sem] theorem run_store_func {P : Program} {w : World} (a : Addr) (m : Mode) (f : Fn) (x y : Array Value) : (store a (.func f x y) m).run P w = stored P w a (.func f x y) m := run_store P w a _ m rfl
end Go
namespace Go.Proofs.YtilmniopollbiaaGreatDoor
open Go.RowKit Kr
set_option linter.unusedSimpArgs false

theorem scale_sure_any (b : Bool) (w : World) : Calls Tryz.prog 323 #[.bool b] w fun e w' => e = .returned (.int .u8 (sureR b)) ∧ w.Exts w' := by
  cases b
  all_goals
    go_enter Tryz.func323, Tryz.ntmps323
    go_wp2_with fail
    go_ret
    exact ⟨rfl, exq⟩
theorem r04_told_any (b : Bool) (w : World) : Calls Tryz.prog 108 #[.bool b] w fun e w' => e = .returned (.int .u8 (sureR b)) ∧ w.Exts w' := by
  cases b
  all_goals
    go_enter Tryz.func108, Tryz.ntmps108
    go_wp2_with fail
    go_ret
    exact ⟨rfl, exq⟩

set_option maxHeartbeats 400000 in
theorem scale_known_1_any (s o : Span) (b : Nat) (w : World) (h0 : w.cell? ⟨b, 0, none⟩ = some (.int .i64 o.lo)) (h1 : w.cell? ⟨b, 1, none⟩ = some (.int .i64 o.hi)) :
    Calls Tryz.prog 328 #[.agg #[.int .i64 s.lo, .int .i64 s.hi], .pointer (some ⟨b, 0, none⟩)] w fun e w' => e = .returned (.bool (!(decide (s.lo ≤ o.hi) && decide (o.lo ≤ s.hi)))) ∧ w.Exts w' := by
  haveI := Lays.of_cell h0
  rcases Int.lt_or_le s.hi o.lo with hc | hc
  · go_enter Tryz.func328, Tryz.ntmps328
    go_wp2_with fail
    go_ret
    exact ⟨congrArg Ending.returned (congrArg Value.bool (by simp; omega)), exq⟩
  · go_enter Tryz.func328, Tryz.ntmps328
    go_wp2_with fail
    go_ret
    exact ⟨congrArg Ending.returned (congrArg Value.bool (by rw [Bool.eq_iff_iff]; simp; omega)), exq⟩
set_option maxHeartbeats 400000 in
theorem scale_known_2_any (s o : Span) (b : Nat) (w : World) (h0 : w.cell? ⟨b, 0, none⟩ = some (.int .i64 o.lo)) (h1 : w.cell? ⟨b, 1, none⟩ = some (.int .i64 o.hi)) :
    Calls Tryz.prog 329 #[.agg #[.int .i64 s.lo, .int .i64 s.hi], .pointer (some ⟨b, 0, none⟩)] w fun e w' => e = .returned (.bool (insideB o s)) ∧ w.Exts w' := by
  haveI := Lays.of_cell h0
  go_enter Tryz.func329, Tryz.ntmps329
  go_wp2_with (go_at_call 152; refine (scale_in_any o.lo o.hi _ [s.lo, s.hi] _ (row_int2 _ _ _ _ (by simp))).mono ?_; rintro e w' ⟨rfl, X2, rfl⟩)
  go_ret
  exact ⟨rfl, exq⟩
set_option maxHeartbeats 400000 in
theorem scale_known_3_any (s o : Span) (b c : Nat) (w : World) (h0 : w.cell? ⟨b, 0, none⟩ = some (.int .i64 o.lo)) (h1 : w.cell? ⟨b, 1, none⟩ = some (.int .i64 o.hi)) (hc : w.cell? ⟨c, 0, none⟩ = some (.func (.func 328) #[] #[.pointer (some ⟨b, 0, none⟩)])) :
    Calls Tryz.prog 331 #[.agg #[.int .i64 s.lo, .int .i64 s.hi], .pointer (some ⟨c, 0, none⟩)] w fun e w' => e = .returned (.bool (decide (s.lo ≤ o.hi) && decide (o.lo ≤ s.hi))) ∧ w.Exts w' := by
  have hlb := Lays.of_cell h0
  have hlc := Lays.of_cell hc
  go_enter Tryz.func331, Tryz.ntmps331
  go_wp2_with (go_at_call 328; refine (scale_known_1_any s o b _ (by simp [go_sem, h0]) (by simp [go_sem, h1])).mono ?_; rintro e w' ⟨rfl, X2, rfl⟩)
  go_ret
  exact ⟨by simp, exq⟩

set_option maxRecDepth 4000 in
set_option maxHeartbeats 2000000 in
theorem scale_known_any (l : List Span) (o : Span) (v : Value) (w : World) (hrow : IsRow (fun t : Kr.Span => [.int .i64 t.lo, .int .i64 t.hi]) 2 w v l) (hf : Full l) :
    Calls Tryz.prog 321 #[v, .agg #[.int .i64 o.lo, .int .i64 o.hi]] w fun e w' => e = .returned (.int .u8 (knownR l o)) ∧ w.Exts w' := by
  have hrow' := hrow
  obtain ⟨p, b, oo, cap, rfl, hm, hp, hc⟩ := hrow.ex
  have hall := inside_all hf o
  have HALL := Lib.hid hall
  clear hall
  have HR := Lib.hid hrow'
  clear hrow'
  have HP := Lib.hid hp
  clear hp
  have HC := Lib.hid hc
  clear hc
  clear hrow hf
  go_enter Tryz.func321, Tryz.ntmps321
  go_wp2_with fail
  go_loopw [7, 14] (fun kk i wr => ∃ (j : Nat) (ba : Bool), j ≤ l.length ∧ i = .int .i64 j ∧ kk = .int .u8 (if ba then 2 else 0) ∧ Hid (ba = (l.take j).all (insideB o)) ∧ w.Exts wr ∧ wr.cell? ⟨w.heap.size, 0, none⟩ = some (.int .i64 o.lo) ∧ wr.cell? ⟨w.heap.size, 1, none⟩ = some (.int .i64 o.hi) ∧ wr.cell? ⟨w.heap.size + 1, 0, none⟩ = some (.func (.func 328) #[] #[.pointer (some ⟨w.heap.size, 0, none⟩)])) (fun _ i _ => l.length - (intOf i).toNat)
  case atStart => exact ⟨0, true, Nat.zero_le _, rfl, rfl, Lib.hid rfl, exq, by simp [go_sem], by simp [go_sem], by simp [go_sem]⟩
  case round =>
    obtain ⟨j, ba, hj, rfl, rfl, HB, hE, c0, c1, c2⟩ := hrel
    have hl0 := Lays.of_cell c0
    have hl1 := Lays.of_cell c2
    by_cases hlt : j < l.length
    · obtain ⟨rfl, hl⟩ := HP.out (by omega)
      obtain ⟨x, hx⟩ := some_of_lt hlt
      have hcs := HC.out j x hx
      have hd0 := hE.cell (hcs 0 _ rfl)
      have hd1 := hE.cell (hcs 1 _ rfl)
      simp only [Nat.add_zero] at hd0 hd1
      have hlx := Lays.of_cell hd0
      have hnx : (l.take (j + 1)).all (insideB o) = (ba && insideB o x) := by rw [take_snoc hx, List.all_append, ← HB.out]; simp
      have HNX := Lib.hid hnx
      clear hnx
      clear hx hcs HP HC
      cases hin : insideB o x
      all_goals
        have HIN := Lib.hid hin
        clear hin
        go_wp2_with (go_at_call 329; refine (scale_known_2_any x o _ _ (by simp [go_sem, c0]) (by simp [go_sem, c1])).mono ?_; rintro e w' ⟨rfl, X2, rfl⟩; rw [HIN.out])
        go_roundw
      all_goals first
        | exact ⟨j + 1, false, by omega, by go_num, rfl, Lib.hid (by rw [HNX.out, HIN.out]; simp), (exf hE), by simp [go_sem, c0], by simp [go_sem, c1], by simp [go_sem, c2]⟩
        | exact ⟨j + 1, ba, by omega, by go_num, rfl, Lib.hid (by rw [HNX.out, HIN.out]; simp), (exf hE), by simp [go_sem, c0], by simp [go_sem, c1], by simp [go_sem, c2]⟩
        | (simp [intOf]; omega)
    · have hjn : j = l.length := by omega
      have hB := HB.out
      rw [hjn, List.take_length, HALL.out] at hB
      cases ba
      · have hk : knownR l o = if touches l o.lo o.hi = true then 1 else 0 := by unfold knownR; rw [← hB]; rfl
        have HK := Lib.hid hk
        clear hk
        clear hB hjn
        cases ht : touches l o.lo o.hi
        all_goals
          have HT := Lib.hid ht
          clear ht
          go_wp2_with (go_at_call 330; refine (ContainsFunc_Span_any l (fun s => decide (s.lo ≤ o.hi) && decide (o.lo ≤ s.hi)) _ _ _ _ (HR.out.mono (exf hE)) (enters_of Tryz.func331 (by kernel_rfl) rfl) (answers1 fun x _ W hW => scale_known_3_any x o _ _ W (hW.cell c0) (hW.cell c1) (hW.cell c2))).mono ?_; rintro e w' ⟨rfl, X2, rfl⟩; rw [show (l.any fun s => decide (s.lo ≤ o.hi) && decide (o.lo ≤ s.hi)) = touches l o.lo o.hi from rfl, HT.out])
          go_ret
          exact ⟨by rw [HK.out, HT.out]; rfl, (exf hE)⟩
      · have hk : knownR l o = 2 := by unfold knownR; rw [← hB]; rfl
        have HK := Lib.hid hk
        clear hk
        clear hB hjn
        go_wp2_with fail
        go_ret
        exact ⟨by rw [HK.out]; rfl, (exf hE)⟩

set_option maxRecDepth 4000 in
set_option maxHeartbeats 4000000 in
theorem r04_known_any (l : List Span) (o : Span) (v : Value) (w : World) (hrow : IsRow (fun t : Kr.Span => [.int .i64 t.lo, .int .i64 t.hi]) 2 w v l) :
    Calls Tryz.prog 107 #[v, .agg #[.int .i64 o.lo, .int .i64 o.hi]] w fun e w' => e = .returned (.int .u8 (knownR l o)) ∧ w.Exts w' := by
  obtain ⟨p, b, oo, cap, rfl, hm, hp, hc⟩ := hrow.ex
  have HP := Lib.hid hp
  clear hp
  have HC := Lib.hid hc
  clear hc
  clear hrow
  go_enter Tryz.func107, Tryz.ntmps107
  go_wp2_with fail
  go_loopw [5, 6, 7] (fun al so i wr => ∃ (j : Nat) (ba bs : Bool), j ≤ l.length ∧ i = .int .i64 j ∧ al = .bool ba ∧ so = .bool bs ∧ Hid (ba = (l.take j).all fun s => decide (o.lo ≤ s.lo) && decide (s.hi ≤ o.hi)) ∧ Hid (bs = touches (l.take j) o.lo o.hi) ∧ (w.alloc (.cells #[.int .i64 o.lo, .int .i64 o.hi] 28)).Exts wr) (fun _ _ i _ => l.length - (intOf i).toNat)
  case atStart => exact ⟨0, true, false, Nat.zero_le _, rfl, rfl, rfl, Lib.hid rfl, Lib.hid rfl, exq⟩
  case round =>
    obtain ⟨j, ba, bs, hj, rfl, rfl, rfl, HA, HS, hE⟩ := hrel
    obtain ⟨X, rfl⟩ := hE
    by_cases hlt : j < l.length
    · obtain ⟨rfl, hl⟩ := HP.out (by omega)
      obtain ⟨x, hx⟩ := some_of_lt hlt
      have hcs := HC.out j x hx
      have c0 := hcs 0 _ rfl
      have c1 := hcs 1 _ rfl
      simp only [Nat.add_zero] at c0 c1
      have hna : ((l.take (j + 1)).all fun s => decide (o.lo ≤ s.lo) && decide (s.hi ≤ o.hi)) = (ba && (decide (o.lo ≤ x.lo) && decide (x.hi ≤ o.hi))) := by rw [take_snoc hx, List.all_append, ← HA.out]; simp
      have hns : touches (l.take (j + 1)) o.lo o.hi = (bs || (decide (x.lo ≤ o.hi) && decide (o.lo ≤ x.hi))) := by rw [take_snoc hx]; unfold touches at HS ⊢; rw [List.any_append, ← HS.out]; simp
      have HNA := Lib.hid hna
      clear hna
      have HNS := Lib.hid hns
      clear hns
      clear hx hcs HP HC HA HS
      cases ba <;> cases bs <;> cases h1 : decide (o.lo ≤ x.lo) <;> cases h2 : decide (x.lo ≤ o.hi)
      all_goals
        go_wp2_with fail
        refine wp_region_ext (by kernel_rfl) (by kernel_rfl) ?_
        repeat (go_big_quiet_step (fail))
        refine wpQuiet_nil ?_
        rintro _ ⟨X, rfl⟩
        go_wp2_with fail
        refine wp_region_ext (by kernel_rfl) (by kernel_rfl) ?_
        repeat (go_big_quiet_step (fail))
        refine wpQuiet_nil ?_
        rintro _ ⟨X9, rfl⟩
        go_wp2_with fail
        go_roundw
      all_goals first
        | exact ⟨j + 1, _, _, by omega, by go_num, rfl, rfl, Lib.hid (by rw [HNA.out, h1]; simp), Lib.hid (by rw [HNS.out, h2]; simp), exq⟩
        | (simp [intOf]; omega)
    · have hjn : j = l.length := by omega
      have hA := HA.out
      have hS := HS.out
      rw [hjn, List.take_length] at hA hS
      have hk : knownR l o = if ba = true then 2 else if bs = true then 1 else 0 := by unfold knownR; rw [← hA, ← hS]
      have HK := Lib.hid hk
      clear hk
      clear hA hS hjn
      cases ba <;> cases bs
      all_goals
        go_wp2_with fail
        go_ret
        exact ⟨by rw [HK.out]; rfl, exq⟩

set_option maxHeartbeats 1000000 in
theorem scale_normal_any (n : Norm) (w : World) : Calls Tryz.prog 98 #[.agg #[.int .i64 n.total.lo, .int .i64 n.total.hi, .int .i64 n.added, .int .i64 n.warm, .int .i64 n.hard.lo, .int .i64 n.hard.hi, .bool n.stamp]] w fun e w' => e = .returned (.bool (normB n)) ∧ w.Exts w' := by
  cases hA : ordered n.total 0 10000000 <;> cases hB : ordered n.hard 0 2000 <;> cases hC : inAll 0 1000000 [n.added]
  all_goals
    have HA := Lib.hid hA
    have HB := Lib.hid hB
    have HC := Lib.hid hC
    clear hA hB hC
    go_enter Tryz.func98, Tryz.ntmps98
    go_wp2_with (first
      | (go_at_call 151; ((with_reducible refine (scale_ordered_any n.total 0 10000000 _).mono ?_); rintro e w' ⟨rfl, X2, rfl⟩; rw [HA.out]))
      | (go_at_call 151; ((with_reducible refine (scale_ordered_any n.hard 0 2000 _).mono ?_); rintro e w' ⟨rfl, X3, rfl⟩; rw [HB.out]))
      | (go_at_call 152; ((with_reducible refine (scale_in_any 0 1000000 _ [n.added] _ ?hr).mono ?_); (case hr => exact row_int1 _ _ _ (by simp)); rintro e w' ⟨rfl, X4, rfl⟩; rw [HC.out]))
      | (go_at_call 152; ((with_reducible refine (scale_in_any (-1000) 1000 _ [n.warm] _ ?hr).mono ?_); (case hr => exact row_int1 _ _ _ (by simp)); rintro e w' ⟨rfl, X5, rfl⟩)))
    go_ret
    have hA := HA.out
    have hB := HB.out
    have hC := HC.out
    exact ⟨congrArg Ending.returned (congrArg Value.bool (by simp [inAll] at hC; unfold normB; simp [hA, hB, hC, inAll])), exq⟩
set_option maxHeartbeats 1000000 in
theorem r04_Norm_any (n : Norm) (w : World) : Calls Tryz.prog 103 #[.agg #[.int .i64 n.total.lo, .int .i64 n.total.hi, .int .i64 n.added, .int .i64 n.warm, .int .i64 n.hard.lo, .int .i64 n.hard.hi, .bool n.stamp]] w fun e w' => e = .returned (.bool (normB n)) ∧ w.Exts w' := by
  cases hA : ordered n.total 0 10000000 <;> cases hB : ordered n.hard 0 2000 <;> cases hC : inb 0 1000000 n.added
  all_goals
    have HA := Lib.hid hA
    have HB := Lib.hid hB
    have HC := Lib.hid hC
    clear hA hB hC
    go_enter Tryz.func103, Tryz.ntmps103
    go_wp2_with (first
      | (go_at_call 163; ((with_reducible refine (r04_spanned_any n.total 0 10000000 _).mono ?_); rintro e w' ⟨rfl, X2, rfl⟩; rw [HA.out]))
      | (go_at_call 163; ((with_reducible refine (r04_spanned_any n.hard 0 2000 _).mono ?_); rintro e w' ⟨rfl, X3, rfl⟩; rw [HB.out]))
      | (go_at_call 164; ((with_reducible refine (r04_within_any n.added 0 1000000 _).mono ?_); rintro e w' ⟨rfl, X4, rfl⟩; rw [HC.out]))
      | (go_at_call 164; ((with_reducible refine (r04_within_any n.warm (-1000) 1000 _).mono ?_); rintro e w' ⟨rfl, X5, rfl⟩)))
    go_ret
    have hA := HA.out
    have hB := HB.out
    have hC := HC.out
    exact ⟨congrArg Ending.returned (congrArg Value.bool (by unfold normB; simp [hA, hB, hC])), exq⟩
end Go.Proofs.YtilmniopollbiaaGreatDoor

/-
  Walks of the reference of guests: outing.
-/
namespace Go.Proofs.YtilmniopollbiaaGreatDoor
open Go.RowKit Kr
set_option linter.unusedSimpArgs false
set_option linter.unusedVariables false

end Go.Proofs.YtilmniopollbiaaGreatDoor

/-
  Walks of the reference of guests: Books, Check.
-/
namespace Go.Proofs.YtilmniopollbiaaGreatDoor
open Go.RowKit Kr
set_option linter.unusedSimpArgs false
set_option linter.unusedVariables false

/-- A load of many cells, in a quiet walk: not opened into loads of one cell. -/
theorem quiet_load_mid {P : Program} {C : World → Prop} {o : Oper} {a : Act} {K : Act → Prop} (ty : TypeId) (x : Operand) (ho : o.op = .load ty x) (b off : Nat) (hx : a.eval x = .pointer (some ⟨b, off, none⟩)) (cs : List Value) (d : TypeDesc) (hc : ∀ W, C W → W.rangeAt b off cs)
    (hu : P.underlying ty = some d) (hd : d.isRow = true) (hi : (P.info? ty).map (·.size) = some cs.length) (hk : K (a.put o.dst (.agg cs.toArray))) : o.quiet P a C K :=
  ⟨_, fun w hw => by
    unfold Oper.quietAt execOp
    simp only [ho, hx, Instr.loadAt, Instr.sureAddr, Sem.run_bind, Sem.run_pure, Result.andThen_ok, run_loadVar_mid w b off ty cs d (hc w hw) hu hd hi]
    exact ⟨rfl, rfl⟩, hk⟩

/-- A store of many cells into the block that was made last: not opened into stores of one cell. -/
theorem wpList_store_new {P : Program} {ops : Array Oper} {rest : List Oper} {a : Act} {Q : Exit → Act → World → Prop} {t ty : TypeId} {x y : Operand} {pos : String} {after : Array Edge} {w : World} {old cells : Array Value}
    (hx : a.eval x = .pointer (some ⟨w.heap.size, 0, none⟩)) (hy : a.eval y = .agg cells) (hi : (P.info? t).map (·.size) = some cells.size) (ho : old.size = cells.size) (h1 : cells.all (·.oneCell') = true)
    (h : wpList P ops Q rest (a.put none undef) (w.alloc (.cells cells t))) : wpList P ops Q ({ dst := none, op := .store t x y, type := ty, pos := pos, after := after, guard := none } :: rest) a (w.alloc (.cells old t)) := by
  refine wpList_store_row rfl t x y rfl _ cells hx hy t old (heap_alloc_last _ _) hi ho h1 ?_
  rw [World.setRow_alloc_new]
  exact h

theorem inAll_false {lo hi : Int} {l : List Int} {k : Nat} {y : Int} (hy : l[k]? = some y) (h : inb lo hi y = false) : inAll lo hi l = false := by
  unfold inAll
  rw [List.all_eq_false]
  exact ⟨y, List.mem_of_getElem? hy, by rw [h]; simp⟩
theorem inAll_true {lo hi : Int} {l : List Int} (h : ∀ y ∈ l, inb lo hi y = true) : inAll lo hi l = true := List.all_eq_true.2 h
theorem take_all {p : Int → Prop} {l : List Int} {k : Nat} {y : Int} (hy : l[k]? = some y) (h : ∀ z ∈ l.take k, p z) (h1 : p y) : ∀ z ∈ l.take (k + 1), p z := by
  rw [take_snoc hy]
  intro z hz
  rcases List.mem_append.1 hz with h2 | h2
  · exact h z h2
  · rw [List.mem_singleton.1 h2]; exact h1

/-- What the walks ask of an outing: its slices, and that its gear is within bounds. -/
structure OutGood (w : World) (x : OutV) : Prop where
  at_ : OutAt w x
  gear : GearAt w (x.o.gear, x.lv, x.rv, x.sv)
  few : x.o.guests.length ≤ 8
theorem OutGood.mono {w w' : World} {x : OutV} (h : OutGood w x) (hE : w.Exts w') : OutGood w' x := ⟨h.at_.mono hE, h.gear.mono hE, h.few⟩
/-- Books that are not great, as they lie. -/
structure BooksGood (w : World) (m : Kr.Books) (v : BookV) (ts : List (Kr.Scale × Value)) (xs : List OutV) : Prop where
  at_ : BooksAt w m v ts xs
  out : ∀ x ∈ xs, OutGood w x
  cash : m.cash.length ≤ 12
  outs : m.outings.length ≤ 8
  rfds : m.refunds.length ≤ 8
  pleas : m.pleas.length ≤ 8
theorem BooksGood.mono {w w' : World} {m : Kr.Books} {v : BookV} {ts : List (Kr.Scale × Value)} {xs : List OutV} (h : BooksGood w m v ts xs) (hE : w.Exts w') : BooksGood w' m v ts xs :=
  ⟨h.at_.mono hE, fun x hx => (h.out x hx).mono hE, h.cash, h.outs, h.rfds, h.pleas⟩
theorem BooksGood.xl {w : World} {m : Kr.Books} {v : BookV} {ts : List (Kr.Scale × Value)} {xs : List OutV} (h : BooksGood w m v ts xs) : xs.length = m.outings.length := by rw [← h.at_.ose, List.length_map]
end Go.Proofs.YtilmniopollbiaaGreatDoor
