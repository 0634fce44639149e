/-
  Walks of package scale and of its reference: what is known of spans, whether a norm is valid.
-/
import Derived.Test.YtihkmkocgmkcjaaGreatDoorSa
import Derived.Test.YtihkmkocgmkcjaaGreatDoorRx
import Derived.Test.YtihkmkocgmkcjaaGreatDoorPl
namespace Go
@[go_sem] theorem run_store_func {P : Program} {w : World} (a : Addr) (m : Mode) (f : Fn) (x y : Array Value) : (store a (.func f x y) m).run P w = stored P w a (.func f x y) m := run_store P w a _ m rfl
end Go
namespace Go.Proofs.YtihkmkocgmkcjaaGreatDoor
open Go.RowKit Kr
set_option linter.unusedSimpArgs false

theorem scale_sure_any (b : Bool) (w : World) : Calls Tryz.prog 231 #[.bool b] w fun e w' => e = .returned (.int .u8 (sureR b)) ∧ w.Exts w' := by
  cases b
  all_goals
    go_enter Tryz.func231, Tryz.ntmps231
    go_wp2_with fail
    go_ret
    exact ⟨rfl, exq⟩
theorem r04_told_any (b : Bool) (w : World) : Calls Tryz.prog 72 #[.bool b] w fun e w' => e = .returned (.int .u8 (sureR b)) ∧ w.Exts w' := by
  cases b
  all_goals
    go_enter Tryz.func72, Tryz.ntmps72
    go_wp2_with fail
    go_ret
    exact ⟨rfl, exq⟩

set_option maxHeartbeats 400000 in
theorem scale_known_1_any (s o : Span) (b : Nat) (w : World) (h0 : w.cell? ⟨b, 0, none⟩ = some (.int .i64 o.lo)) (h1 : w.cell? ⟨b, 1, none⟩ = some (.int .i64 o.hi)) :
    Calls Tryz.prog 236 #[.agg #[.int .i64 s.lo, .int .i64 s.hi], .pointer (some ⟨b, 0, none⟩)] w fun e w' => e = .returned (.bool (!(decide (s.lo ≤ o.hi) && decide (o.lo ≤ s.hi)))) ∧ w.Exts w' := by
  haveI := Lays.of_cell h0
  rcases Int.lt_or_le s.hi o.lo with hc | hc
  · go_enter Tryz.func236, Tryz.ntmps236
    go_wp2_with fail
    go_ret
    exact ⟨congrArg Ending.returned (congrArg Value.bool (by simp; omega)), exq⟩
  · go_enter Tryz.func236, Tryz.ntmps236
    go_wp2_with fail
    go_ret
    exact ⟨congrArg Ending.returned (congrArg Value.bool (by rw [Bool.eq_iff_iff]; simp; omega)), exq⟩
set_option maxHeartbeats 400000 in
theorem scale_known_2_any (s o : Span) (b : Nat) (w : World) (h0 : w.cell? ⟨b, 0, none⟩ = some (.int .i64 o.lo)) (h1 : w.cell? ⟨b, 1, none⟩ = some (.int .i64 o.hi)) :
    Calls Tryz.prog 237 #[.agg #[.int .i64 s.lo, .int .i64 s.hi], .pointer (some ⟨b, 0, none⟩)] w fun e w' => e = .returned (.bool (insideB o s)) ∧ w.Exts w' := by
  haveI := Lays.of_cell h0
  go_enter Tryz.func237, Tryz.ntmps237
  go_wp2_with (go_at_call 77; refine (scale_in_any o.lo o.hi _ [s.lo, s.hi] _ (row_int2 _ _ _ _ (by simp))).mono ?_; rintro e w' ⟨rfl, X2, rfl⟩)
  go_ret
  exact ⟨rfl, exq⟩
set_option maxHeartbeats 400000 in
theorem scale_known_3_any (s o : Span) (b c : Nat) (w : World) (h0 : w.cell? ⟨b, 0, none⟩ = some (.int .i64 o.lo)) (h1 : w.cell? ⟨b, 1, none⟩ = some (.int .i64 o.hi)) (hc : w.cell? ⟨c, 0, none⟩ = some (.func (.func 236) #[] #[.pointer (some ⟨b, 0, none⟩)])) :
    Calls Tryz.prog 239 #[.agg #[.int .i64 s.lo, .int .i64 s.hi], .pointer (some ⟨c, 0, none⟩)] w fun e w' => e = .returned (.bool (decide (s.lo ≤ o.hi) && decide (o.lo ≤ s.hi))) ∧ w.Exts w' := by
  have hlb := Lays.of_cell h0
  have hlc := Lays.of_cell hc
  go_enter Tryz.func239, Tryz.ntmps239
  go_wp2_with (go_at_call 236; refine (scale_known_1_any s o b _ (by simp [go_sem, h0]) (by simp [go_sem, h1])).mono ?_; rintro e w' ⟨rfl, X2, rfl⟩)
  go_ret
  exact ⟨by simp, exq⟩

set_option maxRecDepth 4000 in
set_option maxHeartbeats 2000000 in
theorem scale_known_any (l : List Span) (o : Span) (v : Value) (w : World) (hrow : IsRow (fun t : Kr.Span => [.int .i64 t.lo, .int .i64 t.hi]) 2 w v l) (hf : Full l) :
    Calls Tryz.prog 229 #[v, .agg #[.int .i64 o.lo, .int .i64 o.hi]] w fun e w' => e = .returned (.int .u8 (knownR l o)) ∧ w.Exts w' := by
  have hrow' := hrow
  obtain ⟨p, b, oo, cap, rfl, hm, hp, hc⟩ := hrow.ex
  have hall := inside_all hf o
  have HALL := Lib.hid hall
  clear hall
  have HR := Lib.hid hrow'
  clear hrow'
  have HP := Lib.hid hp
  clear hp
  have HC := Lib.hid hc
  clear hc
  clear hrow hf
  go_enter Tryz.func229, Tryz.ntmps229
  go_wp2_with fail
  go_loopw [7, 14] (fun kk i wr => ∃ (j : Nat) (ba : Bool), j ≤ l.length ∧ i = .int .i64 j ∧ kk = .int .u8 (if ba then 2 else 0) ∧ Hid (ba = (l.take j).all (insideB o)) ∧ w.Exts wr ∧ wr.cell? ⟨w.heap.size, 0, none⟩ = some (.int .i64 o.lo) ∧ wr.cell? ⟨w.heap.size, 1, none⟩ = some (.int .i64 o.hi) ∧ wr.cell? ⟨w.heap.size + 1, 0, none⟩ = some (.func (.func 236) #[] #[.pointer (some ⟨w.heap.size, 0, none⟩)])) (fun _ i _ => l.length - (intOf i).toNat)
  case atStart => exact ⟨0, true, Nat.zero_le _, rfl, rfl, Lib.hid rfl, exq, by simp [go_sem], by simp [go_sem], by simp [go_sem]⟩
  case round =>
    obtain ⟨j, ba, hj, rfl, rfl, HB, hE, c0, c1, c2⟩ := hrel
    have hl0 := Lays.of_cell c0
    have hl1 := Lays.of_cell c2
    by_cases hlt : j < l.length
    · obtain ⟨rfl, hl⟩ := HP.out (by omega)
      obtain ⟨x, hx⟩ := some_of_lt hlt
      have hcs := HC.out j x hx
      have hd0 := hE.cell (hcs 0 _ rfl)
      have hd1 := hE.cell (hcs 1 _ rfl)
      simp only [Nat.add_zero] at hd0 hd1
      have hlx := Lays.of_cell hd0
      have hnx : (l.take (j + 1)).all (insideB o) = (ba && insideB o x) := by rw [take_snoc hx, List.all_append, ← HB.out]; simp
      have HNX := Lib.hid hnx
      clear hnx
      clear hx hcs HP HC
      cases hin : insideB o x
      all_goals
        have HIN := Lib.hid hin
        clear hin
        go_wp2_with (go_at_call 237; refine (scale_known_2_any x o _ _ (by simp [go_sem, c0]) (by simp [go_sem, c1])).mono ?_; rintro e w' ⟨rfl, X2, rfl⟩; rw [HIN.out])
        go_roundw
      all_goals first
        | exact ⟨j + 1, false, by omega, by go_num, rfl, Lib.hid (by rw [HNX.out, HIN.out]; simp), (exf hE), by simp [go_sem, c0], by simp [go_sem, c1], by simp [go_sem, c2]⟩
        | exact ⟨j + 1, ba, by omega, by go_num, rfl, Lib.hid (by rw [HNX.out, HIN.out]; simp), (exf hE), by simp [go_sem, c0], by simp [go_sem, c1], by simp [go_sem, c2]⟩
        | (simp [intOf]; omega)
    · have hjn : j = l.length := by omega
      have hB := HB.out
      rw [hjn, List.take_length, HALL.out] at hB
      cases ba
      · have hk : knownR l o = if touches l o.lo o.hi = true then 1 else 0 := by unfold knownR; rw [← hB]; rfl
        have HK := Lib.hid hk
        clear hk
        clear hB hjn
        cases ht : touches l o.lo o.hi
        all_goals
          have HT := Lib.hid ht
          clear ht
          go_wp2_with (go_at_call 238; refine (ContainsFunc_Span_any l (fun s => decide (s.lo ≤ o.hi) && decide (o.lo ≤ s.hi)) _ _ _ _ (HR.out.mono (exf hE)) (enters_of Tryz.func239 (by kernel_rfl) rfl) (answers1 fun x _ W hW => scale_known_3_any x o _ _ W (hW.cell c0) (hW.cell c1) (hW.cell c2))).mono ?_; rintro e w' ⟨rfl, X2, rfl⟩; rw [show (l.any fun s => decide (s.lo ≤ o.hi) && decide (o.lo ≤ s.hi)) = touches l o.lo o.hi from rfl, HT.out])
          go_ret
          exact ⟨by rw [HK.out, HT.out]; rfl, (exf hE)⟩
      · have hk : knownR l o = 2 := by unfold knownR; rw [← hB]; rfl
        have HK := Lib.hid hk
        clear hk
        clear hB hjn
        go_wp2_with fail
        go_ret
        exact ⟨by rw [HK.out]; rfl, (exf hE)⟩

set_option maxRecDepth 4000 in
set_option maxHeartbeats 4000000 in
theorem r04_known_any (l : List Span) (o : Span) (v : Value) (w : World) (hrow : IsRow (fun t : Kr.Span => [.int .i64 t.lo, .int .i64 t.hi]) 2 w v l) :
    Calls Tryz.prog 71 #[v, .agg #[.int .i64 o.lo, .int .i64 o.hi]] w fun e w' => e = .returned (.int .u8 (knownR l o)) ∧ w.Exts w' := by
  obtain ⟨p, b, oo, cap, rfl, hm, hp, hc⟩ := hrow.ex
  have HP := Lib.hid hp
  clear hp
  have HC := Lib.hid hc
  clear hc
  clear hrow
  go_enter Tryz.func71, Tryz.ntmps71
  go_wp2_with fail
  go_loopw [5, 6, 7] (fun al so i wr => ∃ (j : Nat) (ba bs : Bool), j ≤ l.length ∧ i = .int .i64 j ∧ al = .bool ba ∧ so = .bool bs ∧ Hid (ba = (l.take j).all fun s => decide (o.lo ≤ s.lo) && decide (s.hi ≤ o.hi)) ∧ Hid (bs = touches (l.take j) o.lo o.hi) ∧ (w.alloc (.cells #[.int .i64 o.lo, .int .i64 o.hi] 28)).Exts wr) (fun _ _ i _ => l.length - (intOf i).toNat)
  case atStart => exact ⟨0, true, false, Nat.zero_le _, rfl, rfl, rfl, Lib.hid rfl, Lib.hid rfl, exq⟩
  case round =>
    obtain ⟨j, ba, bs, hj, rfl, rfl, rfl, HA, HS, hE⟩ := hrel
    obtain ⟨X, rfl⟩ := hE
    by_cases hlt : j < l.length
    · obtain ⟨rfl, hl⟩ := HP.out (by omega)
      obtain ⟨x, hx⟩ := some_of_lt hlt
      have hcs := HC.out j x hx
      have c0 := hcs 0 _ rfl
      have c1 := hcs 1 _ rfl
      simp only [Nat.add_zero] at c0 c1
      have hna : ((l.take (j + 1)).all fun s => decide (o.lo ≤ s.lo) && decide (s.hi ≤ o.hi)) = (ba && (decide (o.lo ≤ x.lo) && decide (x.hi ≤ o.hi))) := by rw [take_snoc hx, List.all_append, ← HA.out]; simp
      have hns : touches (l.take (j + 1)) o.lo o.hi = (bs || (decide (x.lo ≤ o.hi) && decide (o.lo ≤ x.hi))) := by rw [take_snoc hx]; unfold touches at HS ⊢; rw [List.any_append, ← HS.out]; simp
      have HNA := Lib.hid hna
      clear hna
      have HNS := Lib.hid hns
      clear hns
      clear hx hcs HP HC HA HS
      cases ba <;> cases bs <;> cases h1 : decide (o.lo ≤ x.lo) <;> cases h2 : decide (x.lo ≤ o.hi)
      all_goals
        go_wp2_with fail
        refine wp_region_ext (by kernel_rfl) (by kernel_rfl) ?_
        repeat (go_big_quiet_step (fail))
        refine wpQuiet_nil ?_
        rintro _ ⟨X, rfl⟩
        go_wp2_with fail
        refine wp_region_ext (by kernel_rfl) (by kernel_rfl) ?_
        repeat (go_big_quiet_step (fail))
        refine wpQuiet_nil ?_
        rintro _ ⟨X9, rfl⟩
        go_wp2_with fail
        go_roundw
      all_goals first
        | exact ⟨j + 1, _, _, by omega, by go_num, rfl, rfl, Lib.hid (by rw [HNA.out, h1]; simp), Lib.hid (by rw [HNS.out, h2]; simp), exq⟩
        | (simp [intOf]; omega)
    · have hjn : j = l.length := by omega
      have hA := HA.out
      have hS := HS.out
      rw [hjn, List.take_length] at hA hS
      have hk : knownR l o = if ba = true then 2 else if bs = true then 1 else 0 := by unfold knownR; rw [← hA, ← hS]
      have HK := Lib.hid hk
      clear hk
      clear hA hS hjn
      cases ba <;> cases bs
      all_goals
        go_wp2_with fail
        go_ret
        exact ⟨by rw [HK.out]; rfl, exq⟩

set_option maxHeartbeats 1000000 in
theorem scale_normal_any (n : Norm) (w : World) : Calls Tryz.prog 62 #[.agg #[.int .i64 n.total.lo, .int .i64 n.total.hi, .int .i64 n.added, .int .i64 n.warm, .int .i64 n.hard.lo, .int .i64 n.hard.hi, .bool n.stamp]] w fun e w' => e = .returned (.bool (normB n)) ∧ w.Exts w' := by
  cases hA : ordered n.total 0 10000000 <;> cases hB : ordered n.hard 0 2000 <;> cases hC : inAll 0 1000000 [n.added]
  all_goals
    have HA := Lib.hid hA
    have HB := Lib.hid hB
    have HC := Lib.hid hC
    clear hA hB hC
    go_enter Tryz.func62, Tryz.ntmps62
    go_wp2_with (first
      | (go_at_call 99; ((with_reducible refine (scale_ordered_any n.total 0 10000000 _).mono ?_); rintro e w' ⟨rfl, X2, rfl⟩; rw [HA.out]))
      | (go_at_call 99; ((with_reducible refine (scale_ordered_any n.hard 0 2000 _).mono ?_); rintro e w' ⟨rfl, X3, rfl⟩; rw [HB.out]))
      | (go_at_call 77; ((with_reducible refine (scale_in_any 0 1000000 _ [n.added] _ ?hr).mono ?_); (case hr => exact row_int1 _ _ _ (by simp)); rintro e w' ⟨rfl, X4, rfl⟩; rw [HC.out]))
      | (go_at_call 77; ((with_reducible refine (scale_in_any (-1000) 1000 _ [n.warm] _ ?hr).mono ?_); (case hr => exact row_int1 _ _ _ (by simp)); rintro e w' ⟨rfl, X5, rfl⟩)))
    go_ret
    have hA := HA.out
    have hB := HB.out
    have hC := HC.out
    exact ⟨congrArg Ending.returned (congrArg Value.bool (by simp [inAll] at hC; unfold normB; simp [hA, hB, hC, inAll])), exq⟩
set_option maxHeartbeats 1000000 in
theorem r04_Norm_any (n : Norm) (w : World) : Calls Tryz.prog 67 #[.agg #[.int .i64 n.total.lo, .int .i64 n.total.hi, .int .i64 n.added, .int .i64 n.warm, .int .i64 n.hard.lo, .int .i64 n.hard.hi, .bool n.stamp]] w fun e w' => e = .returned (.bool (normB n)) ∧ w.Exts w' := by
  cases hA : ordered n.total 0 10000000 <;> cases hB : ordered n.hard 0 2000 <;> cases hC : inb 0 1000000 n.added
  all_goals
    have HA := Lib.hid hA
    have HB := Lib.hid hB
    have HC := Lib.hid hC
    clear hA hB hC
    go_enter Tryz.func67, Tryz.ntmps67
    go_wp2_with (first
      | (go_at_call 110; ((with_reducible refine (r04_spanned_any n.total 0 10000000 _).mono ?_); rintro e w' ⟨rfl, X2, rfl⟩; rw [HA.out]))
      | (go_at_call 110; ((with_reducible refine (r04_spanned_any n.hard 0 2000 _).mono ?_); rintro e w' ⟨rfl, X3, rfl⟩; rw [HB.out]))
      | (go_at_call 83; ((with_reducible refine (r04_within_any n.added 0 1000000 _).mono ?_); rintro e w' ⟨rfl, X4, rfl⟩; rw [HC.out]))
      | (go_at_call 83; ((with_reducible refine (r04_within_any n.warm (-1000) 1000 _).mono ?_); rintro e w' ⟨rfl, X5, rfl⟩)))
    go_ret
    have hA := HA.out
    have hB := HB.out
    have hC := HC.out
    exact ⟨congrArg Ending.returned (congrArg Value.bool (by unfold normB; simp [hA, hB, hC])), exq⟩
end Go.Proofs.YtihkmkocgmkcjaaGreatDoor
