/-
  Walks of the reference of layer 4: a bay, gear, Check, Great.
-/
import Derived.Test.YthogfmaclbmgoaaRc
namespace Go.Proofs.Ythogfmaclbmgoaa
open Go.RowKit Kr

theorem lastId_prev {ts : List (Kr.Scale × Value)} {k : Nat} {y : Kr.Scale × Value} (hk : 0 < k) (hy : ts[k - 1]? = some y) : lastId (-1) ((ts.take k).map Prod.fst) = y.1.id := by
  obtain ⟨j, rfl⟩ : ∃ j, k = j + 1 := ⟨k - 1, by omega⟩
  rw [take_snoc (by simpa using hy), List.map_append, List.map_singleton, lastId_snoc]

theorem bay_fails {ts : List (Kr.Scale × Value)} {k : Nat} {x : Kr.Scale × Value} (hx : ts[k]? = some x) (h : decide (lastId (-1) ((ts.take k).map Prod.fst) < x.1.id) = false ∨ right x.1 = false) : bayOk (ts.map Prod.fst) = false := by
  have h2 : bayFrom (-1) ((ts.take (k + 1)).map Prod.fst) = false := by
    rw [take_snoc hx, List.map_append, List.map_singleton, bayFrom_snoc]
    rcases h with h | h <;> rw [h] <;> simp
  have h3 : bayFrom (-1) (ts.map Prod.fst) = false := by
    cases hb : bayFrom (-1) (ts.map Prod.fst) with
    | false => rfl
    | true =>
      rw [← List.take_append_drop (k + 1) ts, List.map_append] at hb
      rw [bayFrom_prefix _ _ _ hb] at h2; cases h2
  unfold bayOk; rw [h3]; rfl

set_option maxHeartbeats 1000000 in
theorem r04_Bay_any (ts : List (Kr.Scale × Value)) (v : Value) (w : World) (hrow : BayAt w v ts) :
    Calls Try.prog 25 #[.agg #[v]] w fun e w' => e = .returned (.bool (bayOk (ts.map Prod.fst))) ∧ w.Exts w' := by
  obtain ⟨p, b, o, cap, rfl, hm, hp, hc⟩ := hrow.row.ex
  have ht := hrow.tr
  have HC := Lib.hid hc
  clear hc
  have HP := Lib.hid hp
  clear hp
  have HT := Lib.hid ht
  clear ht
  clear hrow
  go_enter Try.func25, Try.ntmps25
  go_wp2_with fail
  go_loopw [3] (fun i wr => ∃ k : Nat, k ≤ ts.length ∧ i = .int .i64 k ∧ Hid (bayFrom (-1) ((ts.take k).map Prod.fst) = true) ∧ (w.alloc (.cells #[.slice p ts.length cap] 24)).Exts wr) (fun i _ => ts.length - (intOf i).toNat)
  case atStart => exact ⟨0, Nat.zero_le _, rfl, rfl, (by repeat' (first | with_reducible exact World.Exts.refl _ | with_reducible refine World.Exts.alloc ?_ _ | with_reducible refine World.Exts.drew ?_ | with_reducible refine World.Exts.drewN ?_ _ | with_reducible refine World.Exts.ext ?_ _ | with_reducible refine World.Exts.setCell ?_ ?_ _ | (simp; done) | exact World.size_ext_le _ _ | (simp; omega)))⟩
  case round =>
    obtain ⟨k, hk, rfl, HA, X, rfl⟩ := hrel
    by_cases hlt : k < ts.length
    · obtain ⟨rfl, hl⟩ := HP.out (by omega)
      obtain ⟨x, hx⟩ := some_of_lt hlt
      have hcs := HC.out k x hx
      have c0 := hcs 0 _ rfl
      have c1 := hcs 1 _ rfl
      have c2 := hcs 2 _ rfl
      have c3 := hcs 3 _ rfl
      have c4 := hcs 4 _ rfl
      have c5 := hcs 5 _ rfl
      have c6 := hcs 6 _ rfl
      simp only [Nat.add_zero] at c0 c1 c2 c3 c4 c5 c6
      have htr := HT.out x (List.mem_of_getElem? hx)
      have HTR := Lib.hid htr
      clear htr
      clear hcs HP
      cases hr : right x.1
      · have HI := Lib.hid hx
        clear hx
        have HR := Lib.hid hr
        clear hr
        go_wp2_with fail
        refine wp_region_ext (by kernel_rfl) (by kernel_rfl) ?_
        repeat (go_big_quiet_step ((go_at_call 17; exact Calls.in_ext_eq (r04_Scale_any x.1 x.2 _ (HTR.out.mono (by repeat' (first | with_reducible exact World.Exts.refl _ | with_reducible refine World.Exts.alloc ?_ _ | with_reducible refine World.Exts.drew ?_ | with_reducible refine World.Exts.drewN ?_ _ | with_reducible refine World.Exts.ext ?_ _ | with_reducible refine World.Exts.setCell ?_ ?_ _ | (simp; done) | exact World.size_ext_le _ _ | (simp; omega))))) (congrArg Value.bool HR.out))))
        refine wpQuiet_nil ?_
        rintro _ ⟨X, rfl⟩
        go_wp2_with fail
        go_ret
        exact ⟨by rw [bay_fails HI.out (.inr HR.out)]; rfl, (by repeat' (first | with_reducible exact World.Exts.refl _ | with_reducible refine World.Exts.alloc ?_ _ | with_reducible refine World.Exts.drew ?_ | with_reducible refine World.Exts.drewN ?_ _ | with_reducible refine World.Exts.ext ?_ _ | with_reducible refine World.Exts.setCell ?_ ?_ _ | (simp; done) | exact World.size_ext_le _ _ | (simp; omega)))⟩
      by_cases hk0 : 0 < k
      · obtain ⟨y, hy⟩ := some_of_lt (show k - 1 < ts.length by omega)
        have hcs := HC.out (k - 1) y hy
        have d0 := hcs 0 _ rfl
        simp only [Nat.add_zero] at d0
        have HI := Lib.hid hx
        clear hx
        have HR := Lib.hid hr
        clear hr
        have HY := Lib.hid hy
        clear hy
        clear hcs
        go_wp2_with fail
        refine wp_region_ext (by kernel_rfl) (by kernel_rfl) ?_
        repeat (go_big_quiet_step ((go_at_call 17; exact Calls.in_ext_eq (r04_Scale_any x.1 x.2 _ (HTR.out.mono (by repeat' (first | with_reducible exact World.Exts.refl _ | with_reducible refine World.Exts.alloc ?_ _ | with_reducible refine World.Exts.drew ?_ | with_reducible refine World.Exts.drewN ?_ _ | with_reducible refine World.Exts.ext ?_ _ | with_reducible refine World.Exts.setCell ?_ ?_ _ | (simp; done) | exact World.size_ext_le _ _ | (simp; omega))))) (congrArg Value.bool HR.out))))
        refine wpQuiet_nil ?_
        rintro _ ⟨X, rfl⟩
        go_wp2_with fail
        · have hs : x.1.id ≤ y.1.id := by assumption
          go_ret
          exact ⟨by rw [bay_fails HI.out (.inl (by rw [lastId_prev hk0 HY.out]; simp; omega))]; rfl, (by repeat' (first | with_reducible exact World.Exts.refl _ | with_reducible refine World.Exts.alloc ?_ _ | with_reducible refine World.Exts.drew ?_ | with_reducible refine World.Exts.drewN ?_ _ | with_reducible refine World.Exts.ext ?_ _ | with_reducible refine World.Exts.setCell ?_ ?_ _ | (simp; done) | exact World.size_ext_le _ _ | (simp; omega)))⟩
        · have hs : y.1.id < x.1.id := by assumption
          go_roundw
          case rel => exact ⟨k + 1, by omega, by go_num, Lib.hid (by rw [take_snoc HI.out, List.map_append, List.map_singleton, bayFrom_snoc, HA.out, HR.out, lastId_prev hk0 HY.out]; simp; omega), (by repeat' (first | with_reducible exact World.Exts.refl _ | with_reducible refine World.Exts.alloc ?_ _ | with_reducible refine World.Exts.drew ?_ | with_reducible refine World.Exts.drewN ?_ _ | with_reducible refine World.Exts.ext ?_ _ | with_reducible refine World.Exts.setCell ?_ ?_ _ | (simp; done) | exact World.size_ext_le _ _ | (simp; omega)))⟩
          case measure => simp [intOf]; omega
      · have h0 := (right_id hr).1
        have hkk : k = 0 := by omega
        have HKK := Lib.hid hkk
        clear hkk
        have HI := Lib.hid hx
        clear hx
        have HR := Lib.hid hr
        clear hr
        go_wp2_with fail
        refine wp_region_ext (by kernel_rfl) (by kernel_rfl) ?_
        repeat (go_big_quiet_step ((go_at_call 17; exact Calls.in_ext_eq (r04_Scale_any x.1 x.2 _ (HTR.out.mono (by repeat' (first | with_reducible exact World.Exts.refl _ | with_reducible refine World.Exts.alloc ?_ _ | with_reducible refine World.Exts.drew ?_ | with_reducible refine World.Exts.drewN ?_ _ | with_reducible refine World.Exts.ext ?_ _ | with_reducible refine World.Exts.setCell ?_ ?_ _ | (simp; done) | exact World.size_ext_le _ _ | (simp; omega))))) (congrArg Value.bool HR.out))))
        refine wpQuiet_nil ?_
        rintro _ ⟨X, rfl⟩
        go_wp2_with fail
        go_roundw
        case rel => exact ⟨k + 1, by omega, by go_num, Lib.hid (by rw [take_snoc HI.out, List.map_append, List.map_singleton, bayFrom_snoc, HA.out, HR.out, HKK.out]; simp [lastId]; omega), (by repeat' (first | with_reducible exact World.Exts.refl _ | with_reducible refine World.Exts.alloc ?_ _ | with_reducible refine World.Exts.drew ?_ | with_reducible refine World.Exts.drewN ?_ _ | with_reducible refine World.Exts.ext ?_ _ | with_reducible refine World.Exts.setCell ?_ ?_ _ | (simp; done) | exact World.size_ext_le _ _ | (simp; omega)))⟩
        case measure => simp [intOf]; omega
    · have hkn : k = ts.length := by omega
      have hA := HA.out
      rw [hkn, List.take_length] at hA
      have HA2 := Lib.hid hA
      clear hA
      clear hkn
      go_wp2_with fail
      go_ret
      exact ⟨by unfold bayOk; rw [HA2.out]; simp; omega, (by repeat' (first | with_reducible exact World.Exts.refl _ | with_reducible refine World.Exts.alloc ?_ _ | with_reducible refine World.Exts.drew ?_ | with_reducible refine World.Exts.drewN ?_ _ | with_reducible refine World.Exts.ext ?_ _ | with_reducible refine World.Exts.setCell ?_ ?_ _ | (simp; done) | exact World.size_ext_le _ _ | (simp; omega)))⟩
theorem loadOk_find (ts : List (Kr.Scale × Value)) (l : Load) : loadOk (ts.map Prod.fst) l = match ts.find? (fun x => x.1.id == l.scale) with | some x => shownB l.shown x.1.step | none => false := by
  unfold loadOk
  rw [List.find?_map]
  show (match ((ts.find? fun x => x.1.id == l.scale).map Prod.fst) with | some s => shownB l.shown s.step | none => false) = _
  cases ts.find? (fun x => x.1.id == l.scale) <;> rfl

set_option maxHeartbeats 1000000 in
theorem r04_Gear_any (ts : List (Kr.Scale × Value)) (v : Value) (g : Gear) (lv rv sv : Value) (w : World) (hrow : BayAt w v ts) (hok : ∀ x ∈ ts, right x.1 = true)
    (hl : IsRow (fun t : Kr.Load => [.int .i64 t.scale, .int .i64 t.shown]) 2 w lv g.loads) (hr : IsRow (fun x : Int => [.int .i64 x]) 1 w rv g.runners) (hs : IsRow (fun x : Int => [.int .i64 x]) 1 w sv g.strokes) :
    Calls Try.prog 26 #[.agg #[v], .agg #[lv, .int .i64 g.added, .int .i64 g.base, .int .i64 g.jitter, rv, sv, .int .i64 g.spread, .bool g.stamp]] w fun e w' => e = .returned (.bool (gearOk (ts.map Prod.fst) g)) ∧ w.Exts w' := by
  have hbay := hrow
  obtain ⟨p, b, o, cap, rfl, hm, hp, hc⟩ := hrow.row.ex
  obtain ⟨p1, b1, o1, cap1, rfl, hm1, hp1, hc1⟩ := hl.ex
  have HC := Lib.hid hc
  clear hc
  have HP := Lib.hid hp
  clear hp
  have HC1 := Lib.hid hc1
  clear hc1
  have HP1 := Lib.hid hp1
  clear hp1
  have HR := Lib.hid hr
  clear hr
  have HS := Lib.hid hs
  clear hs
  have HOK := Lib.hid hok
  clear hok
  have HBAY := Lib.hid hbay
  clear hbay
  clear hrow hl
  go_enter Try.func26, Try.ntmps26
  go_wp2_with fail
  go_loopw [5] (fun i wr => ∃ k : Nat, k ≤ g.loads.length ∧ i = .int .i64 k ∧ Hid ((g.loads.take k).all (loadOk (ts.map Prod.fst)) = true) ∧ ((w.alloc (.cells #[.slice p ts.length cap] 24)).alloc (.cells #[.slice p1 g.loads.length cap1, .int .i64 g.added, .int .i64 g.base, .int .i64 g.jitter, rv, sv, .int .i64 g.spread, .bool g.stamp] 28)).Exts wr) (fun i _ => g.loads.length - (intOf i).toNat)
  case atStart => exact ⟨0, Nat.zero_le _, rfl, rfl, (by repeat' (first | with_reducible exact World.Exts.refl _ | with_reducible refine World.Exts.alloc ?_ _ | with_reducible refine World.Exts.drew ?_ | with_reducible refine World.Exts.drewN ?_ _ | with_reducible refine World.Exts.ext ?_ _ | with_reducible refine World.Exts.setCell ?_ ?_ _ | (simp; done) | exact World.size_ext_le _ _ | (simp; omega)))⟩
  case round =>
    obtain ⟨k, hk, rfl, HA, X, rfl⟩ := hrel
    by_cases hlt : k < g.loads.length
    · obtain ⟨rfl, hl⟩ := HP1.out (by omega)
      obtain ⟨x, hx⟩ := some_of_lt hlt
      have hcs := HC1.out k x hx
      have c0 := hcs 0 _ rfl
      have c1 := hcs 1 _ rfl
      simp only [Nat.add_zero] at c0 c1
      have HI := Lib.hid hx
      clear hx
      clear hcs HP1
      go_wp2_with fail
      rcases firstAt_cases (fun y : Kr.Scale × Value => y.1.id == x.scale) ts with ⟨ha, hf⟩ | ⟨j, y, hy, ha, hf, hpy⟩
      · have HFA := Lib.hid ha
        clear ha
        have HF := Lib.hid hf
        clear hf
        refine wp_region_ext (by kernel_rfl) (by kernel_rfl) ?_
        repeat (go_big_quiet_step ((go_at_call 40; exact Calls.in_ext_eq (r04_At_any ts _ _ _ (HBAY.out.mono (by repeat' (first | with_reducible exact World.Exts.refl _ | with_reducible refine World.Exts.alloc ?_ _ | with_reducible refine World.Exts.drew ?_ | with_reducible refine World.Exts.drewN ?_ _ | with_reducible refine World.Exts.ext ?_ _ | with_reducible refine World.Exts.setCell ?_ ?_ _ | (simp; done) | exact World.size_ext_le _ _ | (simp; omega))))) (congrArg (Value.int .i64) HFA.out))))
        refine wpQuiet_nil ?_
        rintro _ ⟨X, rfl⟩
        go_wp2_with fail
        refine wp_region_ext (by kernel_rfl) (by kernel_rfl) ?_
        repeat (go_big_quiet_step (fail))
        refine wpQuiet_nil ?_
        rintro _ ⟨X, rfl⟩
        go_wp2_with fail
        go_ret
        have hno : g.loads.all (loadOk (ts.map Prod.fst)) = false := by
          rw [List.all_eq_false]; exact ⟨x, List.mem_of_getElem? HI.out, by rw [loadOk_find, HF.out]; simp⟩
        exact ⟨by unfold gearOk; rw [hno]; rfl, (by repeat' (first | with_reducible exact World.Exts.refl _ | with_reducible refine World.Exts.alloc ?_ _ | with_reducible refine World.Exts.drew ?_ | with_reducible refine World.Exts.drewN ?_ _ | with_reducible refine World.Exts.ext ?_ _ | with_reducible refine World.Exts.setCell ?_ ?_ _ | (simp; done) | exact World.size_ext_le _ _ | (simp; omega)))⟩
      · have hjl := lt_of_some hy
        obtain ⟨rfl, hlb⟩ := HP.out (by omega)
        have hcs := HC.out j y hy
        have d0 := hcs 1 _ rfl
        have hstep : 1 ≤ y.1.step := (right_bounds (HOK.out y (List.mem_of_getElem? hy))).2.1.1
        have hlo : loadOk (ts.map Prod.fst) x = shownB x.shown y.1.step := by rw [loadOk_find, hf]
        have HLO := Lib.hid hlo
        clear hlo
        have HFA := Lib.hid ha
        clear ha
        have hj0 : decide ((j : Int) < 0) = false := by simp
        clear hf hpy hy hcs HP
        refine wp_region_ext (by kernel_rfl) (by kernel_rfl) ?_
        repeat (go_big_quiet_step ((go_at_call 40; exact Calls.in_ext_eq (r04_At_any ts _ _ _ (HBAY.out.mono (by repeat' (first | with_reducible exact World.Exts.refl _ | with_reducible refine World.Exts.alloc ?_ _ | with_reducible refine World.Exts.drew ?_ | with_reducible refine World.Exts.drewN ?_ _ | with_reducible refine World.Exts.ext ?_ _ | with_reducible refine World.Exts.setCell ?_ ?_ _ | (simp; done) | exact World.size_ext_le _ _ | (simp; omega))))) (congrArg (Value.int .i64) HFA.out))))
        refine wpQuiet_nil ?_
        rintro _ ⟨X, rfl⟩
        go_wp2_with fail
        refine wp_region_ext (by kernel_rfl) (by kernel_rfl) ?_
        repeat (go_big_quiet_step ((go_at_call 34; exact Calls.in_ext (r04_shown_any _ _ _ hstep))))
        refine wpQuiet_nil ?_
        rintro _ ⟨X, rfl⟩
        go_wp2_with fail
        · have hs : (!shownB x.shown y.1.step) = true := by assumption
          go_ret
          have hno : g.loads.all (loadOk (ts.map Prod.fst)) = false := by
            rw [List.all_eq_false]; exact ⟨x, List.mem_of_getElem? HI.out, by rw [HLO.out]; simpa using hs⟩
          exact ⟨by unfold gearOk; rw [hno]; rfl, (by repeat' (first | with_reducible exact World.Exts.refl _ | with_reducible refine World.Exts.alloc ?_ _ | with_reducible refine World.Exts.drew ?_ | with_reducible refine World.Exts.drewN ?_ _ | with_reducible refine World.Exts.ext ?_ _ | with_reducible refine World.Exts.setCell ?_ ?_ _ | (simp; done) | exact World.size_ext_le _ _ | (simp; omega)))⟩
        · have hs : (!shownB x.shown y.1.step) = false := by assumption
          go_roundw
          case rel => exact ⟨k + 1, by omega, by go_num, Lib.hid (by rw [take_snoc HI.out, List.all_append, HA.out]; simp [HLO.out]; simpa using hs), (by repeat' (first | with_reducible exact World.Exts.refl _ | with_reducible refine World.Exts.alloc ?_ _ | with_reducible refine World.Exts.drew ?_ | with_reducible refine World.Exts.drewN ?_ _ | with_reducible refine World.Exts.ext ?_ _ | with_reducible refine World.Exts.setCell ?_ ?_ _ | (simp; done) | exact World.size_ext_le _ _ | (simp; omega)))⟩
          case measure => simp [intOf]; omega
    · have hkn : k = g.loads.length := by omega
      have hA := HA.out
      rw [hkn, List.take_length] at hA
      have hfin : gearOk (ts.map Prod.fst) g = (decide (g.loads.length ≤ 6) && bare g) := by unfold gearOk; rw [hA]; rfl
      have HF := Lib.hid hfin
      clear hfin
      clear hkn hA
      by_cases h6 : g.loads.length ≤ 6
      all_goals
        go_wp2_with (go_at_call 41; refine (r04_Bare_any g _ _ _ _ (HR.out.mono (by repeat' (first | with_reducible exact World.Exts.refl _ | with_reducible refine World.Exts.alloc ?_ _ | with_reducible refine World.Exts.drew ?_ | with_reducible refine World.Exts.drewN ?_ _ | with_reducible refine World.Exts.ext ?_ _ | with_reducible refine World.Exts.setCell ?_ ?_ _ | (simp; done) | exact World.size_ext_le _ _ | (simp; omega)))) (HS.out.mono (by repeat' (first | with_reducible exact World.Exts.refl _ | with_reducible refine World.Exts.alloc ?_ _ | with_reducible refine World.Exts.drew ?_ | with_reducible refine World.Exts.drewN ?_ _ | with_reducible refine World.Exts.ext ?_ _ | with_reducible refine World.Exts.setCell ?_ ?_ _ | (simp; done) | exact World.size_ext_le _ _ | (simp; omega))))).mono ?_; rintro e w' ⟨rfl, X2, rfl⟩)
        go_ret
        exact ⟨by rw [HF.out]; simp [h6], (by repeat' (first | with_reducible exact World.Exts.refl _ | with_reducible refine World.Exts.alloc ?_ _ | with_reducible refine World.Exts.drew ?_ | with_reducible refine World.Exts.drewN ?_ _ | with_reducible refine World.Exts.ext ?_ _ | with_reducible refine World.Exts.setCell ?_ ?_ _ | (simp; done) | exact World.size_ext_le _ _ | (simp; omega)))⟩

set_option maxHeartbeats 400000 in
theorem r04_Check_any (ts : List (Kr.Scale × Value)) (v : Value) (g : Gear) (lv rv sv : Value) (w : World) (hrow : BayAt w v ts)
    (hl : IsRow (fun t : Kr.Load => [.int .i64 t.scale, .int .i64 t.shown]) 2 w lv g.loads) (hr : IsRow (fun x : Int => [.int .i64 x]) 1 w rv g.runners) (hs : IsRow (fun x : Int => [.int .i64 x]) 1 w sv g.strokes) :
    Calls Try.prog 12 #[.agg #[v], .agg #[lv, .int .i64 g.added, .int .i64 g.base, .int .i64 g.jitter, rv, sv, .int .i64 g.spread, .bool g.stamp]] w fun e w' => e = .returned (.int .i64 (check (ts.map Prod.fst) g)) ∧ w.Exts w' := by
  have HB := Lib.hid hrow
  clear hrow
  have HL := Lib.hid hl
  clear hl
  have HR := Lib.hid hr
  clear hr
  have HS := Lib.hid hs
  clear hs
  cases hb : bayOk (ts.map Prod.fst)
  · have H := Lib.hid hb
    clear hb
    go_enter Try.func12, Try.ntmps12
    go_wp2_with (go_at_call 25; refine (r04_Bay_any ts _ _ (HB.out.mono (by repeat' (first | with_reducible exact World.Exts.refl _ | with_reducible refine World.Exts.alloc ?_ _ | with_reducible refine World.Exts.drew ?_ | with_reducible refine World.Exts.drewN ?_ _ | with_reducible refine World.Exts.ext ?_ _ | with_reducible refine World.Exts.setCell ?_ ?_ _ | (simp; done) | exact World.size_ext_le _ _ | (simp; omega))))).mono ?_; rintro e w' ⟨rfl, X2, rfl⟩; rw [H.out])
    go_ret
    exact ⟨by unfold check; rw [H.out]; rfl, (by repeat' (first | with_reducible exact World.Exts.refl _ | with_reducible refine World.Exts.alloc ?_ _ | with_reducible refine World.Exts.drew ?_ | with_reducible refine World.Exts.drewN ?_ _ | with_reducible refine World.Exts.ext ?_ _ | with_reducible refine World.Exts.setCell ?_ ?_ _ | (simp; done) | exact World.size_ext_le _ _ | (simp; omega)))⟩
  · have hok : ∀ x ∈ ts, right x.1 = true := fun x hx => by
      have h := hb
      unfold bayOk at h
      exact bayFrom_right (by simpa using (Bool.and_eq_true_iff.1 h).1) x.1 (List.mem_map.2 ⟨x, hx, rfl⟩)
    have HOK := Lib.hid hok
    clear hok
    have H := Lib.hid hb
    clear hb
    cases hg : gearOk (ts.map Prod.fst) g
    all_goals
      have HG := Lib.hid hg
      clear hg
      go_enter Try.func12, Try.ntmps12
      go_wp2_with (first
        | (go_at_call 25; refine (r04_Bay_any ts _ _ (HB.out.mono (by repeat' (first | with_reducible exact World.Exts.refl _ | with_reducible refine World.Exts.alloc ?_ _ | with_reducible refine World.Exts.drew ?_ | with_reducible refine World.Exts.drewN ?_ _ | with_reducible refine World.Exts.ext ?_ _ | with_reducible refine World.Exts.setCell ?_ ?_ _ | (simp; done) | exact World.size_ext_le _ _ | (simp; omega))))).mono ?_; rintro e w' ⟨rfl, X2, rfl⟩; rw [H.out])
        | (go_at_call 26; refine (r04_Gear_any ts _ g _ _ _ _ (HB.out.mono (by repeat' (first | with_reducible exact World.Exts.refl _ | with_reducible refine World.Exts.alloc ?_ _ | with_reducible refine World.Exts.drew ?_ | with_reducible refine World.Exts.drewN ?_ _ | with_reducible refine World.Exts.ext ?_ _ | with_reducible refine World.Exts.setCell ?_ ?_ _ | (simp; done) | exact World.size_ext_le _ _ | (simp; omega)))) HOK.out (HL.out.mono (by repeat' (first | with_reducible exact World.Exts.refl _ | with_reducible refine World.Exts.alloc ?_ _ | with_reducible refine World.Exts.drew ?_ | with_reducible refine World.Exts.drewN ?_ _ | with_reducible refine World.Exts.ext ?_ _ | with_reducible refine World.Exts.setCell ?_ ?_ _ | (simp; done) | exact World.size_ext_le _ _ | (simp; omega)))) (HR.out.mono (by repeat' (first | with_reducible exact World.Exts.refl _ | with_reducible refine World.Exts.alloc ?_ _ | with_reducible refine World.Exts.drew ?_ | with_reducible refine World.Exts.drewN ?_ _ | with_reducible refine World.Exts.ext ?_ _ | with_reducible refine World.Exts.setCell ?_ ?_ _ | (simp; done) | exact World.size_ext_le _ _ | (simp; omega)))) (HS.out.mono (by repeat' (first | with_reducible exact World.Exts.refl _ | with_reducible refine World.Exts.alloc ?_ _ | with_reducible refine World.Exts.drew ?_ | with_reducible refine World.Exts.drewN ?_ _ | with_reducible refine World.Exts.ext ?_ _ | with_reducible refine World.Exts.setCell ?_ ?_ _ | (simp; done) | exact World.size_ext_le _ _ | (simp; omega))))).mono ?_; rintro e w' ⟨rfl, X3, rfl⟩; rw [HG.out]))
      go_ret
      exact ⟨by unfold check; rw [H.out, HG.out]; rfl, (by repeat' (first | with_reducible exact World.Exts.refl _ | with_reducible refine World.Exts.alloc ?_ _ | with_reducible refine World.Exts.drew ?_ | with_reducible refine World.Exts.drewN ?_ _ | with_reducible refine World.Exts.ext ?_ _ | with_reducible refine World.Exts.setCell ?_ ?_ _ | (simp; done) | exact World.size_ext_le _ _ | (simp; omega)))⟩

def great (ts : List (Kr.Scale × Value)) (g : Gear) : Bool := decide (8 < ts.length) || decide (10 < g.loads.length) || decide (12 < g.runners.length) || decide (12 < g.strokes.length) || ts.any (fun x => decide (10 < x.1.trials.length))

set_option maxHeartbeats 1000000 in
theorem r04_Great_any (ts : List (Kr.Scale × Value)) (v : Value) (g : Gear) (lv rv sv : Value) (w : World) (hrow : BayAt w v ts)
    (hl : IsRow (fun t : Kr.Load => [.int .i64 t.scale, .int .i64 t.shown]) 2 w lv g.loads) (hr : IsRow (fun x : Int => [.int .i64 x]) 1 w rv g.runners) (hs : IsRow (fun x : Int => [.int .i64 x]) 1 w sv g.strokes) :
    Calls Try.prog 4 #[.agg #[v], .agg #[lv, .int .i64 g.added, .int .i64 g.base, .int .i64 g.jitter, rv, sv, .int .i64 g.spread, .bool g.stamp]] w fun e w' => e = .returned (.bool (great ts g)) ∧ w.Exts w' := by
  obtain ⟨p, b, o, cap, rfl, hm, hp, hc⟩ := hrow.row.ex
  obtain ⟨p1, c1, rfl⟩ := hl.len
  obtain ⟨p2, c2, rfl⟩ := hr.len
  obtain ⟨p3, c3, rfl⟩ := hs.len
  have ht := hrow.tr
  clear hrow hl hr hs
  have HC := Lib.hid hc
  clear hc
  have HP := Lib.hid hp
  clear hp
  have HT := Lib.hid ht
  clear ht
  by_cases h1 : 8 < ts.length
  · go_enter Try.func4, Try.ntmps4
    go_wp2_with fail
    go_ret
    exact ⟨by unfold great; simp; omega, (by repeat' (first | with_reducible exact World.Exts.refl _ | with_reducible refine World.Exts.alloc ?_ _ | with_reducible refine World.Exts.drew ?_ | with_reducible refine World.Exts.drewN ?_ _ | with_reducible refine World.Exts.ext ?_ _ | with_reducible refine World.Exts.setCell ?_ ?_ _ | (simp; done) | exact World.size_ext_le _ _ | (simp; omega)))⟩
  by_cases h2 : 10 < g.loads.length
  · go_enter Try.func4, Try.ntmps4
    go_wp2_with fail
    go_ret
    exact ⟨by unfold great; simp; omega, (by repeat' (first | with_reducible exact World.Exts.refl _ | with_reducible refine World.Exts.alloc ?_ _ | with_reducible refine World.Exts.drew ?_ | with_reducible refine World.Exts.drewN ?_ _ | with_reducible refine World.Exts.ext ?_ _ | with_reducible refine World.Exts.setCell ?_ ?_ _ | (simp; done) | exact World.size_ext_le _ _ | (simp; omega)))⟩
  by_cases h3 : 12 < g.runners.length
  · go_enter Try.func4, Try.ntmps4
    go_wp2_with fail
    go_ret
    exact ⟨by unfold great; simp; omega, (by repeat' (first | with_reducible exact World.Exts.refl _ | with_reducible refine World.Exts.alloc ?_ _ | with_reducible refine World.Exts.drew ?_ | with_reducible refine World.Exts.drewN ?_ _ | with_reducible refine World.Exts.ext ?_ _ | with_reducible refine World.Exts.setCell ?_ ?_ _ | (simp; done) | exact World.size_ext_le _ _ | (simp; omega)))⟩
  by_cases h4 : 12 < g.strokes.length
  · go_enter Try.func4, Try.ntmps4
    go_wp2_with fail
    go_ret
    exact ⟨by unfold great; simp; omega, (by repeat' (first | with_reducible exact World.Exts.refl _ | with_reducible refine World.Exts.alloc ?_ _ | with_reducible refine World.Exts.drew ?_ | with_reducible refine World.Exts.drewN ?_ _ | with_reducible refine World.Exts.ext ?_ _ | with_reducible refine World.Exts.setCell ?_ ?_ _ | (simp; done) | exact World.size_ext_le _ _ | (simp; omega)))⟩
  · go_enter Try.func4, Try.ntmps4
    go_wp2_with fail
    go_loopw [5] (fun i wr => ∃ k : Nat, k ≤ ts.length ∧ i = .int .i64 k ∧ Hid (∀ x ∈ ts.take k, ¬ 10 < x.1.trials.length) ∧ ((w.alloc (.cells #[.slice p ts.length cap] 24)).alloc (.cells #[.slice p1 g.loads.length c1, .int .i64 g.added, .int .i64 g.base, .int .i64 g.jitter, .slice p2 g.runners.length c2, .slice p3 g.strokes.length c3, .int .i64 g.spread, .bool g.stamp] 28)).Exts wr) (fun i _ => ts.length - (intOf i).toNat)
    case atStart => exact ⟨0, Nat.zero_le _, rfl, Lib.hid (fun y hy => by simp at hy), (by repeat' (first | with_reducible exact World.Exts.refl _ | with_reducible refine World.Exts.alloc ?_ _ | with_reducible refine World.Exts.drew ?_ | with_reducible refine World.Exts.drewN ?_ _ | with_reducible refine World.Exts.ext ?_ _ | with_reducible refine World.Exts.setCell ?_ ?_ _ | (simp; done) | exact World.size_ext_le _ _ | (simp; omega)))⟩
    case round =>
      obtain ⟨k, hk, rfl, HA, X, rfl⟩ := hrel
      by_cases hlt : k < ts.length
      · obtain ⟨rfl, hl⟩ := HP.out (by omega)
        obtain ⟨x, hx⟩ := some_of_lt hlt
        have hcs := HC.out k x hx
        have c6 := hcs 6 _ rfl
        obtain ⟨q, cq, htv⟩ := (HT.out x (List.mem_of_getElem? hx)).len
        rw [htv] at c6
        have HI := Lib.hid hx
        clear hx
        clear hcs HP htv
        by_cases h10 : 10 < x.1.trials.length
        · go_wp2_with fail
          go_ret
          have hy : ts.any (fun x => decide (10 < x.1.trials.length)) = true := List.any_eq_true.2 ⟨x, List.mem_of_getElem? HI.out, by simpa using h10⟩
          exact ⟨by unfold great; rw [hy]; simp, (by repeat' (first | with_reducible exact World.Exts.refl _ | with_reducible refine World.Exts.alloc ?_ _ | with_reducible refine World.Exts.drew ?_ | with_reducible refine World.Exts.drewN ?_ _ | with_reducible refine World.Exts.ext ?_ _ | with_reducible refine World.Exts.setCell ?_ ?_ _ | (simp; done) | exact World.size_ext_le _ _ | (simp; omega)))⟩
        · go_wp2_with fail
          go_roundw
          case rel => exact ⟨k + 1, by omega, by go_num, Lib.hid (by rw [take_snoc HI.out]; intro y hy; rcases List.mem_append.1 hy with h | h; exact HA.out y h; rw [List.mem_singleton.1 h]; omega), (by repeat' (first | with_reducible exact World.Exts.refl _ | with_reducible refine World.Exts.alloc ?_ _ | with_reducible refine World.Exts.drew ?_ | with_reducible refine World.Exts.drewN ?_ _ | with_reducible refine World.Exts.ext ?_ _ | with_reducible refine World.Exts.setCell ?_ ?_ _ | (simp; done) | exact World.size_ext_le _ _ | (simp; omega)))⟩
          case measure => simp [intOf]; omega
      · have hkn : k = ts.length := by omega
        have hA := HA.out
        rw [hkn, List.take_length] at hA
        have HA2 := Lib.hid hA
        clear hA
        clear hkn
        go_wp2_with fail
        go_ret
        have hy : ts.any (fun x => decide (10 < x.1.trials.length)) = false := by rw [List.any_eq_false]; intro x hx; have := HA2.out x hx; simpa using this
        exact ⟨by unfold great; rw [hy]; simp; omega, (by repeat' (first | with_reducible exact World.Exts.refl _ | with_reducible refine World.Exts.alloc ?_ _ | with_reducible refine World.Exts.drew ?_ | with_reducible refine World.Exts.drewN ?_ _ | with_reducible refine World.Exts.ext ?_ _ | with_reducible refine World.Exts.setCell ?_ ?_ _ | (simp; done) | exact World.size_ext_le _ _ | (simp; omega)))⟩
end Go.Proofs.Ythogfmaclbmgoaa
