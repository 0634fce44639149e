/-
  Several texts in one: see the heads of its parts.
-/
import Derived.Test.YtilmniopollbiaaGreatDoorScFG

/-
  Walks of the reference of layer 4: Tunes, Reads.
-/
namespace Go.Proofs.YtilmniopollbiaaGreatDoor
open Go.RowKit Kr

end Go.Proofs.YtilmniopollbiaaGreatDoor

/-
  Walks of the reference of layer 4: a twin of a scale; whether tunes, bays are the same.
-/
namespace Go.Proofs.YtilmniopollbiaaGreatDoor
open Go.RowKit Kr

theorem elem_Trial : ElemOf Tryz.prog 92 117 (.agg #[.int .i64 0, .int .i64 0]) 2 16 := ⟨Tryz.underlying92, by kernel_rfl, rfl, by decide, by decide⟩

set_option maxHeartbeats 1000000 in
theorem r04_TwinScale_any (s : Scale) (tv : Value) (w : World) (hrow : IsRow (fun t : Kr.Trial => [.int .i64 t.weight, .int .i64 t.shown]) 2 w tv s.trials) (hlen : s.trials.length ≤ 1000) :
    Calls Tryz.prog 42 #[.agg #[.int .i64 s.id, .int .i64 s.step, .int .i64 s.gain.lo, .int .i64 s.gain.hi, .int .i64 s.off.lo, .int .i64 s.off.hi, tv]] w fun e w' => ∃ v, e = .returned (.agg #[.int .i64 s.id, .int .i64 s.step, .int .i64 s.gain.lo, .int .i64 s.gain.hi, .int .i64 s.off.lo, .int .i64 s.off.hi, v]) ∧ IsRow (fun t : Kr.Trial => [.int .i64 t.weight, .int .i64 t.shown]) 2 w' v s.trials ∧ w.Exts w' := by
  obtain ⟨p, cap, rfl⟩ := hrow.len
  have HR := Lib.hid hrow
  clear hrow
  go_enter Tryz.func42, Tryz.ntmps42
  have hown : (((w.alloc (.cells #[.int .i64 s.id, .int .i64 s.step, .int .i64 s.gain.lo, .int .i64 s.gain.hi, .int .i64 s.off.lo, .int .i64 s.off.hi, .slice p s.trials.length cap] 94)).alloc (.cells #[.int .i64 0, .int .i64 0, .int .i64 0, .int .i64 0, .int .i64 0, .int .i64 0, .slice none 0 0] 94)).alloc (.cells #[] 117)).ownsRow (w.heap.size + 1 + 1) 117 2 (.slice (some ⟨w.heap.size + 1 + 1, 0, none⟩) 0 0) 0 [] := by
    have h := World.ownsRow_made (base := w.heap.size + 1 + 1) (e := 117) (size := 2) ((w.alloc (.cells #[.int .i64 s.id, .int .i64 s.step, .int .i64 s.gain.lo, .int .i64 s.gain.hi, .int .i64 s.off.lo, .int .i64 s.off.hi, .slice p s.trials.length cap] 94)).alloc (.cells #[.int .i64 0, .int .i64 0, .int .i64 0, .int .i64 0, .int .i64 0, .int .i64 0, .slice none 0 0] 94)) #[] 0 (by simp) (by decide) rfl
    simpa using h
  have HOW := Lib.hid hown
  clear hown
  go_wp2_with (at_builtin; refine wpList_append_row (.tmp 3) (.tmp 5) elem_Trial rfl rfl rfl HOW.out rfl (HR.out.mono exq) ?he ?h1 ?h2 ?h3 ?_)
  case he => exact fun _ _ => rfl
  case h1 => exact fun _ _ u hu => by simp at hu; rcases hu with rfl | rfl <;> rfl
  case h2 => omega
  case h3 => simp
  intro v' w' hown' happ
  obtain ⟨X, rfl⟩ := happ.exts ((w.alloc (.cells #[.int .i64 s.id, .int .i64 s.step, .int .i64 s.gain.lo, .int .i64 s.gain.hi, .int .i64 s.off.lo, .int .i64 s.off.hi, .slice p s.trials.length cap] 94)).alloc (.cells #[.int .i64 0, .int .i64 0, .int .i64 0, .int .i64 0, .int .i64 0, .int .i64 0, .slice none 0 0] 94)) exq (by simp)
  have hrow' : IsRow (fun t : Kr.Trial => [.int .i64 t.weight, .int .i64 t.shown]) 2 _ v' s.trials := IsRow.of_owns (by simpa using hown') (fun _ _ => rfl)
  obtain ⟨q, cp, rfl⟩ := hrow'.len
  have HO2 := Lib.hid hown'
  clear hown'
  clear hrow' happ
  go_wp2_with fail
  refine bodyPost_ret (v := .agg #[.int .i64 s.id, .int .i64 s.step, .int .i64 s.gain.lo, .int .i64 s.gain.hi, .int .i64 s.off.lo, .int .i64 s.off.hi, .slice q s.trials.length cp]) (by simp [results, Tryz.results42, go_sem]) rfl ?_
  refine ⟨_, rfl, IsRow.of_owns (base := w.heap.size + 1 + 1) (e := 117) ?_ (fun _ _ => rfl), exq⟩
  have h := HO2.out
  iterate 8 refine World.ownsRow.set ?_ (by simp; try omega) _
  exact h

set_option maxRecDepth 4000 in
set_option maxHeartbeats 2000000 in
/-- Two bays of the same scales are the same. -/
theorem r04_SameBay_any (xs ys : List (Kr.Scale × Value)) (v1 v2 : Value) (w : World) (h1 : BayAt w v1 xs) (h2 : BayAt w v2 ys) (he : xs.map Prod.fst = ys.map Prod.fst) :
    Calls Tryz.prog 20 #[.agg #[v1], .agg #[v2]] w fun e w' => e = .returned (.bool true) ∧ w.Exts w' := by
  have hlen : ys.length = xs.length := by rw [← List.length_map (f := Prod.fst), ← he, List.length_map]
  obtain ⟨p1, b1, o1, cap1, rfl, hm, hp1, hc1⟩ := h1.row.ex
  obtain ⟨p2, b2, o2, cap2, rfl, _, hp2, hc2⟩ := h2.row.ex
  have ht1 := h1.tr
  have ht2 := h2.tr
  rw [hlen] at hp2 ⊢
  have HC1 := Lib.hid hc1
  clear hc1
  have HC2 := Lib.hid hc2
  clear hc2
  have HT1 := Lib.hid ht1
  clear ht1
  have HT2 := Lib.hid ht2
  clear ht2
  have HE := Lib.hid he
  clear he
  clear h1 h2
  go_enter Tryz.func20, Tryz.ntmps20
  go_wp2_with fail
  go_loopw [5] (fun i wr => ∃ k : Nat, k ≤ xs.length ∧ i = .int .i64 k ∧ ((w.alloc (.cells #[.slice p1 xs.length cap1] 34)).alloc (.cells #[.slice p2 xs.length cap2] 34)).Exts wr) (fun i _ => xs.length - (intOf i).toNat)
  case atStart => exact ⟨0, Nat.zero_le _, rfl, exq⟩
  case round =>
    obtain ⟨k, hk, rfl, X, rfl⟩ := hrel
    by_cases hlt : k < xs.length
    · obtain ⟨rfl, hl1⟩ := hp1 (by omega)
      obtain ⟨rfl, hl2⟩ := hp2 (by omega)
      obtain ⟨⟨x, xv⟩, hx⟩ := some_of_lt hlt
      obtain ⟨⟨y, yv⟩, hy⟩ := some_of_lt (show k < ys.length by omega)
      have hxy : x = y := by
        have h := congrArg (fun l => l[k]?) HE.out
        simpa [hx, hy] using h
      subst hxy
      have hr1 := HT1.out _ (List.mem_of_getElem? hx)
      have hr2 := HT2.out _ (List.mem_of_getElem? hy)
      obtain ⟨q1, d1, s1, e1, hv1, _, hq1, hd1⟩ := hr1.ex
      obtain ⟨q2, d2, s2, e2, hv2, _, hq2, hd2⟩ := hr2.ex
      have hcs := HC1.out k _ hx
      have hct := HC2.out k _ hy
      have c0 := hcs 0 _ rfl
      have c1 := hcs 1 _ rfl
      have c2 := hcs 2 _ rfl
      have c3 := hcs 3 _ rfl
      have c4 := hcs 4 _ rfl
      have c5 := hcs 5 _ rfl
      have c6 := hcs 6 _ rfl
      have f0 := hct 0 _ rfl
      have f1 := hct 1 _ rfl
      have f2 := hct 2 _ rfl
      have f3 := hct 3 _ rfl
      have f4 := hct 4 _ rfl
      have f5 := hct 5 _ rfl
      have f6 := hct 6 _ rfl
      simp only [Nat.add_zero] at c0 c1 c2 c3 c4 c5 c6 f0 f1 f2 f3 f4 f5 f6
      dsimp only at hv1 hv2 hq1 hq2 hd1 hd2 c0 c1 c2 c3 c4 c5 c6 f0 f1 f2 f3 f4 f5 f6
      subst hv1
      subst hv2
      have HD1 := Lib.hid hd1
      clear hd1
      have HD2 := Lib.hid hd2
      clear hd2
      have HQ1 := Lib.hid hq1
      clear hq1
      have HQ2 := Lib.hid hq2
      clear hq2
      clear hx hy hcs hct hr1 hr2 hp1 hp2
      go_wp2_with fail
      go_big_region
      · go_wp2_with fail
        go_loopw [8] (fun i wr => ∃ m : Nat, m ≤ x.trials.length ∧ i = .int .i64 m ∧ (World.ext _ X).Exts wr ∧ Lays wr ((World.ext _ X).heap.size) ∧ Lays wr ((World.ext _ X).heap.size + 1) ∧ wr.cell? ⟨(World.ext _ X).heap.size, 6, none⟩ = some (.slice q1 x.trials.length e1) ∧ wr.cell? ⟨(World.ext _ X).heap.size + 1, 6, none⟩ = some (.slice q2 x.trials.length e2)) (fun i _ => x.trials.length - (intOf i).toNat)
        case atStart => exact ⟨0, Nat.zero_le _, rfl, exq, inferInstance, inferInstance, by simp [go_sem], by simp [go_sem]⟩
        case round =>
          obtain ⟨m, hm2, rfl, hE, l6, l7, g6, g7⟩ := hrel
          obtain ⟨X4, rfl⟩ := hE
          by_cases hlt2 : m < x.trials.length
          · obtain ⟨rfl, hk1⟩ := HQ1.out (by omega)
            obtain ⟨rfl, hk2⟩ := HQ2.out (by omega)
            obtain ⟨t, ht⟩ := some_of_lt hlt2
            have a1 := HD1.out m t ht
            have a2 := HD2.out m t ht
            have a10 := a1 0 _ rfl
            have a11 := a1 1 _ rfl
            have a20 := a2 0 _ rfl
            have a21 := a2 1 _ rfl
            simp only [Nat.add_zero] at a10 a11 a20 a21
            clear ht a1 a2
            go_wp2_with fail
            refine wp_region_ext (by kernel_rfl) (by kernel_rfl) ?_
            repeat (go_big_quiet_step (fail))
            refine wpQuiet_nil ?_
            rintro _ ⟨X, rfl⟩
            go_wp2_with fail
            go_roundw
            case rel => exact ⟨m + 1, by omega, by go_num, exq, inferInstance, inferInstance, by simp [go_sem, g6], by simp [go_sem, g7]⟩
            case measure => simp [intOf]; omega
          · go_wp2_with fail
            go_roundw
            case rel => exact ⟨k + 1, by omega, by go_num, exq⟩
            case measure => simp [intOf]; omega
      · go_wp2_with fail
        go_loopw [8] (fun i wr => ∃ m : Nat, m ≤ x.trials.length ∧ i = .int .i64 m ∧ (World.ext _ X).Exts wr ∧ Lays wr ((World.ext _ X).heap.size + 1) ∧ Lays wr ((World.ext _ X).heap.size) ∧ wr.cell? ⟨(World.ext _ X).heap.size + 1, 6, none⟩ = some (.slice q1 x.trials.length e1) ∧ wr.cell? ⟨(World.ext _ X).heap.size, 6, none⟩ = some (.slice q2 x.trials.length e2)) (fun i _ => x.trials.length - (intOf i).toNat)
        case atStart => exact ⟨0, Nat.zero_le _, rfl, exq, inferInstance, inferInstance, by simp [go_sem], by simp [go_sem]⟩
        case round =>
          obtain ⟨m, hm2, rfl, hE, l6, l7, g6, g7⟩ := hrel
          obtain ⟨X4, rfl⟩ := hE
          by_cases hlt2 : m < x.trials.length
          · obtain ⟨rfl, hk1⟩ := HQ1.out (by omega)
            obtain ⟨rfl, hk2⟩ := HQ2.out (by omega)
            obtain ⟨t, ht⟩ := some_of_lt hlt2
            have a1 := HD1.out m t ht
            have a2 := HD2.out m t ht
            have a10 := a1 0 _ rfl
            have a11 := a1 1 _ rfl
            have a20 := a2 0 _ rfl
            have a21 := a2 1 _ rfl
            simp only [Nat.add_zero] at a10 a11 a20 a21
            clear ht a1 a2
            go_wp2_with fail
            refine wp_region_ext (by kernel_rfl) (by kernel_rfl) ?_
            repeat (go_big_quiet_step (fail))
            refine wpQuiet_nil ?_
            rintro _ ⟨X, rfl⟩
            go_wp2_with fail
            go_roundw
            case rel => exact ⟨m + 1, by omega, by go_num, exq, inferInstance, inferInstance, by simp [go_sem, g6], by simp [go_sem, g7]⟩
            case measure => simp [intOf]; omega
          · go_wp2_with fail
            go_roundw
            case rel => exact ⟨k + 1, by omega, by go_num, exq⟩
            case measure => simp [intOf]; omega
    · go_wp2_with fail
      go_ret
      exact ⟨rfl, exq⟩
end Go.Proofs.YtilmniopollbiaaGreatDoor
