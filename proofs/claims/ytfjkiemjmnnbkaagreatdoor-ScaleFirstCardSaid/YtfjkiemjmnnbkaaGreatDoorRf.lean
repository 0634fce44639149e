/-
  Several texts in one: see the heads of its parts.
-/
import Derived.Test.YtfjkiemjmnnbkaaGreatDoorRe

/-
  Walks of the reference of layer 4: Tunes, Reads.
-/
namespace Go.Proofs.YtfjkiemjmnnbkaaGreatDoor
open Go.RowKit Kr

end Go.Proofs.YtfjkiemjmnnbkaaGreatDoor

/-
  Walks of the reference of layer 4: a twin of a scale; whether tunes, bays are the same.
-/
namespace Go.Proofs.YtfjkiemjmnnbkaaGreatDoor
open Go.RowKit Kr

theorem elem_Trial : ElemOf Tryz.prog 57 95 (.agg #[.int .i64 0, .int .i64 0]) 2 16 := ⟨Tryz.underlying57, by kernel_rfl, rfl, by decide, by decide⟩

set_option maxHeartbeats 1000000 in
theorem r04_TwinScale_any (s : Scale) (tv : Value) (w : World) (hrow : IsRow (fun t : Kr.Trial => [.int .i64 t.weight, .int .i64 t.shown]) 2 w tv s.trials) (hlen : s.trials.length ≤ 1000) :
    Calls Tryz.prog 43 #[.agg #[.int .i64 s.id, .int .i64 s.step, .int .i64 s.gain.lo, .int .i64 s.gain.hi, .int .i64 s.off.lo, .int .i64 s.off.hi, tv]] w fun e w' => ∃ v, e = .returned (.agg #[.int .i64 s.id, .int .i64 s.step, .int .i64 s.gain.lo, .int .i64 s.gain.hi, .int .i64 s.off.lo, .int .i64 s.off.hi, v]) ∧ IsRow (fun t : Kr.Trial => [.int .i64 t.weight, .int .i64 t.shown]) 2 w' v s.trials ∧ w.Exts w' := by
  obtain ⟨p, cap, rfl⟩ := hrow.len
  have HR := Lib.hid hrow
  clear hrow
  go_enter Tryz.func43, Tryz.ntmps43
  have hown : (((w.alloc (.cells #[.int .i64 s.id, .int .i64 s.step, .int .i64 s.gain.lo, .int .i64 s.gain.hi, .int .i64 s.off.lo, .int .i64 s.off.hi, .slice p s.trials.length cap] 59)).alloc (.cells #[.int .i64 0, .int .i64 0, .int .i64 0, .int .i64 0, .int .i64 0, .int .i64 0, .slice none 0 0] 59)).alloc (.cells #[] 95)).ownsRow (w.heap.size + 1 + 1) 95 2 (.slice (some ⟨w.heap.size + 1 + 1, 0, none⟩) 0 0) 0 [] := by
    have h := World.ownsRow_made (base := w.heap.size + 1 + 1) (e := 95) (size := 2) ((w.alloc (.cells #[.int .i64 s.id, .int .i64 s.step, .int .i64 s.gain.lo, .int .i64 s.gain.hi, .int .i64 s.off.lo, .int .i64 s.off.hi, .slice p s.trials.length cap] 59)).alloc (.cells #[.int .i64 0, .int .i64 0, .int .i64 0, .int .i64 0, .int .i64 0, .int .i64 0, .slice none 0 0] 59)) #[] 0 (by simp) (by decide) rfl
    simpa using h
  have HOW := Lib.hid hown
  clear hown
  go_wp2_with (at_builtin; refine wpList_append_row (.tmp 3) (.tmp 5) elem_Trial rfl rfl rfl HOW.out rfl (HR.out.mono exq) ?he ?h1 ?h2 ?h3 ?_)
  case he => exact fun _ _ => rfl
  case h1 => exact fun _ _ u hu => by simp at hu; rcases hu with rfl | rfl <;> rfl
  case h2 => omega
  case h3 => simp
  intro v' w' hown' happ
  obtain ⟨X, rfl⟩ := happ.exts ((w.alloc (.cells #[.int .i64 s.id, .int .i64 s.step, .int .i64 s.gain.lo, .int .i64 s.gain.hi, .int .i64 s.off.lo, .int .i64 s.off.hi, .slice p s.trials.length cap] 59)).alloc (.cells #[.int .i64 0, .int .i64 0, .int .i64 0, .int .i64 0, .int .i64 0, .int .i64 0, .slice none 0 0] 59)) exq (by simp)
  have hrow' : IsRow (fun t : Kr.Trial => [.int .i64 t.weight, .int .i64 t.shown]) 2 _ v' s.trials := IsRow.of_owns (by simpa using hown') (fun _ _ => rfl)
  obtain ⟨q, cp, rfl⟩ := hrow'.len
  have HO2 := Lib.hid hown'
  clear hown'
  clear hrow' happ
  go_wp2_with fail
  refine bodyPost_ret (v := .agg #[.int .i64 s.id, .int .i64 s.step, .int .i64 s.gain.lo, .int .i64 s.gain.hi, .int .i64 s.off.lo, .int .i64 s.off.hi, .slice q s.trials.length cp]) (by simp [results, Tryz.results43, go_sem]) rfl ?_
  refine ⟨_, rfl, IsRow.of_owns (base := w.heap.size + 1 + 1) (e := 95) ?_ (fun _ _ => rfl), exq⟩
  have h := HO2.out
  iterate 8 refine World.ownsRow.set ?_ (by simp; try omega) _
  exact h

set_option maxHeartbeats 400000 in
/-- Two rows of the same tunes are the same. -/
theorem r04_SameTunes_any (l : List Tune) (v1 v2 : Value) (w : World) (h1 : IsRow (fun t : Kr.Tune => [.int .i64 t.gain, .int .i64 t.off.lo, .int .i64 t.off.hi]) 3 w v1 l) (h2 : IsRow (fun t : Kr.Tune => [.int .i64 t.gain, .int .i64 t.off.lo, .int .i64 t.off.hi]) 3 w v2 l) :
    Calls Tryz.prog 118 #[v1, v2] w fun e w' => e = .returned (.bool true) ∧ w.Exts w' := by
  obtain ⟨p1, b1, o1, cap1, rfl, hm, hp1, hc1⟩ := h1.ex
  obtain ⟨p2, b2, o2, cap2, rfl, _, hp2, hc2⟩ := h2.ex
  have HC1 := Lib.hid hc1
  clear hc1
  have HC2 := Lib.hid hc2
  clear hc2
  clear h1 h2
  go_enter Tryz.func118, Tryz.ntmps118
  go_wp2_with fail
  go_loopw [5] (fun i wr => ∃ k : Nat, k ≤ l.length ∧ i = .int .i64 k ∧ w.Exts wr) (fun i _ => l.length - (intOf i).toNat)
  case atStart => exact ⟨0, Nat.zero_le _, rfl, exq⟩
  case round =>
    obtain ⟨k, hk, rfl, X, rfl⟩ := hrel
    by_cases hlt : k < l.length
    · obtain ⟨rfl, hl1⟩ := hp1 (by omega)
      obtain ⟨rfl, hl2⟩ := hp2 (by omega)
      obtain ⟨x, hx⟩ := some_of_lt hlt
      have c1 := HC1.out k x hx
      have c2 := HC2.out k x hx
      have c10 := c1 0 _ rfl
      have c11 := c1 1 _ rfl
      have c12 := c1 2 _ rfl
      have c20 := c2 0 _ rfl
      have c21 := c2 1 _ rfl
      have c22 := c2 2 _ rfl
      simp only [Nat.add_zero] at c10 c11 c12 c20 c21 c22
      clear hx c1 c2 hp1 hp2
      go_wp2_with fail
      refine wp_region_ext (by kernel_rfl) (by kernel_rfl) ?_
      repeat (go_big_quiet_step (fail))
      refine wpQuiet_nil ?_
      rintro _ ⟨X, rfl⟩
      go_wp2_with fail
      go_roundw
      case rel => exact ⟨k + 1, by omega, by go_num, exq⟩
      case measure => simp [intOf]; omega
    · go_wp2_with fail
      go_ret
      exact ⟨rfl, exq⟩

end Go.Proofs.YtfjkiemjmnnbkaaGreatDoor
