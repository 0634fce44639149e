/-
  Walks of the reference of layer 4: Tunes, Reads.
-/
import Derived.Test.YthogfmaclbmgoaaRe
namespace Go.Proofs.Ythogfmaclbmgoaa
open Go.RowKit Kr

set_option maxHeartbeats 400000 in
theorem r04_Tunes_any (s : Scale) (tv : Value) (w : World) (hrow : IsRow (fun t : Kr.Trial => [.int .i64 t.weight, .int .i64 t.shown]) 2 w tv s.trials) :
    Calls Try.prog 7 #[.agg #[.int .i64 s.id, .int .i64 s.step, .int .i64 s.gain.lo, .int .i64 s.gain.hi, .int .i64 s.off.lo, .int .i64 s.off.hi, tv]] w fun e w' => ∃ v, e = .returned (.tuple #[v, .int .i64 (if right s then (if tunes s = [] then 6 else 0) else 40)]) ∧ IsRow (fun t : Kr.Tune => [.int .i64 t.gain, .int .i64 t.off.lo, .int .i64 t.off.hi]) 3 w' v (if right s then tunes s else []) ∧ w.Exts w' := by
  have HR := Lib.hid hrow
  clear hrow
  cases hr : right s
  · have HOK := Lib.hid hr
    clear hr
    go_enter Try.func7, Try.ntmps7
    go_wp2_with (go_at_call 17; refine (r04_Scale_any s _ _ (HR.out.mono (by repeat' (first | with_reducible exact World.Exts.refl _ | with_reducible refine World.Exts.alloc ?_ _ | with_reducible refine World.Exts.drew ?_ | with_reducible refine World.Exts.drewN ?_ _ | with_reducible refine World.Exts.ext ?_ _ | with_reducible refine World.Exts.setCell ?_ ?_ _ | (simp; done) | exact World.size_ext_le _ _ | (simp; omega))))).mono ?_; rintro e w' ⟨rfl, X2, rfl⟩; rw [HOK.out])
    go_ret2
    exact ⟨_, rfl, IsRow.nil _, (by repeat' (first | with_reducible exact World.Exts.refl _ | with_reducible refine World.Exts.alloc ?_ _ | with_reducible refine World.Exts.drew ?_ | with_reducible refine World.Exts.drewN ?_ _ | with_reducible refine World.Exts.ext ?_ _ | with_reducible refine World.Exts.setCell ?_ ?_ _ | (simp; done) | exact World.size_ext_le _ _ | (simp; omega)))⟩
  · cases hl : tunes s with
    | nil =>
      have HOK := Lib.hid hr
      clear hr
      have HL := Lib.hid hl
      clear hl
      go_enter Try.func7, Try.ntmps7
      go_wp2_with (first
        | (go_at_call 17; refine (r04_Scale_any s _ _ (HR.out.mono (by repeat' (first | with_reducible exact World.Exts.refl _ | with_reducible refine World.Exts.alloc ?_ _ | with_reducible refine World.Exts.drew ?_ | with_reducible refine World.Exts.drewN ?_ _ | with_reducible refine World.Exts.ext ?_ _ | with_reducible refine World.Exts.setCell ?_ ?_ _ | (simp; done) | exact World.size_ext_le _ _ | (simp; omega))))).mono ?_; rintro e w' ⟨rfl, X2, rfl⟩; rw [HOK.out])
        | (go_at_call 18; refine (r04_tunes_any s _ _ (HR.out.mono (by repeat' (first | with_reducible exact World.Exts.refl _ | with_reducible refine World.Exts.alloc ?_ _ | with_reducible refine World.Exts.drew ?_ | with_reducible refine World.Exts.drewN ?_ _ | with_reducible refine World.Exts.ext ?_ _ | with_reducible refine World.Exts.setCell ?_ ?_ _ | (simp; done) | exact World.size_ext_le _ _ | (simp; omega)))) HOK.out).mono ?_; rintro e w' ⟨v, rfl, ho, X3, rfl⟩; obtain ⟨q, cp, rfl⟩ := (row_tunes ho).len; rw [HL.out]; clear ho))
      go_ret2
      exact ⟨_, rfl, IsRow.nil _, (by repeat' (first | with_reducible exact World.Exts.refl _ | with_reducible refine World.Exts.alloc ?_ _ | with_reducible refine World.Exts.drew ?_ | with_reducible refine World.Exts.drewN ?_ _ | with_reducible refine World.Exts.ext ?_ _ | with_reducible refine World.Exts.setCell ?_ ?_ _ | (simp; done) | exact World.size_ext_le _ _ | (simp; omega)))⟩
    | cons t l =>
      have hlen : 0 < (tunes s).length := by rw [hl]; simp
      have hlen2 := tunesN_len s s.gain.lo (gainN s)
      have HOK := Lib.hid hr
      clear hr
      have HL := Lib.hid hl
      clear hl
      go_enter Try.func7, Try.ntmps7
      go_wp2_with (first
        | (go_at_call 17; refine (r04_Scale_any s _ _ (HR.out.mono (by repeat' (first | with_reducible exact World.Exts.refl _ | with_reducible refine World.Exts.alloc ?_ _ | with_reducible refine World.Exts.drew ?_ | with_reducible refine World.Exts.drewN ?_ _ | with_reducible refine World.Exts.ext ?_ _ | with_reducible refine World.Exts.setCell ?_ ?_ _ | (simp; done) | exact World.size_ext_le _ _ | (simp; omega))))).mono ?_; rintro e w' ⟨rfl, X2, rfl⟩; rw [HOK.out])
        | (go_at_call 18; refine (r04_tunes_any s _ _ (HR.out.mono (by repeat' (first | with_reducible exact World.Exts.refl _ | with_reducible refine World.Exts.alloc ?_ _ | with_reducible refine World.Exts.drew ?_ | with_reducible refine World.Exts.drewN ?_ _ | with_reducible refine World.Exts.ext ?_ _ | with_reducible refine World.Exts.setCell ?_ ?_ _ | (simp; done) | exact World.size_ext_le _ _ | (simp; omega)))) HOK.out).mono ?_; rintro e w' ⟨v, rfl, ho, X3, rfl⟩; have hrw := row_tunes ho; obtain ⟨q, cp, rfl⟩ := hrw.len; have HRW := Lib.hid hrw; clear ho hrw))
      go_ret2
      exact ⟨_, rfl, by rw [← HL.out]; exact HRW.out, (by repeat' (first | with_reducible exact World.Exts.refl _ | with_reducible refine World.Exts.alloc ?_ _ | with_reducible refine World.Exts.drew ?_ | with_reducible refine World.Exts.drewN ?_ _ | with_reducible refine World.Exts.ext ?_ _ | with_reducible refine World.Exts.setCell ?_ ?_ _ | (simp; done) | exact World.size_ext_le _ _ | (simp; omega)))⟩

set_option maxHeartbeats 2000000 in
theorem r04_Reads_any (s : Scale) (tv : Value) (weight : Int) (w : World) (hrow : IsRow (fun t : Kr.Trial => [.int .i64 t.weight, .int .i64 t.shown]) 2 w tv s.trials) :
    Calls Try.prog 9 #[.agg #[.int .i64 s.id, .int .i64 s.step, .int .i64 s.gain.lo, .int .i64 s.gain.hi, .int .i64 s.off.lo, .int .i64 s.off.hi, tv], .int .i64 weight] w fun e w' => e = .returned (.tuple #[.agg #[.int .i64 (reads s weight).1.lo, .int .i64 (reads s weight).1.hi], .int .i64 (reads s weight).2]) ∧ w.Exts w' := by
  obtain ⟨p, cap, rfl⟩ := hrow.len
  have HR := Lib.hid hrow
  clear hrow
  cases hr : right s
  · have hfin : reads s weight = (⟨0, 0⟩, 40) := by unfold reads; rw [hr]; rfl
    rw [hfin]
    have HOK := Lib.hid hr
    clear hr
    clear hfin
    go_enter Try.func9, Try.ntmps9
    go_wp2_with (go_at_call 17; refine (r04_Scale_any s _ _ (HR.out.mono (by repeat' (first | with_reducible exact World.Exts.refl _ | with_reducible refine World.Exts.alloc ?_ _ | with_reducible refine World.Exts.drew ?_ | with_reducible refine World.Exts.drewN ?_ _ | with_reducible refine World.Exts.ext ?_ _ | with_reducible refine World.Exts.setCell ?_ ?_ _ | (simp; done) | exact World.size_ext_le _ _ | (simp; omega))))).mono ?_; rintro e w' ⟨rfl, X2, rfl⟩; rw [HOK.out])
    refine bodyPost_ret (v := .tuple #[.agg #[.int .i64 0, .int .i64 0], .int .i64 40]) (by simp [results, Try.results9, go_sem]) rfl ?_
    exact ⟨rfl, (by repeat' (first | with_reducible exact World.Exts.refl _ | with_reducible refine World.Exts.alloc ?_ _ | with_reducible refine World.Exts.drew ?_ | with_reducible refine World.Exts.drewN ?_ _ | with_reducible refine World.Exts.ext ?_ _ | with_reducible refine World.Exts.setCell ?_ ?_ _ | (simp; done) | exact World.size_ext_le _ _ | (simp; omega)))⟩
  cases hw : inb 0 1000000 weight
  · have hfin : reads s weight = (⟨0, 0⟩, 2) := by unfold reads; rw [hr, hw]; rfl
    rw [hfin]
    have HOK := Lib.hid hr
    clear hr
    have HW := Lib.hid hw
    clear hw
    clear hfin
    go_enter Try.func9, Try.ntmps9
    go_wp2_with (first
      | (go_at_call 17; refine (r04_Scale_any s _ _ (HR.out.mono (by repeat' (first | with_reducible exact World.Exts.refl _ | with_reducible refine World.Exts.alloc ?_ _ | with_reducible refine World.Exts.drew ?_ | with_reducible refine World.Exts.drewN ?_ _ | with_reducible refine World.Exts.ext ?_ _ | with_reducible refine World.Exts.setCell ?_ ?_ _ | (simp; done) | exact World.size_ext_le _ _ | (simp; omega))))).mono ?_; rintro e w' ⟨rfl, X2, rfl⟩; rw [HOK.out])
      | (go_at_call 21; refine (r04_within_any _ _ _ _).mono ?_; rintro e w' ⟨rfl, X2, rfl⟩; rw [HW.out]))
    refine bodyPost_ret (v := .tuple #[.agg #[.int .i64 0, .int .i64 0], .int .i64 2]) (by simp [results, Try.results9, go_sem]) rfl ?_
    exact ⟨rfl, (by repeat' (first | with_reducible exact World.Exts.refl _ | with_reducible refine World.Exts.alloc ?_ _ | with_reducible refine World.Exts.drew ?_ | with_reducible refine World.Exts.drewN ?_ _ | with_reducible refine World.Exts.ext ?_ _ | with_reducible refine World.Exts.setCell ?_ ?_ _ | (simp; done) | exact World.size_ext_le _ _ | (simp; omega)))⟩
  have hwb : 0 ≤ weight ∧ weight ≤ 1000000 := by simp [inb] at hw; omega
  have hlen2 := tunesN_len s s.gain.lo (gainN s)
  by_cases hl : (tunes s).length = 0
  · have hnil : tunes s = [] := List.eq_nil_of_length_eq_zero hl
    have hfin : reads s weight = (⟨0, 0⟩, 6) := by unfold reads; rw [hr, hw, hnil]; rfl
    rw [hfin]
    have HOK := Lib.hid hr
    clear hr
    have HW := Lib.hid hw
    clear hw
    have HL := Lib.hid hnil
    clear hnil
    clear hfin hl hlen2
    go_enter Try.func9, Try.ntmps9
    go_wp2_with (first
      | (go_at_call 17; refine (r04_Scale_any s _ _ (HR.out.mono (by repeat' (first | with_reducible exact World.Exts.refl _ | with_reducible refine World.Exts.alloc ?_ _ | with_reducible refine World.Exts.drew ?_ | with_reducible refine World.Exts.drewN ?_ _ | with_reducible refine World.Exts.ext ?_ _ | with_reducible refine World.Exts.setCell ?_ ?_ _ | (simp; done) | exact World.size_ext_le _ _ | (simp; omega))))).mono ?_; rintro e w' ⟨rfl, X2, rfl⟩; rw [HOK.out])
      | (go_at_call 21; refine (r04_within_any _ _ _ _).mono ?_; rintro e w' ⟨rfl, X2, rfl⟩; rw [HW.out])
      | (go_at_call 18; refine (r04_tunes_any s _ _ (HR.out.mono (by repeat' (first | with_reducible exact World.Exts.refl _ | with_reducible refine World.Exts.alloc ?_ _ | with_reducible refine World.Exts.drew ?_ | with_reducible refine World.Exts.drewN ?_ _ | with_reducible refine World.Exts.ext ?_ _ | with_reducible refine World.Exts.setCell ?_ ?_ _ | (simp; done) | exact World.size_ext_le _ _ | (simp; omega)))) HOK.out).mono ?_; rintro e w' ⟨v, rfl, ho, X3, rfl⟩; obtain ⟨q, cp, rfl⟩ := (row_tunes ho).len; rw [HL.out]; clear ho))
    refine bodyPost_ret (v := .tuple #[.agg #[.int .i64 0, .int .i64 0], .int .i64 6]) (by simp [results, Try.results9, go_sem]) rfl ?_
    exact ⟨rfl, (by repeat' (first | with_reducible exact World.Exts.refl _ | with_reducible refine World.Exts.alloc ?_ _ | with_reducible refine World.Exts.drew ?_ | with_reducible refine World.Exts.drewN ?_ _ | with_reducible refine World.Exts.ext ?_ _ | with_reducible refine World.Exts.setCell ?_ ?_ _ | (simp; done) | exact World.size_ext_le _ _ | (simp; omega)))⟩
  · have hpos : 0 < (tunes s).length := by omega
    have hfin : reads s weight = (readsOf s.step weight (tunes s), 0) := by
      unfold reads; rw [hr, hw, if_pos rfl, if_pos rfl, if_neg (fun h => hl (by rw [h]; rfl))]
    rw [hfin]
    have hb := tunes_bound hr
    obtain ⟨_, hst, _, _, _, _⟩ := right_bounds hr
    have HOK := Lib.hid hr
    clear hr
    have HW := Lib.hid hw
    clear hw
    have HB := Lib.hid hb
    clear hb
    clear hfin hl hlen2
    go_enter Try.func9, Try.ntmps9
    go_wp2_with (first
      | (go_at_call 17; refine (r04_Scale_any s _ _ (HR.out.mono (by repeat' (first | with_reducible exact World.Exts.refl _ | with_reducible refine World.Exts.alloc ?_ _ | with_reducible refine World.Exts.drew ?_ | with_reducible refine World.Exts.drewN ?_ _ | with_reducible refine World.Exts.ext ?_ _ | with_reducible refine World.Exts.setCell ?_ ?_ _ | (simp; done) | exact World.size_ext_le _ _ | (simp; omega))))).mono ?_; rintro e w' ⟨rfl, X2, rfl⟩; rw [HOK.out])
      | (go_at_call 21; refine (r04_within_any _ _ _ _).mono ?_; rintro e w' ⟨rfl, X2, rfl⟩; rw [HW.out])
      | (go_at_call 18; refine (r04_tunes_any s _ _ (HR.out.mono (by repeat' (first | with_reducible exact World.Exts.refl _ | with_reducible refine World.Exts.alloc ?_ _ | with_reducible refine World.Exts.drew ?_ | with_reducible refine World.Exts.drewN ?_ _ | with_reducible refine World.Exts.ext ?_ _ | with_reducible refine World.Exts.setCell ?_ ?_ _ | (simp; done) | exact World.size_ext_le _ _ | (simp; omega)))) HOK.out).mono ?_; rintro e w' ⟨v, rfl, ho, X3, rfl⟩; have hrw := row_tunes ho; obtain ⟨q, cp, rfl⟩ := hrw.len; have HRW := Lib.hid hrw; clear ho hrw))
    go_loopw [8] (fun i wr => ∃ (k : Nat) (o : Span), k ≤ (tunes s).length ∧ i = .int .i64 k ∧ Hid (o = ((tunes s).take k).foldl (wider s.step weight) ⟨4000000, -4000000⟩) ∧ (World.ext _ X3).Exts wr ∧ Lays wr (World.ext _ X3).heap.size ∧
      wr.cell? ⟨(World.ext _ X3).heap.size, 0, none⟩ = some (.int .i64 o.lo) ∧ wr.cell? ⟨(World.ext _ X3).heap.size, 1, none⟩ = some (.int .i64 o.hi) ∧ wr.frozen? ⟨(World.ext _ X3).heap.size, 0, none⟩ = false ∧ wr.frozen? ⟨(World.ext _ X3).heap.size, 1, none⟩ = false) (fun i _ => (tunes s).length - (intOf i).toNat)
    case atStart => exact ⟨0, ⟨4000000, -4000000⟩, Nat.zero_le _, rfl, rfl, (by repeat' (first | with_reducible exact World.Exts.refl _ | with_reducible refine World.Exts.alloc ?_ _ | with_reducible refine World.Exts.drew ?_ | with_reducible refine World.Exts.drewN ?_ _ | with_reducible refine World.Exts.ext ?_ _ | with_reducible refine World.Exts.setCell ?_ ?_ _ | (simp; done) | exact World.size_ext_le _ _ | (simp; omega))), lays_new _ _, by simp, by simp, by simp, by simp⟩
    case round =>
      obtain ⟨k, o, hk, rfl, HO, hE, hlb, c0, c1, f0, f1⟩ := hrel
      obtain ⟨X4, rfl⟩ := hE
      by_cases hlt : k < (tunes s).length
      · obtain ⟨t, ht⟩ := some_of_lt hlt
        obtain ⟨q', b, oo, cap', hv, hm, hp, hc⟩ := HRW.out.ex
        obtain ⟨rfl, _, rfl⟩ : q = q' ∧ True ∧ cp = cap' := by cases hv; exact ⟨rfl, trivial, rfl⟩
        obtain ⟨rfl, hlay⟩ := hp hpos
        have hcs := hc k t ht
        have d0 := hcs 0 _ rfl
        have d1 := hcs 1 _ rfl
        have d2 := hcs 2 _ rfl
        simp only [Nat.add_zero] at d0 d1 d2
        obtain ⟨hg, ho1, ho2, _⟩ := HB.out t (List.mem_of_getElem? ht)
        have hm1 : 0 ≤ weight * (1000 + t.gain) := Int.mul_nonneg (by omega) (by omega)
        have hm2 : weight * (1000 + t.gain) ≤ 1000000 * 1010 := Int.mul_le_mul (by omega) (by omega) (by omega) (by omega)
        have HT := Lib.hid ht
        clear ht
        clear hcs hc hp hv
        generalize hlo : (weight * (1000 + t.gain) + 1000 * t.off.lo) / 1000 / s.step * s.step = rl
        generalize hhi : (weight * (1000 + t.gain) + 1000 * t.off.hi) / 1000 / s.step * s.step = rh
        have hw1 : (wider s.step weight o t).lo = min o.lo rl := by simp only [wider, readT, readAt, hlo]
        have hw2 : (wider s.step weight o t).hi = max o.hi rh := by simp only [wider, readT, readAt, hhi]
        rcases Int.lt_or_le rl o.lo with m1 | m1 <;> rcases Int.lt_or_le o.hi rh with m2 | m2
        · go_wp2_with fail
          refine wp_region_ext_tail 17 (by kernel_rfl) (by kernel_rfl) ?_
          simp only [List.take_succ_cons, List.take_zero, List.drop_succ_cons, List.drop_zero]
          repeat (go_big_quiet_step (first | (go_at_call 23; exact Calls.in_ext (r04_floor_any _ _ ⟨by omega, by omega⟩)) | (go_at_call 22; exact Calls.in_ext_eq (r04_below_any _ _ _ ⟨by omega, by omega⟩ hst) (congrArg (Value.int .i64) hlo))))
          refine wpQuiet_nil ?_
          rintro _ ⟨X, rfl⟩
          go_wp2_with fail
          refine wp_region_ext_tail 17 (by kernel_rfl) (by kernel_rfl) ?_
          simp only [List.take_succ_cons, List.take_zero, List.drop_succ_cons, List.drop_zero]
          repeat (go_big_quiet_step (first | (go_at_call 23; exact Calls.in_ext (r04_floor_any _ _ ⟨by omega, by omega⟩)) | (go_at_call 22; exact Calls.in_ext_eq (r04_below_any _ _ _ ⟨by omega, by omega⟩ hst) (congrArg (Value.int .i64) hhi))))
          refine wpQuiet_nil ?_
          rintro _ ⟨X, rfl⟩
          go_wp2_with fail
          go_roundw
          case rel => exact ⟨k + 1, wider s.step weight o t, by omega, by go_num, Lib.hid (by rw [take_snoc HT.out, List.foldl_append, ← HO.out]; rfl), (by repeat' (first | with_reducible exact World.Exts.refl _ | with_reducible refine World.Exts.alloc ?_ _ | with_reducible refine World.Exts.drew ?_ | with_reducible refine World.Exts.drewN ?_ _ | with_reducible refine World.Exts.ext ?_ _ | with_reducible refine World.Exts.setCell ?_ ?_ _ | (simp; done) | exact World.size_ext_le _ _ | (simp; omega))), inferInstance,
            by rw [hw1]; simp [go_sem, c0]; omega, by rw [hw2]; simp [go_sem, c1]; omega, by simp [go_sem, f0], by simp [go_sem, f1]⟩
          case measure => simp [intOf]; omega
        · go_wp2_with fail
          refine wp_region_ext_tail 17 (by kernel_rfl) (by kernel_rfl) ?_
          simp only [List.take_succ_cons, List.take_zero, List.drop_succ_cons, List.drop_zero]
          repeat (go_big_quiet_step (first | (go_at_call 23; exact Calls.in_ext (r04_floor_any _ _ ⟨by omega, by omega⟩)) | (go_at_call 22; exact Calls.in_ext_eq (r04_below_any _ _ _ ⟨by omega, by omega⟩ hst) (congrArg (Value.int .i64) hlo))))
          refine wpQuiet_nil ?_
          rintro _ ⟨X, rfl⟩
          go_wp2_with fail
          refine wp_region_ext_tail 17 (by kernel_rfl) (by kernel_rfl) ?_
          simp only [List.take_succ_cons, List.take_zero, List.drop_succ_cons, List.drop_zero]
          repeat (go_big_quiet_step (first | (go_at_call 23; exact Calls.in_ext (r04_floor_any _ _ ⟨by omega, by omega⟩)) | (go_at_call 22; exact Calls.in_ext_eq (r04_below_any _ _ _ ⟨by omega, by omega⟩ hst) (congrArg (Value.int .i64) hhi))))
          refine wpQuiet_nil ?_
          rintro _ ⟨X, rfl⟩
          go_wp2_with fail
          go_roundw
          case rel => exact ⟨k + 1, wider s.step weight o t, by omega, by go_num, Lib.hid (by rw [take_snoc HT.out, List.foldl_append, ← HO.out]; rfl), (by repeat' (first | with_reducible exact World.Exts.refl _ | with_reducible refine World.Exts.alloc ?_ _ | with_reducible refine World.Exts.drew ?_ | with_reducible refine World.Exts.drewN ?_ _ | with_reducible refine World.Exts.ext ?_ _ | with_reducible refine World.Exts.setCell ?_ ?_ _ | (simp; done) | exact World.size_ext_le _ _ | (simp; omega))), inferInstance,
            by rw [hw1]; simp [go_sem, c0]; omega, by rw [hw2]; simp [go_sem, c1]; omega, by simp [go_sem, f0], by simp [go_sem, f1]⟩
          case measure => simp [intOf]; omega
        · go_wp2_with fail
          refine wp_region_ext_tail 17 (by kernel_rfl) (by kernel_rfl) ?_
          simp only [List.take_succ_cons, List.take_zero, List.drop_succ_cons, List.drop_zero]
          repeat (go_big_quiet_step (first | (go_at_call 23; exact Calls.in_ext (r04_floor_any _ _ ⟨by omega, by omega⟩)) | (go_at_call 22; exact Calls.in_ext_eq (r04_below_any _ _ _ ⟨by omega, by omega⟩ hst) (congrArg (Value.int .i64) hlo))))
          refine wpQuiet_nil ?_
          rintro _ ⟨X, rfl⟩
          go_wp2_with fail
          refine wp_region_ext_tail 17 (by kernel_rfl) (by kernel_rfl) ?_
          simp only [List.take_succ_cons, List.take_zero, List.drop_succ_cons, List.drop_zero]
          repeat (go_big_quiet_step (first | (go_at_call 23; exact Calls.in_ext (r04_floor_any _ _ ⟨by omega, by omega⟩)) | (go_at_call 22; exact Calls.in_ext_eq (r04_below_any _ _ _ ⟨by omega, by omega⟩ hst) (congrArg (Value.int .i64) hhi))))
          refine wpQuiet_nil ?_
          rintro _ ⟨X, rfl⟩
          go_wp2_with fail
          go_roundw
          case rel => exact ⟨k + 1, wider s.step weight o t, by omega, by go_num, Lib.hid (by rw [take_snoc HT.out, List.foldl_append, ← HO.out]; rfl), (by repeat' (first | with_reducible exact World.Exts.refl _ | with_reducible refine World.Exts.alloc ?_ _ | with_reducible refine World.Exts.drew ?_ | with_reducible refine World.Exts.drewN ?_ _ | with_reducible refine World.Exts.ext ?_ _ | with_reducible refine World.Exts.setCell ?_ ?_ _ | (simp; done) | exact World.size_ext_le _ _ | (simp; omega))), inferInstance,
            by rw [hw1]; simp [go_sem, c0]; omega, by rw [hw2]; simp [go_sem, c1]; omega, by simp [go_sem, f0], by simp [go_sem, f1]⟩
          case measure => simp [intOf]; omega
        · go_wp2_with fail
          refine wp_region_ext_tail 17 (by kernel_rfl) (by kernel_rfl) ?_
          simp only [List.take_succ_cons, List.take_zero, List.drop_succ_cons, List.drop_zero]
          repeat (go_big_quiet_step (first | (go_at_call 23; exact Calls.in_ext (r04_floor_any _ _ ⟨by omega, by omega⟩)) | (go_at_call 22; exact Calls.in_ext_eq (r04_below_any _ _ _ ⟨by omega, by omega⟩ hst) (congrArg (Value.int .i64) hlo))))
          refine wpQuiet_nil ?_
          rintro _ ⟨X, rfl⟩
          go_wp2_with fail
          refine wp_region_ext_tail 17 (by kernel_rfl) (by kernel_rfl) ?_
          simp only [List.take_succ_cons, List.take_zero, List.drop_succ_cons, List.drop_zero]
          repeat (go_big_quiet_step (first | (go_at_call 23; exact Calls.in_ext (r04_floor_any _ _ ⟨by omega, by omega⟩)) | (go_at_call 22; exact Calls.in_ext_eq (r04_below_any _ _ _ ⟨by omega, by omega⟩ hst) (congrArg (Value.int .i64) hhi))))
          refine wpQuiet_nil ?_
          rintro _ ⟨X, rfl⟩
          go_wp2_with fail
          go_roundw
          case rel => exact ⟨k + 1, wider s.step weight o t, by omega, by go_num, Lib.hid (by rw [take_snoc HT.out, List.foldl_append, ← HO.out]; rfl), (by repeat' (first | with_reducible exact World.Exts.refl _ | with_reducible refine World.Exts.alloc ?_ _ | with_reducible refine World.Exts.drew ?_ | with_reducible refine World.Exts.drewN ?_ _ | with_reducible refine World.Exts.ext ?_ _ | with_reducible refine World.Exts.setCell ?_ ?_ _ | (simp; done) | exact World.size_ext_le _ _ | (simp; omega))), inferInstance,
            by rw [hw1]; simp [go_sem, c0]; omega, by rw [hw2]; simp [go_sem, c1]; omega, by simp [go_sem, f0], by simp [go_sem, f1]⟩
          case measure => simp [intOf]; omega
      · have hkn : k = (tunes s).length := by omega
        have hO := HO.out
        rw [hkn, List.take_length, readsOf_fold hst hwb (fun h => by rw [h] at hpos; simp at hpos) (fun t ht => ⟨(HB.out t ht).1, (HB.out t ht).2.1, (HB.out t ht).2.2.1⟩)] at hO
        have HO2 := Lib.hid hO
        clear hO
        clear hkn
        go_wp2_with fail
        refine bodyPost_ret (v := .tuple #[.agg #[.int .i64 o.lo, .int .i64 o.hi], .int .i64 0]) (by simp [results, Try.results9, go_sem]) rfl ?_
        exact ⟨by rw [← HO2.out], (by repeat' (first | with_reducible exact World.Exts.refl _ | with_reducible refine World.Exts.alloc ?_ _ | with_reducible refine World.Exts.drew ?_ | with_reducible refine World.Exts.drewN ?_ _ | with_reducible refine World.Exts.ext ?_ _ | with_reducible refine World.Exts.setCell ?_ ?_ _ | (simp; done) | exact World.size_ext_le _ _ | (simp; omega)))⟩
end Go.Proofs.Ythogfmaclbmgoaa
