/-
  Several texts in one: see the heads of its parts.
-/

import Derived.Test.YtcickafaomfbmaaGreatDoorZSJesBs
import Derived.Test.YtcickafaomfbmaaGreatDoorZSJesSa
import Derived.Test.YtcickafaomfbmaaGreatDoorZSJesRx
import Derived.Scope
import Derived.RangeFuncBox
import Derived.Maps.AppendAt
/-
  Walks of package scale: the iterator over a scale's tunes.
-/
namespace Go.Proofs.YtcickafaomfbmaaGreatDoor
open Go.RowKit Go.Shelf Kr

/-- A tune within the bounds of a valid scale. -/
abbrev TuneB := { t : Tune // (-10 ≤ t.gain ∧ t.gain ≤ 10) ∧ (-100 ≤ t.off.lo ∧ t.off.lo ≤ 100) ∧ (-100 ≤ t.off.hi ∧ t.off.hi ≤ 100) }
def encT (x : TuneB) : Array Value := #[.agg #[.int .i64 x.1.gain, .int .i64 x.1.off.lo, .int .i64 x.1.off.hi]]

theorem cells_block {W : World} {B : Nat} {cs : List Value} {t : TypeId} (h : W.heap[B]? = some (.cells cs.toArray t (0, 0))) (i : Nat) (u : Value) (hu : cs[i]? = some u) : W.cell? ⟨B, i, none⟩ = some u := by
  simp [World.cell?, h, hu]
theorem foldl_split {α β : Type} (f : β → α → β) (l : List α) (m : Nat) (b : β) : l.foldl f b = (l.drop m).foldl f ((l.take m).foldl f b) := by
  rw [← List.foldl_append, List.take_append_drop]
theorem tune_dead {s : Scale} {g : Int} {m : Nat} {o : Span} (ho : o = (s.trials.take m).foldl (offStep g s.step) s.off) (h : o.hi < o.lo) : tuneAt s g = [] := by
  have h2 := offs_sub g s.step (s.trials.drop m) o
  rw [ho, ← foldl_split, ← ho] at h2
  unfold tuneAt offs
  rw [if_neg (by omega)]
theorem tune_live {s : Scale} {g : Int} {o : Span} (ho : o = s.trials.foldl (offStep g s.step) s.off) (h : o.lo ≤ o.hi) : tuneAt s g = [⟨g, o⟩] := by
  unfold tuneAt offs
  rw [← ho, if_pos h]
theorem abides_exts {β : Type} {B : Nat} {J : β → World → Prop} (h : AbidesFrom B J) {s : β} {A W : World} (hJ : J s A) (hE : A.Exts W) : J s W := by
  have hb := hE.below
  exact h s A W none hJ ⟨hb.os, hb.tape, hb.output, hb.size, fun k hk _ => hb.block k hk⟩ (fun r e => by cases e)

/-- What a round over a scale's tunes keeps: all that lies in u, and the scale's own block. -/
def KeepsScale (u : World) (Bs : Nat) (W W' : World) : Prop := Below u.heap.size W W' ∧ (Bs < W.heap.size → W'.heap[Bs]? = W.heap[Bs]?)
theorem KeepsScale.trans {u : World} {Bs : Nat} {A B C : World} (h : KeepsScale u Bs A B) (k : KeepsScale u Bs B C) : KeepsScale u Bs A C :=
  ⟨h.1.trans k.1, fun hb => (k.2 (Nat.lt_of_lt_of_le hb h.1.size)).trans (h.2 hb)⟩
theorem KeepsScale.put {u w : World} {Bs : Nat} (hu : u.heap.size ≤ w.heap.size) (hb : Bs < w.heap.size) (W : World) (l : Nat) (o o' : Obj) (hl : w.heap.size ≤ l) (ho : W.heap[l]? = some o) (h1 : o.isCells = false) (h2 : o.isWalk = false) : KeepsScale u Bs W (W.putObj l o') :=
  ⟨belowK_b hu W l o o' hl ho h1 h2, fun _ => World.putObj_heap_other (by omega)⟩
theorem KeepsScale.of_exts {u : World} {Bs : Nat} {W W' : World} (hu : u.heap.size ≤ W.heap.size) (h : W.Exts W') : KeepsScale u Bs W W' := ⟨h.below.mono hu, fun hb => h.below.block Bs hb⟩
set_option maxRecDepth 100000 in
set_option maxHeartbeats 4000000 in
theorem scale_tunes_1_stops (n : Nat) (s : Scale) (tv : Value) (Bs : Nat) (u w : World) (hr : right s = true) (hu : u.Exts w) (hBs : w.heap[Bs]? = some (.cells #[.int .i64 s.id, .int .i64 s.step, .int .i64 s.gain.lo, .int .i64 s.gain.hi, .int .i64 s.off.lo, .int .i64 s.off.hi, tv] 110 (0, 0))) (hrow : IsRow (fun t : Kr.Trial => [.int .i64 t.weight, .int .i64 t.shown]) 2 u tv s.trials) :
    SeqStopsK Fence.wide n Tryz.prog 161 #[.pointer (some ⟨Bs, 0, none⟩)] encT (KeepsScale u Bs) (fun xs => xs.map Subtype.val = tunes s) (fun _ => True) 21 w := by
  intro l J Jx W hW hJ hJx hY hJ0
  have hEu : u.Exts W := hu.trans (.of hW)
  have hlt0 : Bs < w.heap.size := (Array.getElem?_eq_some_iff.1 hBs).1
  have hBW : W.heap[Bs]? = some (.cells #[.int .i64 s.id, .int .i64 s.step, .int .i64 s.gain.lo, .int .i64 s.gain.hi, .int .i64 s.off.lo, .int .i64 s.off.hi, tv] 110 (0, 0)) := (hW.block Bs hlt0).trans hBs
  clear hBs hlt0 hW hu
  obtain ⟨X0, rfl⟩ := hEu
  obtain ⟨_, hst, hg, ho, _, htr⟩ := right_bounds hr
  obtain ⟨p, b, oo, cap, rfl, hm, hp, hc⟩ := hrow.ex
  have h2 : (u.ext X0).cell? ⟨Bs, 2, none⟩ = some (.int .i64 s.gain.lo) := cells_block (cs := [.int .i64 s.id, .int .i64 s.step, .int .i64 s.gain.lo, .int .i64 s.gain.hi, .int .i64 s.off.lo, .int .i64 s.off.hi, .slice p s.trials.length cap]) hBW 2 _ rfl
  haveI := Lays.of_cell h2
  have HBW := Lib.hid hBW
  clear hBW
  have HC := Lib.hid hc
  clear hc
  have HP := Lib.hid hp
  clear hp
  have HY := Lib.hid hY
  clear hY
  have HJA := Lib.hid hJ
  clear hJ
  have HJ0 := Lib.hid hJ0
  clear hJ0
  have HT := Lib.hid htr
  clear htr
  clear hrow hJx
  show CallsIn Fence.wide n Tryz.prog 161 #[.func (.yield l) #[] #[], .pointer (some ⟨Bs, 0, none⟩)] _ _
  refine callsIn_of_wp Tryz.func161 rfl trivial ?_ rfl
  simp only [Tryz.ntmps161, List.size_toArray, List.length_cons, List.length_nil, Nat.reduceAdd, Nat.reduceSub, Array.replicate_succ, Array.replicate_zero, List.push_toArray, List.append_toArray, List.nil_append, List.cons_append]
  refine wpIn_wide.2 (wp_scope_straight ((wpIn_wide (n := n)).1 ?_))
  gi_wp2
  refine wpIn_label ?_
  gi_wp2
  gi_loopw [3] (fun g wr => ∃ (k : Nat) (pre : List TuneB), k ≤ gainN s ∧ g = .int .i64 (s.gain.lo + k) ∧ Hid (pre.map Subtype.val = tunesN s s.gain.lo k) ∧ u.Exts wr ∧ Hid (wr.heap[Bs]? = some (.cells #[.int .i64 s.id, .int .i64 s.step, .int .i64 s.gain.lo, .int .i64 s.gain.hi, .int .i64 s.off.lo, .int .i64 s.off.hi, .slice p s.trials.length cap] 110 (0, 0))) ∧ Hid (J pre wr)) (fun g _ => gainN s - (intOf g - s.gain.lo).toNat)
  case atStart => exact ⟨0, [], Nat.zero_le _, by simp, rfl, exq, HBW, Lib.hid HJ0.out⟩
  case round =>
    obtain ⟨k, pre, hk, rfl, HPRE, hE, HB, HJ⟩ := hrel
    obtain ⟨X, rfl⟩ := hE
    have g1 := cells_block (cs := [.int .i64 s.id, .int .i64 s.step, .int .i64 s.gain.lo, .int .i64 s.gain.hi, .int .i64 s.off.lo, .int .i64 s.off.hi, .slice p s.trials.length cap]) HB.out 1 _ rfl
    have g2 := cells_block (cs := [.int .i64 s.id, .int .i64 s.step, .int .i64 s.gain.lo, .int .i64 s.gain.hi, .int .i64 s.off.lo, .int .i64 s.off.hi, .slice p s.trials.length cap]) HB.out 2 _ rfl
    have g3 := cells_block (cs := [.int .i64 s.id, .int .i64 s.step, .int .i64 s.gain.lo, .int .i64 s.gain.hi, .int .i64 s.off.lo, .int .i64 s.off.hi, .slice p s.trials.length cap]) HB.out 3 _ rfl
    have g4 := cells_block (cs := [.int .i64 s.id, .int .i64 s.step, .int .i64 s.gain.lo, .int .i64 s.gain.hi, .int .i64 s.off.lo, .int .i64 s.off.hi, .slice p s.trials.length cap]) HB.out 4 _ rfl
    have g5 := cells_block (cs := [.int .i64 s.id, .int .i64 s.step, .int .i64 s.gain.lo, .int .i64 s.gain.hi, .int .i64 s.off.lo, .int .i64 s.off.hi, .slice p s.trials.length cap]) HB.out 5 _ rfl
    have g6 := cells_block (cs := [.int .i64 s.id, .int .i64 s.step, .int .i64 s.gain.lo, .int .i64 s.gain.hi, .int .i64 s.off.lo, .int .i64 s.off.hi, .slice p s.trials.length cap]) HB.out 6 _ rfl
    haveI := Lays.of_cell g1
    have hblk : ∀ W' : World, (World.ext _ X).Exts W' → Hid (W'.heap[Bs]? = some (.cells #[.int .i64 s.id, .int .i64 s.step, .int .i64 s.gain.lo, .int .i64 s.gain.hi, .int .i64 s.off.lo, .int .i64 s.off.hi, .slice p s.trials.length cap] 110 (0, 0))) := fun _ hE => Lib.hid ((hE.below.block Bs (Array.getElem?_eq_some_iff.1 HB.out).1).trans HB.out)
    have HBLK := Lib.hid hblk
    clear hblk
    by_cases hlt : k < gainN s
    · have hlt2 := hlt
      unfold gainN at hlt2
      have hdec : decide (s.gain.lo + (k : Int) ≤ s.gain.hi) = true := by simp; omega
      gi_wp2
      try simp only [hdec]
      gi_loopw [25] (fun j wr => ∃ (m : Nat) (o : Span), m ≤ s.trials.length ∧ j = .int .i64 m ∧ Hid (o = (s.trials.take m).foldl (offStep (s.gain.lo + k) s.step) s.off) ∧ o.lo ≤ o.hi ∧ -100 ≤ o.lo ∧ o.hi ≤ 100 ∧ (World.ext _ X).Exts wr ∧ Lays wr (World.ext _ X).heap.size ∧
        wr.cell? ⟨(World.ext _ X).heap.size, 0, none⟩ = some (.int .i64 o.lo) ∧ wr.cell? ⟨(World.ext _ X).heap.size, 1, none⟩ = some (.int .i64 o.hi) ∧ wr.frozen? ⟨(World.ext _ X).heap.size, 0, none⟩ = false ∧ wr.frozen? ⟨(World.ext _ X).heap.size, 1, none⟩ = false) (fun j _ => s.trials.length - (intOf j).toNat)
      case atStart => exact ⟨0, s.off, Nat.zero_le _, rfl, rfl, by omega, by omega, by omega, exq, lays_new _ _, by simp, by simp, by simp, by simp⟩
      case round =>
        obtain ⟨m, o, hm2, rfl, HO, hlo, hb1, hb2, hE, hlb, c0, c1, f0, f1⟩ := hrel
        obtain ⟨X4, rfl⟩ := hE
        by_cases hlt3 : m < s.trials.length
        · obtain ⟨rfl, hlay⟩ := HP.out (by omega)
          obtain ⟨t, ht⟩ := some_of_lt hlt3
          have hcs := HC.out m t ht
          have d0 := hcs 0 _ rfl
          have d1 := hcs 1 _ rfl
          simp only [Nat.add_zero] at d0 d1
          obtain ⟨ht1, ht2, ht3, ht4⟩ := HT.out t (List.mem_of_getElem? ht)
          have hm3 : 0 ≤ t.weight * (1000 + (s.gain.lo + k)) := Int.mul_nonneg (by omega) (by omega)
          have hm4 : t.weight * (1000 + (s.gain.lo + k)) ≤ 1000000 * 1010 := Int.mul_le_mul (by omega) (by omega) (by omega) (by omega)
          generalize hql : -(1000 * t.shown - t.weight * (1000 + (s.gain.lo + k))) / 1000 = ql
          generalize hqh : (1000 * (t.shown + s.step) - 1 - t.weight * (1000 + (s.gain.lo + k))) / 1000 = qh
          have hw1 : (offStep (s.gain.lo + k) s.step o t).lo = max o.lo (-ql) := by simp only [offStep, hql]
          have hw2 : (offStep (s.gain.lo + k) s.step o t).hi = min o.hi qh := by simp only [offStep, hqh]
          have hO2 : offStep (s.gain.lo + k) s.step o t = (s.trials.take (m + 1)).foldl (offStep (s.gain.lo + k) s.step) s.off := by rw [take_snoc ht, List.foldl_append, ← HO.out]; rfl
          have HTT := Lib.hid ht
          clear ht
          have HO2 := Lib.hid hO2
          clear hO2
          clear hcs
          rcases Int.lt_or_le (offStep (s.gain.lo + k) s.step o t).hi (offStep (s.gain.lo + k) s.step o t).lo with hd | hd
          · rcases Int.lt_or_le o.lo (-ql) with m1 | m1 <;> rcases Int.lt_or_le qh o.hi with m2 | m2
            · exfalso; omega
            · gi_wp2
              refine wpIn_wide.2 ?_
              refine wp_region_ext (by kernel_rfl) (by kernel_rfl) ?_
              repeat (go_big_quiet_step (fail))
              refine wpQuiet_nil ?_
              rintro _ ⟨X, rfl⟩
              gi_wp2
              refine wpIn_wide.2 ?_
              refine wp_region_ext_tail 13 (by kernel_rfl) (by kernel_rfl) ?_
              simp only [List.take_succ_cons, List.take_zero, List.drop_succ_cons, List.drop_zero]
              repeat (go_big_quiet_step ((go_at_call 162; first | exact Calls.in_ext_eq (scale_down_any _ _ _ ⟨by omega, by omega⟩ (by omega)) (congrArg (Value.int .i64) hql) | exact Calls.in_ext_eq (scale_down_any _ _ _ ⟨by omega, by omega⟩ (by omega)) (congrArg (Value.int .i64) hqh))))
              refine wpQuiet_nil ?_
              rintro _ ⟨X, rfl⟩
              go_wp2_with fail
              gi_wp2
              go_roundw
              case rel => exact ⟨k + 1, pre, by omega, congrArg (Value.int .i64) (by omega), Lib.hid (by rw [tunesN, tune_dead HO2.out hd, List.append_nil]; exact HPRE.out), exq, HBLK.out _ exq, Lib.hid (abides_exts HJA.out HJ.out exq)⟩
              case measure => simp [intOf]; omega
            · gi_wp2
              refine wpIn_wide.2 ?_
              refine wp_region_ext (by kernel_rfl) (by kernel_rfl) ?_
              repeat (go_big_quiet_step (fail))
              refine wpQuiet_nil ?_
              rintro _ ⟨X, rfl⟩
              gi_wp2
              refine wpIn_wide.2 ?_
              refine wp_region_ext_tail 13 (by kernel_rfl) (by kernel_rfl) ?_
              simp only [List.take_succ_cons, List.take_zero, List.drop_succ_cons, List.drop_zero]
              repeat (go_big_quiet_step ((go_at_call 162; first | exact Calls.in_ext_eq (scale_down_any _ _ _ ⟨by omega, by omega⟩ (by omega)) (congrArg (Value.int .i64) hql) | exact Calls.in_ext_eq (scale_down_any _ _ _ ⟨by omega, by omega⟩ (by omega)) (congrArg (Value.int .i64) hqh))))
              refine wpQuiet_nil ?_
              rintro _ ⟨X, rfl⟩
              go_wp2_with fail
              gi_wp2
              go_roundw
              case rel => exact ⟨k + 1, pre, by omega, congrArg (Value.int .i64) (by omega), Lib.hid (by rw [tunesN, tune_dead HO2.out hd, List.append_nil]; exact HPRE.out), exq, HBLK.out _ exq, Lib.hid (abides_exts HJA.out HJ.out exq)⟩
              case measure => simp [intOf]; omega
            · exfalso; omega
          · rcases Int.lt_or_le o.lo (-ql) with m1 | m1 <;> rcases Int.lt_or_le qh o.hi with m2 | m2
            · gi_wp2
              refine wpIn_wide.2 ?_
              refine wp_region_ext (by kernel_rfl) (by kernel_rfl) ?_
              repeat (go_big_quiet_step (fail))
              refine wpQuiet_nil ?_
              rintro _ ⟨X, rfl⟩
              gi_wp2
              refine wpIn_wide.2 ?_
              refine wp_region_ext_tail 13 (by kernel_rfl) (by kernel_rfl) ?_
              simp only [List.take_succ_cons, List.take_zero, List.drop_succ_cons, List.drop_zero]
              repeat (go_big_quiet_step ((go_at_call 162; first | exact Calls.in_ext_eq (scale_down_any _ _ _ ⟨by omega, by omega⟩ (by omega)) (congrArg (Value.int .i64) hql) | exact Calls.in_ext_eq (scale_down_any _ _ _ ⟨by omega, by omega⟩ (by omega)) (congrArg (Value.int .i64) hqh))))
              refine wpQuiet_nil ?_
              rintro _ ⟨X, rfl⟩
              go_wp2_with fail
              gi_wp2
              go_roundw
              case rel => exact ⟨m + 1, _, by omega, by go_num, HO2, hd, by omega, by omega, exq, inferInstance, by rw [hw1]; simp [go_sem, c0]; omega, by rw [hw2]; simp [go_sem, c1]; omega, by simp [go_sem, f0], by simp [go_sem, f1]⟩
              case measure => simp [intOf]; omega
            · gi_wp2
              refine wpIn_wide.2 ?_
              refine wp_region_ext (by kernel_rfl) (by kernel_rfl) ?_
              repeat (go_big_quiet_step (fail))
              refine wpQuiet_nil ?_
              rintro _ ⟨X, rfl⟩
              gi_wp2
              refine wpIn_wide.2 ?_
              refine wp_region_ext_tail 13 (by kernel_rfl) (by kernel_rfl) ?_
              simp only [List.take_succ_cons, List.take_zero, List.drop_succ_cons, List.drop_zero]
              repeat (go_big_quiet_step ((go_at_call 162; first | exact Calls.in_ext_eq (scale_down_any _ _ _ ⟨by omega, by omega⟩ (by omega)) (congrArg (Value.int .i64) hql) | exact Calls.in_ext_eq (scale_down_any _ _ _ ⟨by omega, by omega⟩ (by omega)) (congrArg (Value.int .i64) hqh))))
              refine wpQuiet_nil ?_
              rintro _ ⟨X, rfl⟩
              go_wp2_with fail
              gi_wp2
              go_roundw
              case rel => exact ⟨m + 1, _, by omega, by go_num, HO2, hd, by omega, by omega, exq, inferInstance, by rw [hw1]; simp [go_sem, c0]; omega, by rw [hw2]; simp [go_sem, c1]; omega, by simp [go_sem, f0], by simp [go_sem, f1]⟩
              case measure => simp [intOf]; omega
            · gi_wp2
              refine wpIn_wide.2 ?_
              refine wp_region_ext (by kernel_rfl) (by kernel_rfl) ?_
              repeat (go_big_quiet_step (fail))
              refine wpQuiet_nil ?_
              rintro _ ⟨X, rfl⟩
              gi_wp2
              refine wpIn_wide.2 ?_
              refine wp_region_ext_tail 13 (by kernel_rfl) (by kernel_rfl) ?_
              simp only [List.take_succ_cons, List.take_zero, List.drop_succ_cons, List.drop_zero]
              repeat (go_big_quiet_step ((go_at_call 162; first | exact Calls.in_ext_eq (scale_down_any _ _ _ ⟨by omega, by omega⟩ (by omega)) (congrArg (Value.int .i64) hql) | exact Calls.in_ext_eq (scale_down_any _ _ _ ⟨by omega, by omega⟩ (by omega)) (congrArg (Value.int .i64) hqh))))
              refine wpQuiet_nil ?_
              rintro _ ⟨X, rfl⟩
              go_wp2_with fail
              gi_wp2
              go_roundw
              case rel => exact ⟨m + 1, _, by omega, by go_num, HO2, hd, by omega, by omega, exq, inferInstance, by rw [hw1]; simp [go_sem, c0]; omega, by rw [hw2]; simp [go_sem, c1]; omega, by simp [go_sem, f0], by simp [go_sem, f1]⟩
              case measure => simp [intOf]; omega
            · gi_wp2
              refine wpIn_wide.2 ?_
              refine wp_region_ext (by kernel_rfl) (by kernel_rfl) ?_
              repeat (go_big_quiet_step (fail))
              refine wpQuiet_nil ?_
              rintro _ ⟨X, rfl⟩
              gi_wp2
              refine wpIn_wide.2 ?_
              refine wp_region_ext_tail 13 (by kernel_rfl) (by kernel_rfl) ?_
              simp only [List.take_succ_cons, List.take_zero, List.drop_succ_cons, List.drop_zero]
              repeat (go_big_quiet_step ((go_at_call 162; first | exact Calls.in_ext_eq (scale_down_any _ _ _ ⟨by omega, by omega⟩ (by omega)) (congrArg (Value.int .i64) hql) | exact Calls.in_ext_eq (scale_down_any _ _ _ ⟨by omega, by omega⟩ (by omega)) (congrArg (Value.int .i64) hqh))))
              refine wpQuiet_nil ?_
              rintro _ ⟨X, rfl⟩
              go_wp2_with fail
              gi_wp2
              go_roundw
              case rel => exact ⟨m + 1, _, by omega, by go_num, HO2, hd, by omega, by omega, exq, inferInstance, by rw [hw1]; simp [go_sem, c0]; omega, by rw [hw2]; simp [go_sem, c1]; omega, by simp [go_sem, f0], by simp [go_sem, f1]⟩
              case measure => simp [intOf]; omega
        · have hmn : m = s.trials.length := by omega
          have hO := HO.out
          rw [hmn, List.take_length] at hO
          have hlive := tune_live hO hlo
          have hlen : pre.length < 21 := by
            have h1 := congrArg List.length HPRE.out
            rw [List.length_map] at h1
            have h2 := tunesN_len s s.gain.lo k
            omega
          have HB2 := HBLK.out (World.ext _ X4) exq
          have hJ2 := abides_exts HJA.out HJ.out (W := World.ext _ X4) exq
          obtain ⟨fn, tmps, assign, body, hy, hR⟩ := HY.out pre ⟨⟨s.gain.lo + k, o⟩, ⟨by dsimp only; omega, by dsimp only; omega⟩, ⟨by dsimp only; omega, by dsimp only; omega⟩, ⟨by dsimp only; omega, by dsimp only; omega⟩⟩ _ hJ2 hlen
          dsimp only [encT] at hy
          have HLIVE := Lib.hid hlive
          clear hlive
          clear hO hJ2 hmn
          gi_wp2
          refine ⟨fun e => (by cases e), hR.mono ?_⟩
          rintro e W3 (⟨rfl, hJ3, hk3⟩ | ⟨rfl, hJx3⟩)
          · have hE3 : u.Exts W3 := .of ((World.Exts.below (w := u) (w' := World.ext _ X4) exq).trans hk3.1)
            have HB3 := Lib.hid ((hk3.2 (Array.getElem?_eq_some_iff.1 HB2.out).1).trans HB2.out)
            clear hk3
            gi_wp2
            go_roundw
            case rel => exact ⟨k + 1, _, by omega, congrArg (Value.int .i64) (by omega), Lib.hid (by rw [List.map_append, HPRE.out, tunesN, HLIVE.out]; rfl), hE3, HB3, Lib.hid hJ3⟩
            case measure => simp [intOf]; omega
          · gi_wp2
            rw [Exit.noGoto_ret]
            refine bodyPost_ret (results_none rfl _ _ _) rfl ?_
            exact ⟨⟨_, rfl⟩, .inr ⟨_, trivial, hJx3⟩⟩
    · have hkn : k = gainN s := by omega
      have hlt2 : s.gain.hi < s.gain.lo + k := by unfold gainN at hk hlt; omega
      gi_wp2
      rw [Exit.noGoto_normal]
      go_end0
      exact ⟨⟨_, rfl⟩, .inl ⟨pre, by rw [HPRE.out, hkn]; rfl, HJ.out⟩⟩
end Go.Proofs.YtcickafaomfbmaaGreatDoor

/-
  Walks of the reference of layer 4: the truths of a scale.
-/
namespace Go.Proofs.YtcickafaomfbmaaGreatDoor
open Go.RowKit Kr

end Go.Proofs.YtcickafaomfbmaaGreatDoor

/-
  Walks of package scale: Tunes, by slices.Collect over the iterator.
-/
namespace Go.Proofs.YtcickafaomfbmaaGreatDoor
open Go.RowKit Go.Shelf Kr

attribute [local go_sem] Oper.semAt_some

set_option maxHeartbeats 400000 in
theorem scale_tunes_any (s : Scale) (tv : Value) (w : World) (hrow : IsRow (fun t : Kr.Trial => [.int .i64 t.weight, .int .i64 t.shown]) 2 w tv s.trials) :
    Calls Tryz.prog 129 #[.agg #[.int .i64 s.id, .int .i64 s.step, .int .i64 s.gain.lo, .int .i64 s.gain.hi, .int .i64 s.off.lo, .int .i64 s.off.hi, tv]] w fun e w' => e = .returned (.func (.func 161) #[] #[.pointer (some ⟨w.heap.size, 0, none⟩)]) ∧ w' = w.alloc (.cells #[.int .i64 s.id, .int .i64 s.step, .int .i64 s.gain.lo, .int .i64 s.gain.hi, .int .i64 s.off.lo, .int .i64 s.off.hi, tv] 110) := by
  obtain ⟨p, cap, rfl⟩ := hrow.len
  go_enter Tryz.func129, Tryz.ntmps129
  go_wp2_with fail
  go_ret
  exact ⟨rfl, rfl⟩

end Go.Proofs.YtcickafaomfbmaaGreatDoor
