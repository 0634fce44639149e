/-
  Several texts in one: see the heads of its parts.
-/

import Derived.Test.YtcickafaomfbmaaGreatDoorZSJesFuncs
/-
  Walks of the reference of layer 4: numbers, scales.
-/
namespace Go.Proofs.YtcickafaomfbmaaGreatDoor
open Go.RowKit Kr

theorem right_bounds {s : Scale} (h : right s = true) : (0 ≤ s.id ∧ s.id ≤ 9999) ∧ (1 ≤ s.step ∧ s.step ≤ 500) ∧ (-10 ≤ s.gain.lo ∧ s.gain.lo ≤ s.gain.hi ∧ s.gain.hi ≤ 10) ∧ (-100 ≤ s.off.lo ∧ s.off.lo ≤ s.off.hi ∧ s.off.hi ≤ 100) ∧ s.trials.length ≤ 6 ∧
    ∀ t ∈ s.trials, 0 ≤ t.weight ∧ t.weight ≤ 1000000 ∧ -2000000 ≤ t.shown ∧ t.shown ≤ 2000000 := by
  simp [right, inb, ordered] at h
  obtain ⟨⟨⟨⟨⟨h1, h2⟩, h3⟩, h4⟩, h5⟩, h6⟩ := h
  refine ⟨by omega, by omega, by omega, by omega, h5, fun t ht => ?_⟩
  have := h6 t ht
  simp [trialOk, shownB, inb] at this
  omega

end Go.Proofs.YtcickafaomfbmaaGreatDoor

/-
  Walks of the reference of layer 4: whether a scale, a bay, gear are valid.
-/
namespace Go.Proofs.YtcickafaomfbmaaGreatDoor
open Go.RowKit Kr

end Go.Proofs.YtcickafaomfbmaaGreatDoor

/-
  Walks of the reference of layer 4: a bay, gear, what is great.
-/
namespace Go.Proofs.YtcickafaomfbmaaGreatDoor
open Go.RowKit Kr

end Go.Proofs.YtcickafaomfbmaaGreatDoor

/-
  Walks of the reference of layer 4: a bay, gear, Check, Great.
-/
namespace Go.Proofs.YtcickafaomfbmaaGreatDoor
open Go.RowKit Kr

theorem bay_fails {ts : List (Kr.Scale × Value)} {k : Nat} {x : Kr.Scale × Value} (hx : ts[k]? = some x) (h : decide (lastId (-1) ((ts.take k).map Prod.fst) < x.1.id) = false ∨ right x.1 = false) : bayOk (ts.map Prod.fst) = false := by
  have h2 : bayFrom (-1) ((ts.take (k + 1)).map Prod.fst) = false := by
    rw [take_snoc hx, List.map_append, List.map_singleton, bayFrom_snoc]
    rcases h with h | h <;> rw [h] <;> simp
  have h3 : bayFrom (-1) (ts.map Prod.fst) = false := by
    cases hb : bayFrom (-1) (ts.map Prod.fst) with
    | false => rfl
    | true =>
      rw [← List.take_append_drop (k + 1) ts, List.map_append] at hb
      rw [bayFrom_prefix _ _ _ hb] at h2; cases h2
  unfold bayOk; rw [h3]; rfl

theorem loadOk_find (ts : List (Kr.Scale × Value)) (l : Load) : loadOk (ts.map Prod.fst) l = match ts.find? (fun x => x.1.id == l.scale) with | some x => shownB l.shown x.1.step | none => false := by
  unfold loadOk
  rw [List.find?_map]
  show (match ((ts.find? fun x => x.1.id == l.scale).map Prod.fst) with | some s => shownB l.shown s.step | none => false) = _
  cases ts.find? (fun x => x.1.id == l.scale) <;> rfl

def great (ts : List (Kr.Scale × Value)) (g : Gear) : Bool := decide (8 < ts.length) || decide (10 < g.loads.length) || decide (12 < g.runners.length) || decide (12 < g.strokes.length) || ts.any (fun x => decide (10 < x.1.trials.length))

set_option maxHeartbeats 1000000 in
theorem r04_Great_any (ts : List (Kr.Scale × Value)) (v : Value) (g : Gear) (lv rv sv : Value) (w : World) (hrow : BayAt w v ts)
    (hl : IsRow (fun t : Kr.Load => [.int .i64 t.scale, .int .i64 t.shown]) 2 w lv g.loads) (hr : IsRow (fun x : Int => [.int .i64 x]) 1 w rv g.runners) (hs : IsRow (fun x : Int => [.int .i64 x]) 1 w sv g.strokes) :
    Calls Tryz.prog 16 #[.agg #[v], .agg #[lv, .int .i64 g.added, .int .i64 g.base, .int .i64 g.jitter, rv, sv, .int .i64 g.spread, .bool g.stamp]] w fun e w' => e = .returned (.bool (great ts g)) ∧ w.Exts w' := by
  obtain ⟨p, b, o, cap, rfl, hm, hp, hc⟩ := hrow.row.ex
  obtain ⟨p1, c1, rfl⟩ := hl.len
  obtain ⟨p2, c2, rfl⟩ := hr.len
  obtain ⟨p3, c3, rfl⟩ := hs.len
  have ht := hrow.tr
  clear hrow hl hr hs
  have HC := Lib.hid hc
  clear hc
  have HP := Lib.hid hp
  clear hp
  have HT := Lib.hid ht
  clear ht
  by_cases h1 : 8 < ts.length
  · go_enter Tryz.func16, Tryz.ntmps16
    go_wp2_with fail
    go_ret
    exact ⟨by unfold great; simp; omega, exq⟩
  by_cases h2 : 10 < g.loads.length
  · go_enter Tryz.func16, Tryz.ntmps16
    go_wp2_with fail
    go_ret
    exact ⟨by unfold great; simp; omega, exq⟩
  by_cases h3 : 12 < g.runners.length
  · go_enter Tryz.func16, Tryz.ntmps16
    go_wp2_with fail
    go_ret
    exact ⟨by unfold great; simp; omega, exq⟩
  by_cases h4 : 12 < g.strokes.length
  · go_enter Tryz.func16, Tryz.ntmps16
    go_wp2_with fail
    go_ret
    exact ⟨by unfold great; simp; omega, exq⟩
  · go_enter Tryz.func16, Tryz.ntmps16
    go_wp2_with fail
    go_loopw [5] (fun i wr => ∃ k : Nat, k ≤ ts.length ∧ i = .int .i64 k ∧ Hid (∀ x ∈ ts.take k, ¬ 10 < x.1.trials.length) ∧ ((w.alloc (.cells #[.slice p ts.length cap] 52)).alloc (.cells #[.slice p1 g.loads.length c1, .int .i64 g.added, .int .i64 g.base, .int .i64 g.jitter, .slice p2 g.runners.length c2, .slice p3 g.strokes.length c3, .int .i64 g.spread, .bool g.stamp] 55)).Exts wr) (fun i _ => ts.length - (intOf i).toNat)
    case atStart => exact ⟨0, Nat.zero_le _, rfl, Lib.hid (fun y hy => by simp at hy), exq⟩
    case round =>
      obtain ⟨k, hk, rfl, HA, X, rfl⟩ := hrel
      by_cases hlt : k < ts.length
      · obtain ⟨rfl, hl⟩ := HP.out (by omega)
        obtain ⟨x, hx⟩ := some_of_lt hlt
        have hcs := HC.out k x hx
        have c6 := hcs 6 _ rfl
        obtain ⟨q, cq, htv⟩ := (HT.out x (List.mem_of_getElem? hx)).len
        rw [htv] at c6
        have HI := Lib.hid hx
        clear hx
        clear hcs HP htv
        by_cases h10 : 10 < x.1.trials.length
        · go_wp2_with fail
          go_ret
          have hy : ts.any (fun x => decide (10 < x.1.trials.length)) = true := List.any_eq_true.2 ⟨x, List.mem_of_getElem? HI.out, by simpa using h10⟩
          exact ⟨by unfold great; rw [hy]; simp, exq⟩
        · go_wp2_with fail
          go_roundw
          case rel => exact ⟨k + 1, by omega, by go_num, Lib.hid (by rw [take_snoc HI.out]; intro y hy; rcases List.mem_append.1 hy with h | h; exact HA.out y h; rw [List.mem_singleton.1 h]; omega), exq⟩
          case measure => simp [intOf]; omega
      · have hkn : k = ts.length := by omega
        have hA := HA.out
        rw [hkn, List.take_length] at hA
        have HA2 := Lib.hid hA
        clear hA
        clear hkn
        go_wp2_with fail
        go_ret
        have hy : ts.any (fun x => decide (10 < x.1.trials.length)) = false := by rw [List.any_eq_false]; intro x hx; have := HA2.out x hx; simpa using this
        exact ⟨by unfold great; rw [hy]; simp; omega, exq⟩
end Go.Proofs.YtcickafaomfbmaaGreatDoor
