/-
  Several texts in one: see the heads of its parts.
-/
import Derived.Test.YtfjkiemjmnnbkaaDoorTp
import Derived.Test.YtfjkiemjmnnbkaaDoorTh

/-
  Walks of package scale and of its reference: Totals, in whole.
-/
namespace Go.Proofs.YtfjkiemjmnnbkaaDoor
open Go.RowKit Kr
set_option linter.unusedSimpArgs false

structure AskOk (b : List Scale) (g : Gear) : Prop where
  few : b.length ≤ 4
  rt : ∀ s ∈ b, right s = true
  l6 : g.loads.length ≤ 6
  sh : ∀ s ∈ b, ∀ l ∈ g.loads, l.scale = s.id → -2000000 ≤ l.shown ∧ l.shown ≤ 2000000
  ad : 0 ≤ g.added ∧ g.added ≤ 1000000
theorem check_ok {b : List Scale} {g : Gear} (h1 : bayOk b = true) (h2 : gearOk b g = true) : AskOk b g := by
  have h3 := h2
  simp only [gearOk, Bool.and_eq_true, decide_eq_true_eq, List.all_eq_true] at h3
  have h4 := h1
  simp only [bayOk, Bool.and_eq_true, decide_eq_true_eq] at h4
  refine ⟨h4.2, bayFrom_right h4.1, h3.1.2, fun s _ l hl _ => ?_, (bare_bounds h3.2).1⟩
  have h5 := h3.1.1 l hl
  unfold loadOk at h5
  split at h5
  · simp [shownB, inb] at h5; omega
  · cases h5
theorem check_zero {b : List Scale} {g : Gear} (h : check b g = 0) : bayOk b = true ∧ gearOk b g = true := by
  unfold check at h
  cases h1 : bayOk b <;> rw [h1] at h
  · simp at h
  · cases h2 : gearOk b g <;> rw [h2] at h
    · simp at h
    · exact ⟨rfl, rfl⟩
theorem check_three (b : List Scale) (g : Gear) : check b g = 0 ∨ check b g = 41 ∨ check b g = 40 := by
  unfold check
  cases bayOk b
  · simp
  · cases gearOk b g <;> simp
def totalsR (b : List Scale) (g : Gear) : List Span × Int := if check b g = 0 then (if (totals b g).length = 0 then ([], 6) else (totals b g, 0)) else ([], check b g)

set_option maxRecDepth 4000 in
set_option maxHeartbeats 2000000 in
theorem scale_Totals_any (ts : List (Kr.Scale × Value)) (v : Value) (g : Gear) (lv rv sv : Value) (w : World) (hb : BayAt w v ts) (hg : GearAt w (g, lv, rv, sv)) :
    Calls Tryd.prog 11 #[.agg #[v], .agg #[lv, .int .i64 g.added, .int .i64 g.base, .int .i64 g.jitter, rv, sv, .int .i64 g.spread, .bool g.stamp]] w fun e w' => ∃ v', e = .returned (.tuple #[v', .int .i64 (totalsR (ts.map Prod.fst) g).2]) ∧ IsRow (fun t : Kr.Span => [.int .i64 t.lo, .int .i64 t.hi]) 2 w' v' (totalsR (ts.map Prod.fst) g).1 ∧ w.Exts w' := by
  have he : askErr ts [(g, lv, rv, sv)] = check (ts.map Prod.fst) g := by unfold askErr check; simp
  obtain ⟨p, cap, hv⟩ := hb.row.len
  subst hv
  have hl1 := hg.l
  have hl2 := hg.r
  have hl3 := hg.s
  dsimp only at hl1 hl2 hl3
  obtain ⟨p1, cap1, rfl⟩ := hl1.len
  obtain ⟨p2, cap2, rfl⟩ := hl2.len
  obtain ⟨p3, cap3, rfl⟩ := hl3.len
  have HG := Lib.hid hg
  clear hg
  have HB := Lib.hid hb
  clear hb
  clear hl1 hl2 hl3
  by_cases hz : check (ts.map Prod.fst) g = 0
  · obtain ⟨hz1, hz2⟩ := check_zero hz
    have hok := check_ok hz1 hz2
    have hrt : ∀ x ∈ ts, right x.1 = true := fun x hx => hok.rt _ (List.mem_map.2 ⟨x, hx, rfl⟩)
    have hsh : ∀ x ∈ ts, ∀ l ∈ g.loads, l.scale = x.1.id → -2000000 ≤ l.shown ∧ l.shown ≤ 2000000 := fun x hx => hok.sh _ (List.mem_map.2 ⟨x, hx, rfl⟩)
    have hn : ts.length ≤ 4 := by have := hok.few; rwa [List.length_map] at this
    have h6 := hok.l6
    have had := hok.ad
    rw [hz] at he
    have HE := Lib.hid he
    clear he
    have HRT := Lib.hid hrt
    clear hrt
    have HSH := Lib.hid hsh
    clear hsh
    clear hok
    rcases Nat.eq_zero_or_pos (totals (ts.map Prod.fst) g).length with h0 | h0
    · have hfin : totalsR (ts.map Prod.fst) g = ([], 6) := by unfold totalsR; rw [if_pos hz, if_pos h0]
      rw [hfin]
      replace h0 : (totals (ts.map Prod.fst) g).length ≤ 0 := by omega
      clear hfin hz hz1 hz2
      go_enter Tryd.func11, Tryd.ntmps11
      go_wp2_with (first
        | (go_at_call 29; refine (scale_asked_any ts _ [(g, _, _, _)] _ _ (HB.out.mono exq) (row_gear1 _ (g, _, _, _) _ (by simp)) (fun y hy => by rw [List.mem_singleton.1 hy]; exact HG.out.mono exq)).mono ?_; rintro e w' ⟨pp, rfl, hy, X2, rfl⟩; obtain ⟨_, bb, rfl, hh⟩ := hy HE.out; rw [HE.out]; have HH := Lib.hid hh; clear hh hy)
        | (go_at_call 30; refine (hall_totals_any ts _ g _ _ _ _ _ (HH.out.mono exq) (HG.out.mono exq) hn HRT.out h6 HSH.out had).mono ?_; rintro e w' ⟨vt, rfl, ht, X3, rfl⟩; obtain ⟨qt, ct, rfl⟩ := ht.len; have HT := Lib.hid ht; clear ht))
      go_ret2
      exact ⟨_, rfl, IsRow.nil _, exq⟩
    · have hfin : totalsR (ts.map Prod.fst) g = (totals (ts.map Prod.fst) g, 0) := by unfold totalsR; rw [if_pos hz, if_neg (by omega)]
      rw [hfin]
      clear hfin hz hz1 hz2
      go_enter Tryd.func11, Tryd.ntmps11
      go_wp2_with (first
        | (go_at_call 29; refine (scale_asked_any ts _ [(g, _, _, _)] _ _ (HB.out.mono exq) (row_gear1 _ (g, _, _, _) _ (by simp)) (fun y hy => by rw [List.mem_singleton.1 hy]; exact HG.out.mono exq)).mono ?_; rintro e w' ⟨pp, rfl, hy, X2, rfl⟩; obtain ⟨_, bb, rfl, hh⟩ := hy HE.out; rw [HE.out]; have HH := Lib.hid hh; clear hh hy)
        | (go_at_call 30; refine (hall_totals_any ts _ g _ _ _ _ _ (HH.out.mono exq) (HG.out.mono exq) hn HRT.out h6 HSH.out had).mono ?_; rintro e w' ⟨vt, rfl, ht, X3, rfl⟩; obtain ⟨qt, ct, rfl⟩ := ht.len; have HT := Lib.hid ht; clear ht))
      go_ret2
      exact ⟨_, rfl, HT.out.mono exq, exq⟩
  · have hfin : totalsR (ts.map Prod.fst) g = ([], check (ts.map Prod.fst) g) := by unfold totalsR; rw [if_neg hz]
    rw [hfin]
    have hc := check_three (ts.map Prod.fst) g
    rcases hc with hc | hc | hc
    · exact absurd hc hz
    all_goals
      rw [hc] at he ⊢
      have HE := Lib.hid he
      clear he
      clear hc hz hfin
      go_enter Tryd.func11, Tryd.ntmps11
      go_wp2_with (go_at_call 29; refine (scale_asked_any ts _ [(g, _, _, _)] _ _ (HB.out.mono exq) (row_gear1 _ (g, _, _, _) _ (by simp)) (fun y hy => by rw [List.mem_singleton.1 hy]; exact HG.out.mono exq)).mono ?_; rintro e w' ⟨pp, rfl, -, X2, rfl⟩; rw [HE.out])
      go_ret2
      exact ⟨_, rfl, IsRow.nil _, exq⟩

end Go.Proofs.YtfjkiemjmnnbkaaDoor

/-
  Walks of the reference: Truth, and what it asks.
-/
namespace Go.Proofs.YtfjkiemjmnnbkaaDoor
open Go.RowKit Kr
set_option linter.unusedSimpArgs false

theorem touches_part {l : List Span} {k : Nat} {x : Span} (hx : l[k]? = some x) (lo hi : Int) : touches (l.take (k + 1)) lo hi = (touches (l.take k) lo hi || (decide (x.lo ≤ hi) && decide (lo ≤ x.hi))) := by
  unfold touches; rw [take_snoc hx, List.any_append]; simp
theorem touches_hit {l : List Span} {k : Nat} {x : Span} (hx : l[k]? = some x) {lo hi : Int} (h1 : x.lo ≤ hi) (h2 : lo ≤ x.hi) : touches l lo hi = true := by
  unfold touches; rw [List.any_eq_true]; exact ⟨x, List.mem_of_getElem? hx, by simp [h1, h2]⟩

end Go.Proofs.YtfjkiemjmnnbkaaDoor
