/-
  Walks of the reference of guests: gear that has nothing.
-/
import Derived.Test.YtihkmkocgmkcjaaGreatDoorGp
import Derived.Test.YtihkmkocgmkcjaaGreatDoorGh
import Derived.Test.YtihkmkocgmkcjaaGreatDoorTj
namespace Go.Proofs.YtihkmkocgmkcjaaGreatDoor
open Go.RowKit Kr
set_option linter.unusedSimpArgs false
set_option linter.unusedVariables false

set_option maxHeartbeats 400000 in
theorem r04_SameInts_none (l : List Int) (v : Value) (w : World) (hrow : IsRow (fun x : Int => [.int .i64 x]) 1 w v l) :
    Calls Tryz.prog 44 #[v, .slice none 0 0] w fun e w' => e = .returned (.bool (decide (l = []))) ∧ w.Exts w' := by
  by_cases h : l = []
  · subst h
    exact r04_SameInts_any [] v _ w hrow (IsRow.nil w)
  · have h0 : ¬ (l.length : Int) = 0 := fun e => h (List.eq_nil_of_length_eq_zero (by omega))
    have hd : decide (l = []) = false := by simpa using h
    rw [hd]
    obtain ⟨q, c, rfl⟩ := hrow.len
    clear hrow
    go_enter Tryz.func44, Tryz.ntmps44
    go_wp2_with fail
    go_ret
    exact ⟨rfl, exq⟩

set_option maxHeartbeats 2000000 in
theorem r04_SameGear_none (g : Gear) (lv rv sv : Value) (w : World) (hg : GearAt w (g, lv, rv, sv)) :
    Calls Tryz.prog 19 #[.agg #[lv, .int .i64 g.added, .int .i64 g.base, .int .i64 g.jitter, rv, sv, .int .i64 g.spread, .bool g.stamp], .agg #[.slice none 0 0, .int .i64 0, .int .i64 0, .int .i64 0, .slice none 0 0, .slice none 0 0, .int .i64 0, .bool false]] w fun e w' => e = .returned (.bool (decide (g = noGear))) ∧ w.Exts w' := by
  by_cases h : g = noGear
  · subst h
    exact r04_SameGear_any noGear lv rv sv _ _ _ w hg ⟨IsRow.nil w, IsRow.nil w, IsRow.nil w, ⟨by decide, by decide⟩, fun l hl => by cases hl⟩
  · have hfin : decide (g = noGear) = false := by simpa using h
    have hl := hg.l
    have hr := hg.r
    have hs := hg.s
    dsimp only at hl hr hs
    obtain ⟨q1, c1, rfl⟩ := hl.len
    obtain ⟨q2, c2, rfl⟩ := hr.len
    obtain ⟨q3, c3, rfl⟩ := hs.len
    obtain ⟨ls, ad, ba, ji, rs, ss, sp, st⟩ := g
    dsimp only at hr hs hfin h
    obtain ⟨b5, hb5⟩ : ∃ b, decide (rs = []) = b := ⟨_, rfl⟩
    obtain ⟨b6, hb6⟩ : ∃ b, decide (ss = []) = b := ⟨_, rfl⟩
    have HFIN := Lib.hid hfin
    clear hfin
    have HR1 := Lib.hid hr
    clear hr
    have HS1 := Lib.hid hs
    clear hs
    have C5 := Lib.hid hb5
    clear hb5
    have C6 := Lib.hid hb6
    clear hb6
    clear hl hg
    by_cases k1 : ls = []
    case neg =>
      have k0 : ¬ (ls.length : Int) = 0 := fun e => k1 (List.eq_nil_of_length_eq_zero (by omega))
      go_enter Tryz.func19, Tryz.ntmps19
      go_wp2_with (first
        | (go_at_call 44; ((with_reducible refine (r04_SameInts_none rs _ _ (HR1.out.mono exq)).mono ?_); rintro e w' ⟨rfl, X0, rfl⟩; rw [C5.out]))
        | (go_at_call 44; ((with_reducible refine (r04_SameInts_none ss _ _ (HS1.out.mono exq)).mono ?_); rintro e w' ⟨rfl, X1, rfl⟩; rw [C6.out])))
      go_ret
      rw [HFIN.out]
      exact ⟨rfl, exq⟩
    subst k1
    by_cases k2 : ad = 0
    case neg =>
      go_enter Tryz.func19, Tryz.ntmps19
      go_wp2_with (first
        | (go_at_call 44; ((with_reducible refine (r04_SameInts_none rs _ _ (HR1.out.mono exq)).mono ?_); rintro e w' ⟨rfl, X0, rfl⟩; rw [C5.out]))
        | (go_at_call 44; ((with_reducible refine (r04_SameInts_none ss _ _ (HS1.out.mono exq)).mono ?_); rintro e w' ⟨rfl, X1, rfl⟩; rw [C6.out])))
      go_ret
      rw [HFIN.out]
      exact ⟨rfl, exq⟩
    by_cases k3 : ba = 0
    case neg =>
      go_enter Tryz.func19, Tryz.ntmps19
      go_wp2_with (first
        | (go_at_call 44; ((with_reducible refine (r04_SameInts_none rs _ _ (HR1.out.mono exq)).mono ?_); rintro e w' ⟨rfl, X0, rfl⟩; rw [C5.out]))
        | (go_at_call 44; ((with_reducible refine (r04_SameInts_none ss _ _ (HS1.out.mono exq)).mono ?_); rintro e w' ⟨rfl, X1, rfl⟩; rw [C6.out])))
      go_ret
      rw [HFIN.out]
      exact ⟨rfl, exq⟩
    by_cases k4 : ji = 0
    case neg =>
      go_enter Tryz.func19, Tryz.ntmps19
      go_wp2_with (first
        | (go_at_call 44; ((with_reducible refine (r04_SameInts_none rs _ _ (HR1.out.mono exq)).mono ?_); rintro e w' ⟨rfl, X0, rfl⟩; rw [C5.out]))
        | (go_at_call 44; ((with_reducible refine (r04_SameInts_none ss _ _ (HS1.out.mono exq)).mono ?_); rintro e w' ⟨rfl, X1, rfl⟩; rw [C6.out])))
      go_ret
      rw [HFIN.out]
      exact ⟨rfl, exq⟩
    cases b5
    case false =>
      go_enter Tryz.func19, Tryz.ntmps19
      go_wp2_with (first
        | (go_at_call 44; ((with_reducible refine (r04_SameInts_none rs _ _ (HR1.out.mono exq)).mono ?_); rintro e w' ⟨rfl, X0, rfl⟩; rw [C5.out]))
        | (go_at_call 44; ((with_reducible refine (r04_SameInts_none ss _ _ (HS1.out.mono exq)).mono ?_); rintro e w' ⟨rfl, X1, rfl⟩; rw [C6.out])))
      go_ret
      rw [HFIN.out]
      exact ⟨rfl, exq⟩
    cases b6
    case false =>
      go_enter Tryz.func19, Tryz.ntmps19
      go_wp2_with (first
        | (go_at_call 44; ((with_reducible refine (r04_SameInts_none rs _ _ (HR1.out.mono exq)).mono ?_); rintro e w' ⟨rfl, X0, rfl⟩; rw [C5.out]))
        | (go_at_call 44; ((with_reducible refine (r04_SameInts_none ss _ _ (HS1.out.mono exq)).mono ?_); rintro e w' ⟨rfl, X1, rfl⟩; rw [C6.out])))
      go_ret
      rw [HFIN.out]
      exact ⟨rfl, exq⟩
    by_cases k7 : sp = 0
    case neg =>
      go_enter Tryz.func19, Tryz.ntmps19
      go_wp2_with (first
        | (go_at_call 44; ((with_reducible refine (r04_SameInts_none rs _ _ (HR1.out.mono exq)).mono ?_); rintro e w' ⟨rfl, X0, rfl⟩; rw [C5.out]))
        | (go_at_call 44; ((with_reducible refine (r04_SameInts_none ss _ _ (HS1.out.mono exq)).mono ?_); rintro e w' ⟨rfl, X1, rfl⟩; rw [C6.out])))
      go_ret
      rw [HFIN.out]
      exact ⟨rfl, exq⟩
    cases st
    case true =>
      go_enter Tryz.func19, Tryz.ntmps19
      go_wp2_with (first
        | (go_at_call 44; ((with_reducible refine (r04_SameInts_none rs _ _ (HR1.out.mono exq)).mono ?_); rintro e w' ⟨rfl, X0, rfl⟩; rw [C5.out]))
        | (go_at_call 44; ((with_reducible refine (r04_SameInts_none ss _ _ (HS1.out.mono exq)).mono ?_); rintro e w' ⟨rfl, X1, rfl⟩; rw [C6.out])))
      go_ret
      rw [HFIN.out]
      exact ⟨rfl, exq⟩
    refine absurd ?_ h
    have e5 : rs = [] := of_decide_eq_true C5.out
    have e6 : ss = [] := of_decide_eq_true C6.out
    rw [e5, e6, k2, k3, k4, k7]
    rfl
end Go.Proofs.YtihkmkocgmkcjaaGreatDoor
