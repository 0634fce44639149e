/-
  Walks of package guest: person, clean.
-/
import Derived.Test.YtihkmkocgmkcjaaGreatDoorGe
namespace Go.Proofs.YtihkmkocgmkcjaaGreatDoor
open Go.RowKit Kr
set_option linter.unusedSimpArgs false

set_option maxHeartbeats 1000000 in
theorem office_person_any (ob : Nat) (qc : Option Addr) (n cc : Nat) (v : Value) (xs : List Int) (w : World) (hc : w.cell? ⟨ob, 1, none⟩ = some (.slice qc n cc)) (hn : n ≤ 1000000) (hrow : IsRow (fun x : Int => [.int .i64 x]) 1 w v xs) :
    Calls Tryz.prog 119 #[.pointer (some ⟨ob, 0, none⟩), v] w fun e w' => e = .returned (.bool (inAll 2 ((n : Int) - 1) xs)) ∧ w.Exts w' := by
  have hl := Lays.of_cell hc
  have HR := Lib.hid hrow
  clear hrow
  go_enter Tryz.func119, Tryz.ntmps119
  go_wp2_with (go_at_call 74; refine (guest_in_any 2 ((n : Int) - 1) v xs _ (HR.out.mono exq)).mono ?_; rintro e w' ⟨rfl, X, rfl⟩)
  go_ret
  exact ⟨rfl, exq⟩

theorem row_int4 (w : World) (a b c d : Int) (n : Nat) (hn : n = w.heap.size) : IsRow (fun x : Int => [.int .i64 x]) 1 (w.alloc (.cells #[.int .i64 a, .int .i64 b, .int .i64 c, .int .i64 d] 3)) (.slice (some ⟨n, 0, none⟩) 4 4) [a, b, c, d] := by
  subst hn
  exact ⟨_, w.heap.size, 0, 4, rfl, by simp, fun _ => ⟨rfl, lays_new _ _⟩, fun i z hz j u hu => by
    match i, hz with
    | 0, hz => simp at hz; subst hz; match j, hu with | 0, hu => simp at hu; subst hu; simp
    | 1, hz => simp at hz; subst hz; match j, hu with | 0, hu => simp at hu; subst hu; simp
    | 2, hz => simp at hz; subst hz; match j, hu with | 0, hu => simp at hu; subst hu; simp
    | 3, hz => simp at hz; subst hz; match j, hu with | 0, hu => simp at hu; subst hu; simp⟩

set_option maxHeartbeats 2000000 in
theorem guest_clean_any (g : Gear) (lv rv sv : Value) (w : World) (hl : IsRow (fun t : Kr.Load => [.int .i64 t.scale, .int .i64 t.shown]) 2 w lv g.loads) (hr : IsRow (fun x : Int => [.int .i64 x]) 1 w rv g.runners) (hs : IsRow (fun x : Int => [.int .i64 x]) 1 w sv g.strokes) (h1 : g.loads.length ≤ 1000) (h2 : g.runners.length ≤ 1000) (h3 : g.strokes.length ≤ 1000) :
    Calls Tryz.prog 152 #[.agg #[lv, .int .i64 g.added, .int .i64 g.base, .int .i64 g.jitter, rv, sv, .int .i64 g.spread, .bool g.stamp]] w fun e w' => e = .returned (.bool (decide (g = noGear))) ∧ w.Exts w' := by
  obtain ⟨q1, c1, rfl⟩ := hl.len
  obtain ⟨q2, c2, rfl⟩ := hr.len
  obtain ⟨q3, c3, rfl⟩ := hs.len
  clear hl hr hs
  obtain ⟨ls, ad, ba, ji, rs, ss, sp, st⟩ := g
  dsimp only at h1 h2 h3 ⊢
  have a1 : IntKind.i64.wrap ((ls.length : Int) + (rs.length : Int)) = (ls.length : Int) + (rs.length : Int) := IntWalk.i64_in _ (by omega)
  have a2 : IntKind.i64.wrap ((ls.length : Int) + (rs.length : Int) + (ss.length : Int)) = (ls.length : Int) + (rs.length : Int) + (ss.length : Int) := IntWalk.i64_in _ (by omega)
  by_cases h0 : (ls.length : Int) + (rs.length : Int) + (ss.length : Int) = 0
  · have e1 : ls = [] := List.eq_nil_of_length_eq_zero (by omega)
    have e2 : rs = [] := List.eq_nil_of_length_eq_zero (by omega)
    have e3 : ss = [] := List.eq_nil_of_length_eq_zero (by omega)
    subst e1 e2 e3
    clear a1 a2 h0 h1 h2 h3
    have hfin : decide ((⟨[], ad, ba, ji, [], [], sp, st⟩ : Gear) = noGear) = (inAll 0 0 [ad, ba, ji, sp] && !st) := by
      unfold noGear
      rw [Bool.eq_iff_iff]
      simp only [decide_eq_true_eq, Gear.mk.injEq, true_and, and_true, inAll, inb, List.all_cons, List.all_nil, Bool.and_true, Bool.and_eq_true, Bool.not_eq_true']
      constructor
      · rintro ⟨rfl, rfl, rfl, rfl, rfl⟩; simp
      · rintro ⟨⟨⟨k1, k2⟩, ⟨k3, k4⟩, ⟨k5, k6⟩, k7, k8⟩, k9⟩; exact ⟨by omega, by omega, by omega, by omega, k9⟩
    have HFIN := Lib.hid hfin
    clear hfin
    cases hin : inAll 0 0 [ad, ba, ji, sp] <;> cases st
    all_goals
      have HIN := Lib.hid hin
      clear hin
      go_enter Tryz.func152, Tryz.ntmps152
      go_wp2_with (go_at_call 74; refine (guest_in_any 0 0 _ [ad, ba, ji, sp] _ (row_int4 _ _ _ _ _ _ (by simp))).mono ?_; rw [HIN.out]; rintro e w' ⟨rfl, X, rfl⟩)
      go_ret
      rw [HFIN.out, HIN.out]
      exact ⟨rfl, exq⟩
  · have hfin : decide ((⟨ls, ad, ba, ji, rs, ss, sp, st⟩ : Gear) = noGear) = false := by
      simp only [decide_eq_false_iff_not]
      intro h
      unfold noGear at h
      rw [Gear.mk.injEq] at h
      obtain ⟨rfl, -, -, -, rfl, rfl, -, -⟩ := h
      simp at h0
    have d1 : ((ls.length : Int) + (rs.length : Int) + (ss.length : Int) == 0) = false := by simpa using h0
    have d2 : decide ((ls.length : Int) + (rs.length : Int) + (ss.length : Int) = 0) = false := by simpa using h0
    have HFIN := Lib.hid hfin
    clear hfin
    go_enter Tryz.func152, Tryz.ntmps152
    go_wp2_with fail
    go_ret
    rw [HFIN.out]
    exact ⟨rfl, exq⟩
end Go.Proofs.YtihkmkocgmkcjaaGreatDoor
