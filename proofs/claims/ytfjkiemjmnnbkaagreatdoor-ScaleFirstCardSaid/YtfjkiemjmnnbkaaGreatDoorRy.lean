/-
  'ready': a bay and gear are not great, and valid.
-/
import Derived.Test.YtfjkiemjmnnbkaaGreatDoorTm
import Derived.Test.YtfjkiemjmnnbkaaGreatDoorRf
namespace Go.Proofs.YtfjkiemjmnnbkaaGreatDoor
open Go.RowKit Kr
set_option linter.unusedSimpArgs false

def readyB (ts : List (Kr.Scale × Value)) (g : Gear) : Bool := !great ts g && decide (check (ts.map Prod.fst) g = 0)
theorem ready_parts {ts : List (Kr.Scale × Value)} {g : Gear} (h : readyB ts g = true) : great ts g = false ∧ check (ts.map Prod.fst) g = 0 := by
  simp [readyB] at h
  exact ⟨by simpa using h.1, h.2⟩
theorem great_not {ts : List (Kr.Scale × Value)} {g : Gear} (h : great ts g = false) : ts.length ≤ 8 ∧ (∀ x ∈ ts, x.1.trials.length ≤ 10) ∧ g.loads.length ≤ 10 ∧ g.runners.length ≤ 12 ∧ g.strokes.length ≤ 12 := by
  simp [great] at h
  obtain ⟨⟨⟨⟨h1, h2⟩, h3⟩, h4⟩, h5⟩ := h
  exact ⟨by omega, fun x hx => h5 x.1 x.2 hx, by omega, by omega, by omega⟩

set_option maxHeartbeats 1000000 in
theorem l04_ready_any (ts : List (Kr.Scale × Value)) (v : Value) (g : Gear) (lv rv sv : Value) (w : World) (hrow : BayAt w v ts)
    (hl : IsRow (fun t : Kr.Load => [.int .i64 t.scale, .int .i64 t.shown]) 2 w lv g.loads) (hr : IsRow (fun x : Int => [.int .i64 x]) 1 w rv g.runners) (hs : IsRow (fun x : Int => [.int .i64 x]) 1 w sv g.strokes) :
    Calls Tryz.prog 22 #[.agg #[v], .agg #[lv, .int .i64 g.added, .int .i64 g.base, .int .i64 g.jitter, rv, sv, .int .i64 g.spread, .bool g.stamp]] w fun e w' => e = .returned (.bool (readyB ts g)) ∧ w.Exts w' := by
  have HB := Lib.hid hrow
  clear hrow
  have HL := Lib.hid hl
  clear hl
  have HR := Lib.hid hr
  clear hr
  have HS := Lib.hid hs
  clear hs
  obtain ⟨q0, cp0, rfl⟩ := HB.out.row.len
  obtain ⟨q1, cp1, rfl⟩ := HL.out.len
  obtain ⟨q2, cp2, rfl⟩ := HR.out.len
  obtain ⟨q3, cp3, rfl⟩ := HS.out.len
  cases hg : great ts g
  case true =>
    have e : readyB ts g = false := by simp [readyB, hg]
    rw [e]
    have HG := Lib.hid hg
    clear hg
    clear e
    go_enter Tryz.func22, Tryz.ntmps22
    go_wp2_with (go_at_call 53; refine (r04_Great_any ts _ g _ _ _ _ (HB.out.mono exq) (HL.out.mono exq) (HR.out.mono exq) (HS.out.mono exq)).mono ?_; rintro e w' ⟨rfl, X2, rfl⟩; rw [HG.out])
    go_ret
    exact ⟨rfl, exq⟩
  case false =>
    have e : readyB ts g = decide (check (ts.map Prod.fst) g = 0) := by simp [readyB, hg]
    rw [e]
    have HG := Lib.hid hg
    clear hg
    clear e
    go_enter Tryz.func22, Tryz.ntmps22
    go_wp2_with (first
      | (go_at_call 53; refine (r04_Great_any ts _ g _ _ _ _ (HB.out.mono exq) (HL.out.mono exq) (HR.out.mono exq) (HS.out.mono exq)).mono ?_; rintro e w' ⟨rfl, X2, rfl⟩; rw [HG.out])
      | (go_at_call 74; refine (r04_Check_any ts _ g _ _ _ _ (HB.out.mono exq) (HL.out.mono exq) (HR.out.mono exq) (HS.out.mono exq)).mono ?_; rintro e w' ⟨rfl, X3, rfl⟩))
    go_ret
    exact ⟨rfl, exq⟩
end Go.Proofs.YtfjkiemjmnnbkaaGreatDoor
