/-
  Several texts in one: see the heads of its parts.
-/
import Derived.Test.YtkgchngaganokaaGreatDoorFuncs

/-
  Walks of the reference of layer 4: numbers, scales.
-/
namespace Go.Proofs.YtkgchngaganokaaGreatDoor
open Go.RowKit Kr

theorem floor_ceil (n s : Int) (hs : 0 < s) : n / s = -((-n + s - 1) / s) := by
  have h1 := Int.mul_ediv_add_emod (-n + s - 1) s
  have h2 := Int.emod_nonneg (-n + s - 1) (show s ≠ 0 by omega)
  have h3 := Int.emod_lt_of_pos (-n + s - 1) hs
  refine ((Int.ediv_emod_unique (a := n) (r := s - 1 - (-n + s - 1) % s) (q := -((-n + s - 1) / s)) hs).2 ⟨?_, by omega, by omega⟩).1
  rw [Int.mul_neg]
  omega


theorem right_bounds {s : Scale} (h : right s = true) : (0 ≤ s.id ∧ s.id ≤ 9999) ∧ (1 ≤ s.step ∧ s.step ≤ 500) ∧ (-10 ≤ s.gain.lo ∧ s.gain.lo ≤ s.gain.hi ∧ s.gain.hi ≤ 10) ∧ (-100 ≤ s.off.lo ∧ s.off.lo ≤ s.off.hi ∧ s.off.hi ≤ 100) ∧ s.trials.length ≤ 6 ∧
    ∀ t ∈ s.trials, 0 ≤ t.weight ∧ t.weight ≤ 1000000 ∧ -2000000 ≤ t.shown ∧ t.shown ≤ 2000000 := by
  simp [right, inb, ordered] at h
  obtain ⟨⟨⟨⟨⟨h1, h2⟩, h3⟩, h4⟩, h5⟩, h6⟩ := h
  refine ⟨by omega, by omega, by omega, by omega, h5, fun t ht => ?_⟩
  have := h6 t ht
  simp [trialOk, shownB, inb] at this
  omega

end Go.Proofs.YtkgchngaganokaaGreatDoor

/-
  Walks of the reference of layer 4: whether a scale, a bay, gear are valid.
-/
namespace Go.Proofs.YtkgchngaganokaaGreatDoor
open Go.RowKit Kr

end Go.Proofs.YtkgchngaganokaaGreatDoor

/-
  Walks of the reference of layer 4: a bay, gear, what is great.
-/
namespace Go.Proofs.YtkgchngaganokaaGreatDoor
open Go.RowKit Kr

theorem at_eq (ts : List (Kr.Scale × Value)) (id : Int) : at_ (ts.map Prod.fst) id = firstAt (fun x => x.1.id == id) ts := by
  unfold at_ firstAt
  rw [List.findIdx?_map]
  rfl

end Go.Proofs.YtkgchngaganokaaGreatDoor

/-
  Walks of the reference of layer 4: a bay, gear, Check, Great.
-/
namespace Go.Proofs.YtkgchngaganokaaGreatDoor
open Go.RowKit Kr

theorem lastId_prev {ts : List (Kr.Scale × Value)} {k : Nat} {y : Kr.Scale × Value} (hk : 0 < k) (hy : ts[k - 1]? = some y) : lastId (-1) ((ts.take k).map Prod.fst) = y.1.id := by
  obtain ⟨j, rfl⟩ : ∃ j, k = j + 1 := ⟨k - 1, by omega⟩
  rw [take_snoc (by simpa using hy), List.map_append, List.map_singleton, lastId_snoc]

theorem bay_fails {ts : List (Kr.Scale × Value)} {k : Nat} {x : Kr.Scale × Value} (hx : ts[k]? = some x) (h : decide (lastId (-1) ((ts.take k).map Prod.fst) < x.1.id) = false ∨ right x.1 = false) : bayOk (ts.map Prod.fst) = false := by
  have h2 : bayFrom (-1) ((ts.take (k + 1)).map Prod.fst) = false := by
    rw [take_snoc hx, List.map_append, List.map_singleton, bayFrom_snoc]
    rcases h with h | h <;> rw [h] <;> simp
  have h3 : bayFrom (-1) (ts.map Prod.fst) = false := by
    cases hb : bayFrom (-1) (ts.map Prod.fst) with
    | false => rfl
    | true =>
      rw [← List.take_append_drop (k + 1) ts, List.map_append] at hb
      rw [bayFrom_prefix _ _ _ hb] at h2; cases h2
  unfold bayOk; rw [h3]; rfl

theorem loadOk_find (ts : List (Kr.Scale × Value)) (l : Load) : loadOk (ts.map Prod.fst) l = match ts.find? (fun x => x.1.id == l.scale) with | some x => shownB l.shown x.1.step | none => false := by
  unfold loadOk
  rw [List.find?_map]
  show (match ((ts.find? fun x => x.1.id == l.scale).map Prod.fst) with | some s => shownB l.shown s.step | none => false) = _
  cases ts.find? (fun x => x.1.id == l.scale) <;> rfl

def great (ts : List (Kr.Scale × Value)) (g : Gear) : Bool := decide (8 < ts.length) || decide (10 < g.loads.length) || decide (12 < g.runners.length) || decide (12 < g.strokes.length) || ts.any (fun x => decide (10 < x.1.trials.length))

end Go.Proofs.YtkgchngaganokaaGreatDoor
