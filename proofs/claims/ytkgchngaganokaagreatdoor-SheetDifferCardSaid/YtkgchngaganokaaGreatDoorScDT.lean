/-
  Several texts in one: see the heads of its parts.
-/
import Derived.Test.YtkgchngaganokaaGreatDoorBs
import Derived.Test.YtkgchngaganokaaGreatDoorSa
import Derived.Test.YtkgchngaganokaaGreatDoorRx
import Derived.Test.YtkgchngaganokaaGreatDoorRf
import Derived.Test.YtkgchngaganokaaGreatDoorBt
import Derived.Deep.RegionHeld3

/-
  Walks of package scale: open.
-/
namespace Go.Proofs.YtkgchngaganokaaGreatDoor
open Go.RowKit Go.Maps Kr

theorem law_int : Keyed Tryz.prog 3 := int_keyed Tryz.underlying3

theorem byId_take {ts : List (Kr.Scale × Value)} {k : Nat} {x : Kr.Scale × Value} (hx : ts[k]? = some x) : byId (ts.take (k + 1)) = byId (ts.take k) ++ [(x.1.id, scaleVal x)] := by
  rw [take_snoc hx]; simp [byId]
theorem bayFrom_le {a : Int} {l : List Scale} (h : bayFrom a l = true) : a ≤ lastId a l ∧ ∀ s ∈ l, s.id ≤ lastId a l := by
  induction l generalizing a with
  | nil => simp [lastId]
  | cons x l ih =>
    simp [bayFrom] at h
    have := ih h.2
    refine ⟨?_, fun s hs => ?_⟩
    · show a ≤ lastId x.id l; omega
    · show s.id ≤ lastId x.id l
      rcases List.mem_cons.1 hs with rfl | hs
      · exact this.1
      · exact this.2 s hs
theorem byId_new {ts : List (Kr.Scale × Value)} {k : Nat} {i : Int} (hb : bayFrom (-1) ((ts.take k).map Prod.fst) = true) (h : lastId (-1) ((ts.take k).map Prod.fst) < i) : ∀ p ∈ byId (ts.take k), p.1 ≠ i := by
  intro p hp
  obtain ⟨y, hy, rfl⟩ := List.mem_map.1 hp
  have := (bayFrom_le hb).2 y.1 (List.mem_map.2 ⟨y, hy, rfl⟩)
  simp only
  omega

def openErr (ts : List (Kr.Scale × Value)) : Int := if bayOk (ts.map Prod.fst) then 0 else 40
theorem openErr_bad {ts : List (Kr.Scale × Value)} (h : bayOk (ts.map Prod.fst) = false) : openErr ts = 40 := by unfold openErr; rw [h]; rfl
theorem openErr_ok {ts : List (Kr.Scale × Value)} (h : bayOk (ts.map Prod.fst) = true) : openErr ts = 0 := by unfold openErr; rw [h]; rfl

end Go.Proofs.YtkgchngaganokaaGreatDoor

/-
  Walks of package scale: fits, asked, Check.
-/
namespace Go.Proofs.YtkgchngaganokaaGreatDoor
open Go.RowKit Go.Maps Kr

def zeroScale : Value := .agg #[.int .i64 0, .int .i64 0, .int .i64 0, .int .i64 0, .int .i64 0, .int .i64 0, .slice none 0 0]
theorem gearOk_eq (ts : List (Kr.Scale × Value)) (g : Gear) : gearOk (ts.map Prod.fst) g = (decide ((g.loads.length : Int) ≤ 6) && (!(g.loads.any fun l => !loadOk (ts.map Prod.fst) l) && bare g)) := by
  have e1 : decide ((g.loads.length : Int) ≤ 6) = decide (g.loads.length ≤ 6) := by rw [Bool.eq_iff_iff]; simp; omega
  unfold gearOk
  rw [List.all_eq_not_any_not, e1, Bool.and_comm (!_) (decide _), Bool.and_assoc]

/-- Gear, and the values of its three slices. -/
abbrev GearV := Gear × Value × Value × Value
def gearC (x : GearV) : List Value := [x.2.1, .int .i64 x.1.added, .int .i64 x.1.base, .int .i64 x.1.jitter, x.2.2.1, x.2.2.2, .int .i64 x.1.spread, .bool x.1.stamp]
structure GearAt (w : World) (x : GearV) : Prop where
  l : IsRow (fun t : Kr.Load => [.int .i64 t.scale, .int .i64 t.shown]) 2 w x.2.1 x.1.loads
  r : IsRow (fun x : Int => [.int .i64 x]) 1 w x.2.2.1 x.1.runners
  s : IsRow (fun x : Int => [.int .i64 x]) 1 w x.2.2.2 x.1.strokes
  len : x.1.runners.length ≤ 1000 ∧ x.1.strokes.length ≤ 1000
  wf : ∀ l ∈ x.1.loads, (Lit.int .i64 l.scale).wf = true
theorem GearAt.mono {w w' : World} {x : GearV} (h : GearAt w x) (hw : w.Exts w') : GearAt w' x := ⟨h.l.mono hw, h.r.mono hw, h.s.mono hw, h.len, h.wf⟩
def askErr (ts : List (Kr.Scale × Value)) (gs : List GearV) : Int := if bayOk (ts.map Prod.fst) then (if gs.all (fun x => gearOk (ts.map Prod.fst) x.1) then 0 else 41) else 40
theorem bay_right {ts : List (Kr.Scale × Value)} (h : bayOk (ts.map Prod.fst) = true) : ∀ x ∈ ts, right x.1 = true := by
  intro x hx
  simp [bayOk] at h
  exact bayFrom_right h.1 x.1 (List.mem_map.2 ⟨x, hx, rfl⟩)

end Go.Proofs.YtkgchngaganokaaGreatDoor

/-
  Walks of the reference of layer 4: twins of bays and gear; whether spans, gear, truths are the same.
-/
namespace Go.Proofs.YtkgchngaganokaaGreatDoor
open Go.RowKit Kr



end Go.Proofs.YtkgchngaganokaaGreatDoor
