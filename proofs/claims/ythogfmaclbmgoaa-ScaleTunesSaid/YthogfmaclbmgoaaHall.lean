/-
  A hall: what its map holds, in the words of this work.
-/
import Derived.Test.YthogfmaclbmgoaaOwn
import Derived.Maps.Own
import Derived.Maps.OwnSet
import Derived.Maps.Views
namespace Go
open Go.RowKit Go.Maps

/-- Every value reads as itself. -/
def readSelf (v : Value) : Option (DataW Value × List MemPlace) := some (.held v, [])

/-- A map from ints, written with some pairs, whose keys all differ, reads so. -/
structure HoldsPairs (D : DataW Value) (l : List (Int × Value)) : Prop where
  isMap : IsMap D
  at_ : ∀ i z, D.atKey (.int .i64 i) z = match l.find? (fun p => p.1 == i) with | some p => .held p.2 | none => z
  has_ : ∀ i, Maps.has D (.int .i64 i) = (l.find? (fun p => p.1 == i)).isSome

theorem keyLit (i : Int) : WideAt.IsKeyLit (.int .i64 i) := by constructor <;> intros <;> simp_all
theorem HoldsPairs.nil : HoldsPairs (.map []) [] := ⟨isMap_empty, fun _ _ => rfl, fun _ => rfl⟩
theorem HoldsPairs.put {D : DataW Value} {l : List (Int × Value)} (h : HoldsPairs D l) (i : Int) (v : Value) (hi : ∀ p ∈ l, p.1 ≠ i) : HoldsPairs (D.put (.int .i64 i) (.held v)) (l ++ [(i, v)]) := by
  have hn : l.find? (fun p => p.1 == i) = none := by
    rw [List.find?_eq_none]; intro p hp; simpa using hi p hp
  refine ⟨h.isMap.put _ _, fun j z => ?_, fun j => ?_⟩
  · by_cases hj : j = i
    · subst hj
      rw [atKey_put_same h.isMap (keyLit j), List.find?_append, hn]; simp
    · rw [atKey_put_other (by intro e; cases e; exact hj rfl), h.at_, List.find?_append]
      cases l.find? (fun p => p.1 == j) with
      | some p => simp
      | none => simp [Ne.symm hj]
  · by_cases hj : j = i
    · subst hj
      rw [has_put_same h.isMap (keyLit j), List.find?_append, hn]; simp
    · rw [has_put_other (by intro e; cases e; exact hj rfl), h.has_, List.find?_append]
      cases l.find? (fun p => p.1 == j) with
      | some p => simp
      | none => simp [Ne.symm hj]

theorem ownsMap_exts {P : Program} {k : TypeId} {R : Value → Option (DataW Value × List MemPlace)} {b n : Nat} {D : DataW Value} {A W : World} (h : A.ownsMap P k R b n D) (hE : A.Exts W) : W.ownsMap P k R b n D := by
  have hb := hE.below
  have hg : A.grownBy W none := ⟨hb.os, hb.tape, hb.output, hb.size, fun k hk _ => hb.block k hk⟩
  exact h.kept hg (by simp)

theorem exts_turned {A W w' : World} {b : Nat} (hE : A.Exts W) (hb : A.heap.size ≤ b) (hg : W.grownBy w' (some b)) : A.Exts w' :=
  .of (hE.below.grown hg hE.below.size (fun k hk => by cases hk; exact hb))

/-- The scales of a bay by their Ids. -/
def scaleVal (x : Kr.Scale × Value) : Value := .agg #[.int .i64 x.1.id, .int .i64 x.1.step, .int .i64 x.1.gain.lo, .int .i64 x.1.gain.hi, .int .i64 x.1.off.lo, .int .i64 x.1.off.hi, x.2]
def byId (ts : List (Kr.Scale × Value)) : List (Int × Value) := ts.map fun x => (x.1.id, scaleVal x)
theorem byId_find (ts : List (Kr.Scale × Value)) (i : Int) : (byId ts).find? (fun p => p.1 == i) = (ts.find? (fun x => x.1.id == i)).map fun x => (x.1.id, scaleVal x) := by
  unfold byId
  rw [List.find?_map]
  rfl

/-- A hall lies at a block. -/
structure HallAt (P : Program) (k : TypeId) (w : World) (b : Nat) (v : Value) (ts : List (Kr.Scale × Value)) : Prop where
  ex : ∃ m n D, w.cell? ⟨b, 0, none⟩ = some v ∧ w.cell? ⟨b, 1, none⟩ = some (.map (some m)) ∧ w.ownsMap P k readSelf m n D ∧ HoldsPairs D (byId ts)
  bay : BayAt w v ts
theorem HallAt.mono {P : Program} {k : TypeId} {w w' : World} {b : Nat} {v : Value} {ts : List (Kr.Scale × Value)} (h : HallAt P k w b v ts) (hw : w.Exts w') : HallAt P k w' b v ts := by
  obtain ⟨m, n, D, h1, h2, h3, h4⟩ := h.ex
  exact ⟨⟨m, n, D, hw.cell h1, hw.cell h2, ownsMap_exts h3 hw, h4⟩, h.bay.mono hw⟩
end Go
