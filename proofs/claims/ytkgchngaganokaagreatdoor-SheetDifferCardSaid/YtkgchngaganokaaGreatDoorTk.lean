/-
  Several texts in one: see the heads of its parts.
-/
import Derived.Test.YtkgchngaganokaaGreatDoorSoT

/-
  Walks of package scale and of its reference: how hard a gear can be played.
-/
namespace Go.Proofs.YtkgchngaganokaaGreatDoor
open Go.RowKit Kr
set_option linter.unusedSimpArgs false

theorem hard_val {g : Gear} (hb : bare g = true) {lo hi : Int} (ho : hardOf g = ⟨lo, hi⟩) : hard g = if hi < lo then (⟨0, 0⟩, 8) else (⟨lo, hi⟩, 0) := by
  unfold hard; rw [hb, ho]; rfl
theorem hardOf_some {g : Gear} (h : 0 < g.strokes.length) : hardOf g = ⟨max 0 (maxL g.strokes - g.spread), min 2000 (minL g.strokes + g.spread)⟩ := hard_fold h _
theorem hardOf_none {g : Gear} (h : g.strokes.length = 0) : hardOf g = ⟨0, 2000⟩ := by
  unfold hardOf; rw [List.length_eq_zero_iff.1 h]; rfl

end Go.Proofs.YtkgchngaganokaaGreatDoor

/-
  Walks of the reference of layer 4: a twin of a gear, of a bay.
-/
namespace Go.Proofs.YtkgchngaganokaaGreatDoor
open Go.RowKit Kr
set_option linter.unusedSimpArgs false

theorem ownsRow_new (W : World) (e : TypeId) (size : Nat) {nb : Nat} (hnb : nb = W.heap.size) : (W.alloc (.cells #[] e)).ownsRow nb e size (.slice (some ⟨nb, 0, none⟩) 0 0) 0 [] := by
  subst hnb
  have h := World.ownsRow_made (base := W.heap.size) (e := e) (size := size) W #[] 0 (by simp) (by decide) (by simp)
  simpa using h

theorem ownsRow_ext {A : World} {base e size n : Nat} {v : Value} {xs : List Value} (h : A.ownsRow base e size v n xs) (X : Ext A) : (A.ext X).ownsRow base e size v n xs := ownsRow_exts h ((World.Exts.refl A).ext X)

theorem ownsRow_lt {W : World} {base e size n : Nat} {v : Value} {xs : List Value} (h : W.ownsRow base e size v n xs) {k : Nat} (hk : v.ownBlock = some k) : k < W.heap.size := by
  rcases h.2 with ⟨rfl, _⟩ | ⟨g, cap, cur, rfl, _, hg, _⟩
  · simp [Value.ownBlock] at hk
  · simp [Value.ownBlock] at hk
    subst hk
    exact (Array.getElem?_eq_some_iff.1 hg).1

end Go.Proofs.YtkgchngaganokaaGreatDoor
