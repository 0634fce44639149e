/-
  Several texts in one: see the heads of its parts.
-/

import Derived.Test.YtcickafaomfbmaaGreatDoorZSBksTm
import Derived.Test.YtcickafaomfbmaaGreatDoorZSBksTaC
import Derived.Test.YtcickafaomfbmaaGreatDoorZSBksBt
import Derived.Test.YtcickafaomfbmaaGreatDoorZSBksSoT
import Derived.Test.YtcickafaomfbmaaGreatDoorZSBksBs
import Derived.Deep.RegionLaw
/-
  Walks of package scale and of its reference: what scales can weigh together.
-/
namespace Go
open Go.RowKit
theorem LaysAs.set {w : World} {b i : Nat} {cs : List Value} {t : TypeId} {fr : Nat × Nat} (h : LaysAs w b (.cells cs.toArray t fr)) (u : Value) : LaysAs (w.setCell ⟨b, i, none⟩ u) b (.cells (cs.set i u).toArray t fr) := by
  unfold LaysAs World.setCell at *
  simp [Array.getElem?_modify, h]
theorem laysAs_size (w : World) (o : Obj) {n : Nat} (h : n = w.heap.size) : LaysAs (w.alloc o) n o := by subst h; exact LaysAs.new w o
theorem grown_set (W : World) (b i : Nat) (u : Value) : W.grownBy (W.setCell ⟨b, i, none⟩ u) (some b) :=
  ⟨rfl, rfl, rfl, by simp, fun k _ hne => World.heap_set_other W _ u (fun e => hne (by rw [e]))⟩
theorem LaysAs.grown {W W' : World} {b g : Nat} {ob : Obj} (h : LaysAs W b ob) (hg : W.grownBy W' (some g)) (hne : b ≠ g) : LaysAs W' b ob := (hg.block b h.lt (fun e => hne (by cases e; rfl))).trans h
theorem RowOff.grown {α : Type} {enc : α → List Value} {k g : Nat} {w w' : World} {v : Value} {xs : List α} (h : RowOff enc k w [g] v xs) (hg : w.grownBy w' (some g)) : RowOff enc k w' [g] v xs := by
  refine ⟨?_, h.off⟩
  obtain ⟨p, b, o, cap, rfl, hm, hp, hc⟩ := h.row.ex
  refine ⟨p, b, o, cap, rfl, hm, fun h0 => ⟨(hp h0).1, ⟨Nat.lt_of_lt_of_le (hp h0).2.lt hg.size⟩⟩, fun i x hx j u' hu => ?_⟩
  have h0 : 0 < xs.length := by have := (List.getElem?_eq_some_iff.1 hx).1; omega
  have hb : b ≠ g := fun e => by
    rcases h.off with h1 | h1
    · rw [h1] at h0; simp at h0
    · have h2 := h1 g (by simp)
      rw [(hp h0).1, e] at h2; exact h2 rfl
  exact hg.cell (hc i x hx j u' hu) (fun e => hb (by cases e; rfl))
end Go
namespace Go.Proofs.YtcickafaomfbmaaGreatDoor
open Go.RowKit Kr
set_option linter.unusedSimpArgs false

end Go.Proofs.YtcickafaomfbmaaGreatDoor

/-
  Walks of package scale and of its reference: Totals, in whole.
-/
namespace Go.Proofs.YtcickafaomfbmaaGreatDoor
open Go.RowKit Kr
set_option linter.unusedSimpArgs false

end Go.Proofs.YtcickafaomfbmaaGreatDoor

/-
  Walks of the reference: Truth, and what it asks.
-/
namespace Go.Proofs.YtcickafaomfbmaaGreatDoor
open Go.RowKit Kr
set_option linter.unusedSimpArgs false

end Go.Proofs.YtcickafaomfbmaaGreatDoor
