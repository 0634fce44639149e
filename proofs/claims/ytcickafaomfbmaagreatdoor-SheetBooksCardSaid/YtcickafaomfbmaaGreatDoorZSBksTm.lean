/-
  Several texts in one: see the heads of its parts.
-/

import Derived.Test.YtcickafaomfbmaaGreatDoorZSBksSoT
import Derived.Test.YtcickafaomfbmaaGreatDoorZSBksScFG
import Derived.Test.YtcickafaomfbmaaGreatDoorZSBksBt
import Derived.Test.YtcickafaomfbmaaGreatDoorZSBksPl
import Derived.Test.YtcickafaomfbmaaGreatDoorZSBksScDT
import Derived.Maps.RangeWalk
/-
  Walks of the reference of layer 4: a twin of a bay: rows of an own row are written anew.
-/
namespace Go
open Go.RowKit

/-- A row that lies in none of the blocks G. -/
structure RowOff {α : Type} (enc : α → List Value) (k : Nat) (w : World) (G : List Nat) (v : Value) (xs : List α) : Prop where
  row : IsRow enc k w v xs
  off : xs = [] ∨ ∀ g ∈ G, v.ownBlock ≠ some g
theorem RowOff.exts {α : Type} {enc : α → List Value} {k : Nat} {G : List Nat} {w w' : World} {v : Value} {xs : List α} (h : RowOff enc k w G v xs) (hE : w.Exts w') : RowOff enc k w' G v xs := ⟨h.row.mono hE, h.off⟩
theorem RowOff.set {α : Type} {enc : α → List Value} {k : Nat} {G : List Nat} {w : World} {v : Value} {xs : List α} (h : RowOff enc k w G v xs) {a : Addr} (hg : a.block ∈ G) (u : Value) : RowOff enc k (w.setCell a u) G v xs := by
  refine ⟨?_, h.off⟩
  obtain ⟨p, b, o, cap, rfl, hm, hp, hc⟩ := h.row.ex
  refine ⟨p, b, o, cap, rfl, hm, fun h0 => ⟨(hp h0).1, by haveI := (hp h0).2; infer_instance⟩, fun i x hx j u' hu => ?_⟩
  have h0 : 0 < xs.length := by have := (List.getElem?_eq_some_iff.1 hx).1; omega
  have hb : a.block ≠ b := fun e => by
    rcases h.off with h1 | h1
    · rw [h1] at h0; simp at h0
    · have h2 := h1 _ hg
      rw [(hp h0).1, e] at h2; exact h2 rfl
  rw [World.cell?_setCell_other w _ _ u (fun e => hb (by rw [e]))]
  exact hc i x hx j u' hu
theorem RowOff.own {α : Type} {enc : α → List Value} {k base e : Nat} {G : List Nat} {w : World} {v : Value} {xs : List α} (h : w.ownsRow base e k v xs.length (xs.flatMap enc)) (hk : ∀ y ∈ xs, (enc y).length = k) (hg : ∀ g ∈ G, g < base) : RowOff enc k w G v xs := by
  refine ⟨IsRow.of_owns h hk, .inr fun g h1 e => ?_⟩
  have := (h.lt g e).1
  have := hg g h1
  omega
end Go
namespace Go.Proofs.YtcickafaomfbmaaGreatDoor
open Go.RowKit Kr
set_option linter.unusedSimpArgs false

end Go.Proofs.YtcickafaomfbmaaGreatDoor

/-
  Walks of package scale and of its reference: the scales that are used.
-/
namespace Go.Proofs.YtcickafaomfbmaaGreatDoor
open Go.RowKit Kr
set_option linter.unusedSimpArgs false

end Go.Proofs.YtcickafaomfbmaaGreatDoor

/-
  Walks of package scale: the scales that are used, by the hall.
-/
namespace Go
open Go.RowKit Go.Maps

/-- A map from ints to bools, asked with 'false' for what it lacks. -/
structure Idle (D : DataW Value) (f : Int → Bool) : Prop where
  isMap : IsMap D
  at_ : ∀ i, D.atKey (.int .i64 i) (.held (.bool false)) = .held (.bool (f i))
theorem Idle.nil : Idle (.map []) (fun _ => false) := ⟨isMap_empty, fun _ => rfl⟩
theorem Idle.put {D : DataW Value} {f : Int → Bool} (h : Idle D f) (i : Int) : Idle (D.put (.int .i64 i) (.held (.bool true))) (fun j => j == i || f j) := by
  refine ⟨h.isMap.put _ _, fun j => ?_⟩
  by_cases hj : j = i
  · subst hj; rw [atKey_put_same h.isMap (keyLit j)]; simp
  · rw [atKey_put_other (by intro e; cases e; exact hj rfl), h.at_]
    have : (j == i) = false := by simpa using hj
    simp [this]
theorem Idle.del {D : DataW Value} {f : Int → Bool} (h : Idle D f) (i : Int) : Idle (D.del (.int .i64 i)) (fun j => !(j == i) && f j) := by
  refine ⟨h.isMap.del _, fun j => ?_⟩
  by_cases hj : j = i
  · subst hj; rw [atKey_del_same]; simp
  · rw [atKey_del_other (by intro e; cases e; exact hj rfl), h.at_]
    have : (j == i) = false := by simpa using hj
    simp [this]
theorem Idle.same {D : DataW Value} {f g : Int → Bool} (h : Idle D f) (e : ∀ i, f i = g i) : Idle D g := ⟨h.isMap, fun i => by rw [h.at_, e]⟩

/-- 'm[k]' of a map whose elements read as themselves. -/
theorem look_self {P : Program} {k t e : TypeId} {w : World} {b n : Nat} {D : DataW Value} (h : w.ownsMap P k readSelf b n D) (K : Keyed P k) (ht : P.underlying t = some (.map k e)) {z : Value} (hz : (zeroValue e).run P w = .ok z w)
    {key : Value} {kl : Lit} (hkey : keyOf P k key = some kl) {v : Value} (hv : D.atKey kl (.held z) = .held v) : (Instr.lookup t (.map (some b)) key false).run P w = .ok v w := by
  obtain ⟨es, clock, hb, F, _, rfl⟩ := h
  rcases Maps.fit_look false K ht hz hb F hkey with ⟨hrun, _, hat⟩ | ⟨e0, y, _, _, hrun, hRv, hat, _⟩
  · rw [hat] at hv; cases hv; exact hrun
  · rw [hat] at hv
    simp [readSelf] at hRv
    rw [← hRv] at hv
    simp at hv
    rw [hrun, ← hv]; rfl
end Go
namespace Go.Proofs.YtcickafaomfbmaaGreatDoor
open Go.RowKit Go.Maps Kr
set_option linter.unusedSimpArgs false

theorem zero_bool (w : World) : (zeroValue 4).run Tryz.prog w = .ok (.bool false) w := by kernel_rfl

end Go.Proofs.YtcickafaomfbmaaGreatDoor
