/-
  How slices lie in memory, as this work says it: 'IsRow enc k w v xs': in world w the value v is a slice whose elements, of k cells each, are the encodings of xs. What keeps such a reading. Closures that a world's extensions bear.
-/
import Derived.Test.YthogfmaclbmgoaaExt
import Derived.Test.YthogfmaclbmgoaaData
import Derived.Shelf.Abstract
namespace Go
open Go.RowKit

structure IsRow {α : Type} (enc : α → List Value) (k : Nat) (w : World) (v : Value) (xs : List α) : Prop where
  ex : ∃ p b o cap, v = .slice p xs.length cap ∧ xs.length ≤ 9223372036854775807 ∧ (0 < xs.length → p = some ⟨b, o, none⟩ ∧ Lays w b) ∧
    ∀ (i : Nat) (x : α), xs[i]? = some x → ∀ (j : Nat) (u : Value), (enc x)[j]? = some u → w.cell? ⟨b, o + i * k + j, none⟩ = some u

section
variable {α : Type} {enc : α → List Value} {k : Nat} {w w' : World} {v : Value} {xs : List α}
theorem IsRow.mono (h : IsRow enc k w v xs) (hw : w.Exts w') : IsRow enc k w' v xs := by
  obtain ⟨p, b, o, cap, rfl, hm, hp, hc⟩ := h.ex
  exact ⟨p, b, o, cap, rfl, hm, fun h0 => ⟨(hp h0).1, hw.lays (hp h0).2⟩, fun i x hx j u hu => hw.cell (hc i x hx j u hu)⟩
theorem IsRow.ext (h : IsRow enc k w v xs) (X : Ext w) : IsRow enc k (w.ext X) v xs := h.mono ⟨X, rfl⟩
theorem IsRow.alloc (h : IsRow enc k w v xs) (o : Obj) : IsRow enc k (w.alloc o) v xs := h.mono ((World.Exts.refl w).alloc o)
theorem IsRow.drew (h : IsRow enc k w v xs) : IsRow enc k w.drew v xs := h.mono (World.Exts.refl w).drew
theorem IsRow.len (h : IsRow enc k w v xs) : ∃ p cap, v = .slice p xs.length cap := by obtain ⟨p, b, o, cap, h, _⟩ := h.ex; exact ⟨p, cap, h⟩
theorem IsRow.nil (w : World) : IsRow enc k w (.slice none 0 0) [] := ⟨none, 0, 0, 0, rfl, by simp, fun h => absurd h (Nat.lt_irrefl 0), fun i x h => by simp at h⟩
end

/-- A bay: a slice of scales, each with a slice of its trials. -/
structure BayAt (w : World) (v : Value) (ts : List (Kr.Scale × Value)) : Prop where
  row : IsRow (fun x : Kr.Scale × Value => [.int .i64 x.1.id, .int .i64 x.1.step, .int .i64 x.1.gain.lo, .int .i64 x.1.gain.hi, .int .i64 x.1.off.lo, .int .i64 x.1.off.hi, x.2]) 7 w v ts
  tr : ∀ x ∈ ts, IsRow (fun t : Kr.Trial => [.int .i64 t.weight, .int .i64 t.shown]) 2 w x.2 x.1.trials
theorem BayAt.mono {w w' : World} {v : Value} {ts : List (Kr.Scale × Value)} (h : BayAt w v ts) (hw : w.Exts w') : BayAt w' v ts := ⟨h.row.mono hw, fun x hx => (h.tr x hx).mono hw⟩

/-- g, with cb captured, answers p at every element of xs, in every world that extends w, and leaves such a world. -/
def Answers (P : Program) (g : Nat) (cb : Array Value) {α : Type} (val : α → Value) (w : World) (p : α → Bool) (xs : List α) : Prop :=
  ∀ x ∈ xs, ∀ W, w.Exts W → Calls P g (#[val x] ++ cb) W fun e W' => e = .returned (.bool (p x)) ∧ W.Exts W'

section
variable {P : Program} {g : Nat} {α : Type} {val : α → Value} {w : World} {p : α → Bool} {xs : List α} {c1 c2 c3 : Value}
theorem answers0 (h : ∀ x ∈ xs, ∀ W, w.Exts W → Calls P g #[val x] W fun e W' => e = .returned (.bool (p x)) ∧ W.Exts W') : Answers P g #[] val w p xs := fun x hx W hW => by simpa using h x hx W hW
theorem answers1 (h : ∀ x ∈ xs, ∀ W, w.Exts W → Calls P g #[val x, c1] W fun e W' => e = .returned (.bool (p x)) ∧ W.Exts W') : Answers P g #[c1] val w p xs := fun x hx W hW => by simpa using h x hx W hW
theorem answers2 (h : ∀ x ∈ xs, ∀ W, w.Exts W → Calls P g #[val x, c1, c2] W fun e W' => e = .returned (.bool (p x)) ∧ W.Exts W') : Answers P g #[c1, c2] val w p xs := fun x hx W hW => by simpa using h x hx W hW
theorem answers3 (h : ∀ x ∈ xs, ∀ W, w.Exts W → Calls P g #[val x, c1, c2, c3] W fun e W' => e = .returned (.bool (p x)) ∧ W.Exts W') : Answers P g #[c1, c2, c3] val w p xs := fun x hx W hW => by simpa using h x hx W hW
end

/-- The first index at which p holds, or -1. -/
def firstAt {α : Type} (p : α → Bool) (xs : List α) : Int := match xs.findIdx? p with | some i => (i : Int) | none => -1

theorem firstAt_hit {α : Type} {p : α → Bool} {xs : List α} {k : Nat} {x : α} (hx : xs[k]? = some x) (hp : p x = true) (hno : ∀ y ∈ xs.take k, p y = false) : firstAt p xs = (k : Int) := by
  have hlt : k < xs.length := (List.getElem?_eq_some_iff.1 hx).1
  have : xs.findIdx? p = some k := by
    rw [List.findIdx?_eq_some_iff_getElem]
    refine ⟨hlt, by rw [(List.getElem?_eq_some_iff.1 hx).2]; exact hp, fun j hj => ?_⟩
    have hm : xs[j] ∈ xs.take k := by
      rw [List.mem_take_iff_getElem]; exact ⟨j, by omega, rfl⟩
    simp [hno _ hm]
  simp [firstAt, this]
theorem firstAt_miss {α : Type} {p : α → Bool} {xs : List α} (hno : ∀ y ∈ xs, p y = false) : firstAt p xs = -1 := by
  have : xs.findIdx? p = none := by rw [List.findIdx?_eq_none_iff]; intro y hy; simp [hno y hy]
  simp [firstAt, this]
theorem firstAt_nonneg {α : Type} (p : α → Bool) (xs : List α) : decide (0 ≤ firstAt p xs) = xs.any p := by
  unfold firstAt
  cases h : xs.findIdx? p with
  | none =>
    rw [List.findIdx?_eq_none_iff] at h
    have : xs.any p = false := by rw [List.any_eq_false]; intro x hx; simp [h x hx]
    simp [this]
  | some i =>
    rw [List.findIdx?_eq_some_iff_getElem] at h
    obtain ⟨hi, hp, _⟩ := h
    have : xs.any p = true := List.any_eq_true.2 ⟨xs[i], List.getElem_mem hi, hp⟩
    simp [this]
theorem firstAt_bd {α : Type} (p : α → Bool) (xs : List α) : -1 ≤ firstAt p xs ∧ firstAt p xs ≤ xs.length := by
  unfold firstAt
  cases h : xs.findIdx? p with
  | none => simp
  | some i =>
    have := List.findIdx?_eq_some_iff_getElem.1 h
    obtain ⟨hi, _⟩ := this
    simp; omega
theorem firstAt_cases {α : Type} (p : α → Bool) (xs : List α) : (firstAt p xs = -1 ∧ xs.find? p = none) ∨ ∃ (j : Nat) (x : α), xs[j]? = some x ∧ firstAt p xs = (j : Int) ∧ xs.find? p = some x ∧ p x = true := by
  induction xs with
  | nil => left; exact ⟨rfl, rfl⟩
  | cons y l ih =>
    cases hy : p y with
    | true => right; exact ⟨0, y, rfl, by simp [firstAt, List.findIdx?_cons, hy], by simp [List.find?, hy], hy⟩
    | false =>
      have hf : firstAt p (y :: l) = if firstAt p l = -1 then -1 else firstAt p l + 1 := by
        unfold firstAt
        rw [List.findIdx?_cons, hy]
        cases h : l.findIdx? p with
        | none => simp
        | some i => simp
      rcases ih with ⟨h1, h2⟩ | ⟨j, x, h1, h2, h3, h4⟩
      · left; exact ⟨by rw [hf, h1]; rfl, by simp [List.find?, hy, h2]⟩
      · right; exact ⟨j + 1, x, by simpa using h1, by rw [hf, h2, if_neg (by omega)]; simp, by simp [List.find?, hy, h3], h4⟩
theorem take_snoc {α : Type} {xs : List α} {k : Nat} {x : α} (hx : xs[k]? = some x) : xs.take (k + 1) = xs.take k ++ [x] := by
  rw [List.take_add_one, hx]; rfl
theorem lt_of_some {α : Type} {xs : List α} {k : Nat} {x : α} (hx : xs[k]? = some x) : k < xs.length := (List.getElem?_eq_some_iff.1 hx).1
theorem some_of_lt {α : Type} {xs : List α} {k : Nat} (h : k < xs.length) : ∃ x, xs[k]? = some x := ⟨_, List.getElem?_eq_getElem h⟩
end Go
