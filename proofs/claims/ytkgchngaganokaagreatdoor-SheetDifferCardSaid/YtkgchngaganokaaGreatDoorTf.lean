/-
  Several texts in one: see the heads of its parts.
-/
import Derived.Test.YtkgchngaganokaaGreatDoorSoT
import Derived.Test.YtkgchngaganokaaGreatDoorBt
import Derived.Deep.RegionLaw
import Derived.Test.YtkgchngaganokaaGreatDoorTe

/-
  Walks of the reference of layer 4: spans in order; the fewest spans; sums.
-/
set_option linter.unusedSimpArgs false
namespace Go.Proofs.YtkgchngaganokaaGreatDoor
open Go.RowKit Kr

theorem IsRow_take {α : Type} {enc : α → List Value} {k : Nat} {w : World} {p : Option Addr} {cap : Nat} {xs : List α} {n : Nat} (h : IsRow enc k w (.slice p n cap) xs) (m : Nat) (hm : m ≤ xs.length) : IsRow enc k w (.slice p m cap) (xs.take m) := by
  obtain ⟨q, b, o, cap', e, hl, hq, hc⟩ := h.ex
  cases e
  have hlen : (xs.take m).length = m := by rw [List.length_take]; omega
  refine ⟨p, b, o, cap, by rw [hlen], by rw [hlen]; omega, fun h0 => hq (by rw [hlen] at h0; omega), fun i x hx j u hu => hc i x ?_ j u hu⟩
  rw [List.getElem?_take] at hx
  split at hx
  · exact hx
  · cases hx
theorem IsRow_drop {α : Type} {enc : α → List Value} {k : Nat} {w : World} {b o n cap : Nat} {xs : List α} (h : IsRow enc k w (.slice (some ⟨b, o, none⟩) n cap) xs) (m : Nat) (hm : m < xs.length) : IsRow enc k w (.slice (some ⟨b, o + m * k, none⟩) (n - m) (cap - m)) (xs.drop m) := by
  obtain ⟨q, b', o', cap', e, hl, hq, hc⟩ := h.ex
  cases e
  obtain ⟨e, hlay⟩ := hq (by omega)
  cases e
  refine ⟨_, b, o + m * k, cap - m, by rw [List.length_drop], by rw [List.length_drop]; omega, fun h0 => ⟨rfl, hlay⟩, fun i x hx j u hu => ?_⟩
  rw [List.getElem?_drop] at hx
  have := hc (m + i) x hx j u hu
  rw [Nat.add_mul] at this
  rw [show o + m * k + i * k + j = o + (m * k + i * k) + j by omega]
  exact this

/-- What is known of the two halves' sorted rows. -/
def SortedAt (l : List Span) (c : Nat) (W : World) (v : Value) : Prop := ∃ l', IsRow (fun t : Kr.Span => [.int .i64 t.lo, .int .i64 t.hi]) 2 W v l' ∧ l'.Perm (if c = 5 then l.take (l.length / 2) else l.drop (l.length / 2)) ∧ ByLo l'
theorem SortedAt.mono {l : List Span} {c : Nat} {W W' : World} {v : Value} (h : SortedAt l c W v) (hE : W.Exts W') : SortedAt l c W' v := by
  obtain ⟨l', h1, h2⟩ := h; exact ⟨l', h1.mono hE, h2⟩

theorem IsRow_tail {α : Type} {enc : α → List Value} {k : Nat} {w : World} {b o cap : Nat} {x : α} {xs : List α} (h : IsRow enc k w (.slice (some ⟨b, o, none⟩) (xs.length + 1) cap) (x :: xs)) :
    IsRow enc k w (.slice (if cap = 1 then some ⟨b, o, none⟩ else some ⟨b, o + k, none⟩) xs.length (cap - 1)) xs := by
  obtain ⟨q, b', o', cap', e, hl, hq, hc⟩ := h.ex
  cases e
  obtain ⟨e, hlay⟩ := hq (by simp)
  cases e
  simp only [List.length_cons] at hl
  refine ⟨_, b, o + k, cap - 1, rfl, by omega, fun h0 => ⟨by rw [if_neg (by omega)], hlay⟩, fun i y hy j u hu => ?_⟩
  have := hc (i + 1) y (by simpa using hy) j u hu
  rw [Nat.succ_mul] at this
  rw [show o + k + i * k + j = o + (i * k + k) + j by omega]
  exact this
/-- The books of a merge: what has been laid, what is left of the two rows. -/
structure MergeAt (l ra rb o : List Span) : Prop where
  perm : (o ++ (ra ++ rb)).Perm l
  fst : ByLo (o ++ ra)
  snd : ByLo (o ++ rb)
def lenV : Value → Nat | .slice _ n _ => n | _ => 0

theorem merge_a {l : List Span} {x : Span} {ra rb o : List Span} (h : MergeAt l (x :: ra) rb o) (hx : ∀ y ∈ rb, x.lo ≤ y.lo) : MergeAt l ra rb (o ++ [x]) := by
  obtain ⟨h1, h2, h3⟩ := h
  refine ⟨by simpa using h1, by simpa using h2, ?_⟩
  obtain ⟨p1, p2, p3⟩ := List.pairwise_append.1 h2
  obtain ⟨q1, q2, q3⟩ := List.pairwise_append.1 h3
  refine List.pairwise_append.2 ⟨List.pairwise_append.2 ⟨p1, List.pairwise_singleton _ _, fun a ha b hb => ?_⟩, q2, fun a ha b hb => ?_⟩
  · rw [List.mem_singleton.1 hb]; exact p3 a ha x (List.mem_cons_self ..)
  · rcases List.mem_append.1 ha with ha | ha
    · exact q3 a ha b hb
    · rw [List.mem_singleton.1 ha]; exact hx b hb
theorem merge_b {l : List Span} {y : Span} {ra rb o : List Span} (h : MergeAt l ra (y :: rb) o) (hy : ∀ x ∈ ra, y.lo ≤ x.lo) : MergeAt l ra rb (o ++ [y]) := by
  obtain ⟨h1, h2, h3⟩ := h
  refine ⟨?_, ?_, by simpa using h3⟩
  · refine List.Perm.trans ?_ h1
    rw [List.append_assoc]
    exact List.Perm.append_left _ (List.perm_middle (l₁ := ra) (a := y) (l₂ := rb)).symm
  obtain ⟨p1, p2, p3⟩ := List.pairwise_append.1 h2
  obtain ⟨q1, q2, q3⟩ := List.pairwise_append.1 h3
  refine List.pairwise_append.2 ⟨List.pairwise_append.2 ⟨p1, List.pairwise_singleton _ _, fun a ha b hb => ?_⟩, p2, fun a ha b hb => ?_⟩
  · rw [List.mem_singleton.1 hb]; exact q3 a ha y (List.mem_cons_self ..)
  · rcases List.mem_append.1 ha with ha | ha
    · exact p3 a ha b hb
    · rw [List.mem_singleton.1 ha]; exact hy b hb
theorem head_le {x : Span} {l : List Span} {o : List Span} (h : ByLo (o ++ x :: l)) : ∀ y ∈ x :: l, x.lo ≤ y.lo := by
  intro y hy
  have h2 := (List.pairwise_append.1 h).2.1
  rcases List.mem_cons.1 hy with rfl | hy
  · exact Int.le_refl _
  · exact (List.pairwise_cons.1 h2).1 y hy

end Go.Proofs.YtkgchngaganokaaGreatDoor

/-
  Walks of the reference of layer 4: the fewest spans; sums; all sums.
-/
set_option linter.unusedSimpArgs false
namespace Go.Proofs.YtkgchngaganokaaGreatDoor
open Go.RowKit Kr

end Go.Proofs.YtkgchngaganokaaGreatDoor
