/-
  slices.SortFunc over a slice that a function owns: from the shelf's words to this work's.
-/
import Derived.Test.YtcickafaomfbmaaGreatDoorZSBksBs
import Derived.Shelf.SlSortCmp.WholeK
namespace Go
open Go.RowKit Go.Shelf Go.Lib

theorem flat_at {α : Type} [Inhabited α] {enc : α → List Value} {k : Nat} (hk : ∀ x, (enc x).length = k) (h0 : 0 < k) : ∀ (l : List α) (t : Nat), t < l.length * k → (l.flatMap enc)[t]? = (enc l[t / k]!)[t % k]? := by
  intro l
  induction l with
  | nil => intro t ht; simp at ht
  | cons x l ih =>
    intro t ht
    rw [List.flatMap_cons]
    by_cases hlt : t < k
    · rw [List.getElem?_append_left (by rw [hk]; exact hlt), Nat.div_eq_of_lt hlt, Nat.mod_eq_of_lt hlt]
      rfl
    · obtain ⟨u, rfl⟩ : ∃ u, t = u + k := ⟨t - k, by omega⟩
      rw [List.getElem?_append_right (by rw [hk]; omega), hk, Nat.add_sub_cancel, Nat.add_div_right _ h0, Nat.add_mod_right]
      rw [List.length_cons, Nat.succ_mul] at ht
      exact ih u (by omega)

section
variable {α : Type} [Inhabited α] {enc : α → List Value} {k : Nat} {W : World} {base g cap : Nat} {e : TypeId} {xs : List α}
theorem sort_holds (hk : ∀ x, (enc x).length = k) (h0 : 0 < k) (h : W.ownsRow base e k (.slice (some ⟨g, 0, none⟩) xs.length cap) xs.length (xs.flatMap enc)) : Sort.HoldsK enc k W g 0 xs.toArray := by
  intro j hj
  have hj' : j < xs.length * k := by simpa using hj
  refine ⟨?_, by rw [Nat.zero_add]; exact h.frozenAt j⟩
  rw [Nat.zero_add, h.cellAt j hj', flat_at hk h0 xs j hj', Sort.get_flatK _ _ _ _ (by simpa using hj')]
  have hm : j % k < (enc (xs.toArray)[j / k]!).length := by rw [hk]; exact Nat.mod_lt _ h0
  have e1 : (xs.toArray)[j / k]! = xs[j / k]! := by simp
  rw [e1] at hm ⊢
  rw [List.getElem?_eq_getElem hm, getElem!_pos (enc xs[j / k]!) (j % k) hm]
  rfl
theorem sort_block (hg : ∃ cur : Array Value, W.heap[g]? = some (.cells cur e (0, 0))) (m : Nat) (d' : Array α) (os : Array Obj) (hlt : g < W.heap.size) : ∃ cur : Array Value, W.heap[g]? = some (.cells cur e (0, 0)) ∧
    (Proofs.sortWorldK enc k W g 0 m d' os).heap[g]? = some (.cells (Sort.putCells id 0 (Sort.flatK enc k d') cur) e (0, 0)) := by
  obtain ⟨cur, hc⟩ := hg
  refine ⟨cur, hc, ?_⟩
  unfold Proofs.sortWorldK
  rw [Sort.heap_grow_old _ _ (by simp [Sort.putRowK, Sort.putRow, Sort.mapBlock, Sort.ahead]; exact hlt)]
  simp [Sort.putRowK, Sort.putRow, Sort.mapBlock, Sort.ahead, Array.getElem?_modify, hc, Sort.onCells]
theorem sort_left (hk : ∀ x, (enc x).length = k) (h0 : 0 < k) (h : W.ownsRow base e k (.slice (some ⟨g, 0, none⟩) xs.length cap) xs.length (xs.flatMap enc)) (m : Nat) (d' : Array α) (os : Array Obj) (hd : d'.size = xs.length) :
    (Proofs.sortWorldK enc k W g 0 m d' os).ownsRow base e k (.slice (some ⟨g, 0, none⟩) xs.length cap) xs.length (d'.toList.flatMap enc) := by
  have hfl : (d'.toList.flatMap enc).length = xs.length * k := by rw [flat_len (size := k) _ (fun y _ => hk y), Array.length_toList, hd]
  rcases h.2 with ⟨hn, _⟩ | ⟨g', cap', cur, hv, hb, hg, hnc, hcm, hcs, htake⟩
  · cases hn
  · cases hv
    have hlt : g < W.heap.size := (Array.getElem?_eq_some_iff.1 hg).1
    obtain ⟨cur', hc', hnew⟩ := sort_block (enc := enc) (k := k) ⟨cur, hg⟩ m d' os hlt
    rw [hg] at hc'
    obtain rfl : cur = cur' := by cases hc'; rfl
    refine ⟨hfl, .inr ⟨g, cap, _, rfl, hb, hnew, hnc, hcm, by simpa [Sort.putCells] using hcs, ?_⟩⟩
    have hle : xs.length * k ≤ cur.size := by rw [hcs]; exact Nat.mul_le_mul_right _ hnc
    apply List.ext_getElem?
    intro t
    rw [List.getElem?_take]
    by_cases ht : t < xs.length * k
    · rw [if_pos ht, flat_at hk h0 _ t (by rw [Array.length_toList, hd]; exact ht)]
      have hm : t % k < (enc (d'.toList)[t / k]!).length := by rw [hk]; exact Nat.mod_lt _ h0
      have hget := Sort.get_flatK enc k d' t (by rw [hd]; exact ht)
      have e1 : (d'.toList)[t / k]! = d'[t / k]! := by rw [List.getElem!_eq_getElem?_getD, Array.getElem!_eq_getD, Array.getD_eq_getD_getElem?, Array.getElem?_toList]
      rw [e1] at hm ⊢
      rw [List.getElem?_eq_getElem hm]
      simp only [Sort.putCells, Array.toList_mapIdx]
      rw [List.getElem?_mapIdx]
      have ht2 : t < cur.toList.length := by rw [Array.length_toList]; omega
      rw [List.getElem?_eq_getElem ht2, Option.map_some, if_pos ⟨Nat.zero_le _, by rw [Sort.size_flatK, hd]; omega⟩, Nat.sub_zero, hget, getElem!_pos (enc d'[t / k]!) (t % k) hm]
      rfl
    · rw [if_neg ht, List.getElem?_eq_none (by omega)]
end
section
variable {W : World}
theorem exts_grow {A : World} (hE : A.Exts W) (q : Nat) (os : Array Obj) : A.Exts (Sort.grow (W.drewN q) os) := by
  have hb := hE.below
  refine .of ⟨hb.os, hb.tape, hb.output, ?_, fun i hi => ?_⟩
  · have := hb.size; simp [World.drewN]; omega
  · rw [Sort.heap_grow_old _ _ (by have := hb.size; simp [World.drewN]; omega)]
    exact hb.block i hi
end
end Go
