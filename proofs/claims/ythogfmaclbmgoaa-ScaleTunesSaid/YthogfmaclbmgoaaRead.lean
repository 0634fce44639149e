/-
  From the form's reading of an argument to this work's words.
-/
import Derived.Test.YthogfmaclbmgoaaRep
import Derived.ChangeArms
import Derived.Deep.Slices
namespace Go
open Go.RowKit

section
variable {H : Type} {enc : TypeId × Value → H} {P : Program} {w : World} {base : Nat} {spare : Nat → Bool} {held : Bool}

/-- The cells that a value of type t may have, as a relation that the reading implies. -/
def ReadsAs (enc : TypeId × Value → H) (P : Program) (w : World) (base : Nat) (spare : Nat → Bool) (held : Bool) (t : TypeId) {α : Type} (cells : α → List Value) (R : α → Prop) : Prop :=
  ∀ (fuel : Nat) (cs : List Value) (x : DataW H × List MemPlace), DataW.trod enc P w base spare held fuel t cs = some x → ∃ y : α, cs = cells y ∧ R y

theorem readsAs_int {t : TypeId} (ht : P.underlying t = some (.int .i64)) : ReadsAs enc P w base spare held t (fun n : Int => [.int .i64 n]) (fun n => (Lit.int .i64 n).wf = true) := fun _ _ _ h => by
  obtain ⟨n, h1, _, h2⟩ := DataW.trod_int ht h
  exact ⟨n, h1, h2⟩
theorem readsAs_bool {t : TypeId} (ht : P.underlying t = some .bool) : ReadsAs enc P w base spare held t (fun b : Bool => [.bool b]) (fun _ => True) := fun _ _ _ h => by
  obtain ⟨b, h1, _⟩ := DataW.trod_bool ht h
  exact ⟨b, h1, trivial⟩

theorem add_none (b o n : Nat) : (⟨b, o, none⟩ : Addr).add n = ⟨b, o + n, none⟩ := by
  unfold Addr.add; split <;> simp_all
theorem cells_get {a : Addr} {k : Nat} {cs : List Value} (h : w.cells? base a k = some cs) : cs.length = k ∧ ∀ j u, cs[j]? = some u → w.cell? (a.add j) = some u := by
  unfold World.cells? at h
  split at h
  · have hlen := mapM_some_length h
    refine ⟨by simpa using hlen, fun j u hj => ?_⟩
    have hjk : j < k := by have := (List.getElem?_eq_some_iff.1 hj).1; simpa [hlen] using this
    have := mapM_some_get h j j (by simp [hjk])
    rw [this, hj]
  · cases h

/-- A slice, element by element. -/
theorem readsAs_slice {t e : TypeId} {k : Nat} {α : Type} [Inhabited α] {cells : α → List Value} {R : α → Prop} (ht : P.underlying t = some (.slice e)) (hk : P.cellsOf e = k) (hk0 : 0 < k) (hc : ∀ y, (cells y).length = k) (he : ReadsAs enc P w base spare held e cells R) :
    ReadsAs enc P w base spare held t (fun p : Value × List α => [p.1]) (fun p => IsRow cells k w p.1 p.2 ∧ ∀ y ∈ p.2, R y) := fun fuel cs x h => by
  rcases Deep.open_slice ht h with ⟨rfl, _⟩ | ⟨a, len, cap, m, n, D, Pl, rfl, hb, hl, hm, hmm, _, hel⟩
  · exact ⟨(.slice none 0 0, []), rfl, IsRow.nil w, fun y hy => by cases hy⟩
  · have hlm : len ≤ m := by rw [hmm]; split <;> omega
    have each : ∀ i, i < len → ∃ y : α, w.cells? base (a.add (i * k)) k = some (cells y) ∧ R y := fun i hi => by
      obtain ⟨cs', h1, h2⟩ := hel i (by omega)
      rw [hk] at h1
      obtain ⟨y, rfl, hR⟩ := he _ _ _ h2
      exact ⟨y, h1, hR⟩
    obtain ⟨f, hf⟩ := Deep.choose_lt each
    have hspot : 0 < len → a.spot = none ∧ Lays w a.block := fun h0 => by
      obtain ⟨hl0, hg⟩ := cells_get (hf 0 h0).1
      rw [hc] at hl0
      obtain ⟨u, hu⟩ := some_of_lt (show 0 < (cells (f 0)).length by rw [hc]; exact hk0)
      have h1 := hg 0 u hu
      rw [Nat.zero_mul, show (a.add 0).add 0 = a from by simp [Addr.add]] at h1
      exact ⟨World.cell?_spot h1, ⟨World.block_lt_of_cell? w _ h1⟩⟩
    refine ⟨(.slice (some a) len cap, (List.range len).map f), rfl, ⟨some a, a.block, a.off, cap, by simp, by simp; unfold maxLen at hm; omega, fun h0 => ?_, fun i y hy j u hu => ?_⟩, fun y hy => ?_⟩
    · obtain ⟨hs, hl0⟩ := hspot (by simpa using h0)
      obtain ⟨ab, ao, asp⟩ := a
      dsimp only at hs hl0 ⊢
      subst hs
      exact ⟨rfl, hl0⟩
    · have hi : i < len := by have := lt_of_some hy; simpa using this
      have hyf : y = f i := by
        rw [List.getElem?_map, List.getElem?_range hi] at hy
        simpa using hy.symm
      subst hyf
      obtain ⟨_, hg⟩ := cells_get (hf i hi).1
      have h1 := hg j u hu
      obtain ⟨hs, _⟩ := hspot (by omega)
      obtain ⟨ab, ao, asp⟩ := a
      dsimp only at hs
      subst hs
      rw [add_none, add_none] at h1
      exact h1
    · obtain ⟨i, hi, rfl⟩ := List.mem_map.1 hy
      exact (hf i (List.mem_range.1 hi)).2

theorem struct_len {t : TypeId} {fuel : Nat} {cs : List Value} {x : DataW H × List MemPlace} {fs : Array Field} (ht : P.underlying t = some (.struct fs)) (h : DataW.trod enc P w base spare held fuel t cs = some x) {k : Nat} (hk : P.cellsOf t = k) : cs.length = k := by
  obtain ⟨_, _, _, _, hl, _⟩ := DataW.trod_struct ht h
  rw [hl, hk]
theorem field_reads {t : TypeId} {fuel : Nat} {cs : List Value} {x : DataW H × List MemPlace} {fs : Array Field} (ht : P.underlying t = some (.struct fs)) (h : DataW.trod enc P w base spare held fuel t cs = some x)
    {α : Type} {cells : α → List Value} {R : α → Prop} (i : Nat) (f : Field) (hf : fs[i]? = some f) {k : Nat} (hk : P.cellsOf f.type = k) (hR : ReadsAs enc P w base spare held f.type cells R) : ∃ y, (cs.drop f.offset).take k = cells y ∧ R y := by
  obtain ⟨xs, n, _, _, _, hx, hall⟩ := DataW.trod_struct ht h
  have h1 := hall i f hf
  have hlt : i < xs.length := by rw [hx]; exact (Array.getElem?_eq_some_iff.1 hf).1
  rw [List.getElem?_eq_getElem hlt, hk] at h1
  exact hR _ _ _ h1
theorem okWide_struct {r : Reach} {t : TypeId} {v : Value} {fs : Array Field} (ht : P.underlying t = some (.struct fs)) (h : Value.okWide P w r base t v) : ∃ cs, v = .agg cs := by
  unfold Value.okWide at h
  rw [ht] at h
  obtain ⟨cs, h, _⟩ := h
  exact ⟨cs, h⟩
end
end Go
