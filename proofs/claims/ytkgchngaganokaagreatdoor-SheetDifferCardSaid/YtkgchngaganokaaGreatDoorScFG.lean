/-
  Several texts in one: see the heads of its parts.
-/
import Derived.Test.YtkgchngaganokaaGreatDoorBs
import Derived.Test.YtkgchngaganokaaGreatDoorSa
import Derived.Test.YtkgchngaganokaaGreatDoorRx
import Derived.Scope
import Derived.RangeFuncBox
import Derived.Maps.AppendAt

/-
  Walks of package scale: the iterator over a scale's tunes.
-/
namespace Go.Proofs.YtkgchngaganokaaGreatDoor
open Go.RowKit Go.Shelf Kr

/-- A tune within the bounds of a valid scale. -/
abbrev TuneB := { t : Tune // (-10 ≤ t.gain ∧ t.gain ≤ 10) ∧ (-100 ≤ t.off.lo ∧ t.off.lo ≤ 100) ∧ (-100 ≤ t.off.hi ∧ t.off.hi ≤ 100) }
def encT (x : TuneB) : Array Value := #[.agg #[.int .i64 x.1.gain, .int .i64 x.1.off.lo, .int .i64 x.1.off.hi]]

theorem cells_block {W : World} {B : Nat} {cs : List Value} {t : TypeId} (h : W.heap[B]? = some (.cells cs.toArray t (0, 0))) (i : Nat) (u : Value) (hu : cs[i]? = some u) : W.cell? ⟨B, i, none⟩ = some u := by
  simp [World.cell?, h, hu]
theorem foldl_split {α β : Type} (f : β → α → β) (l : List α) (m : Nat) (b : β) : l.foldl f b = (l.drop m).foldl f ((l.take m).foldl f b) := by
  rw [← List.foldl_append, List.take_append_drop]
theorem tune_dead {s : Scale} {g : Int} {m : Nat} {o : Span} (ho : o = (s.trials.take m).foldl (offStep g s.step) s.off) (h : o.hi < o.lo) : tuneAt s g = [] := by
  have h2 := offs_sub g s.step (s.trials.drop m) o
  rw [ho, ← foldl_split, ← ho] at h2
  unfold tuneAt offs
  rw [if_neg (by omega)]
theorem tune_live {s : Scale} {g : Int} {o : Span} (ho : o = s.trials.foldl (offStep g s.step) s.off) (h : o.lo ≤ o.hi) : tuneAt s g = [⟨g, o⟩] := by
  unfold tuneAt offs
  rw [← ho, if_pos h]
theorem abides_exts {β : Type} {B : Nat} {J : β → World → Prop} (h : AbidesFrom B J) {s : β} {A W : World} (hJ : J s A) (hE : A.Exts W) : J s W := by
  have hb := hE.below
  exact h s A W none hJ ⟨hb.os, hb.tape, hb.output, hb.size, fun k hk _ => hb.block k hk⟩ (fun r e => by cases e)

/-- What a round over a scale's tunes keeps: all that lies in u, and the scale's own block. -/
def KeepsScale (u : World) (Bs : Nat) (W W' : World) : Prop := Below u.heap.size W W' ∧ (Bs < W.heap.size → W'.heap[Bs]? = W.heap[Bs]?)
theorem KeepsScale.trans {u : World} {Bs : Nat} {A B C : World} (h : KeepsScale u Bs A B) (k : KeepsScale u Bs B C) : KeepsScale u Bs A C :=
  ⟨h.1.trans k.1, fun hb => (k.2 (Nat.lt_of_lt_of_le hb h.1.size)).trans (h.2 hb)⟩
theorem KeepsScale.put {u w : World} {Bs : Nat} (hu : u.heap.size ≤ w.heap.size) (hb : Bs < w.heap.size) (W : World) (l : Nat) (o o' : Obj) (hl : w.heap.size ≤ l) (ho : W.heap[l]? = some o) (h1 : o.isCells = false) (h2 : o.isWalk = false) : KeepsScale u Bs W (W.putObj l o') :=
  ⟨belowK_b hu W l o o' hl ho h1 h2, fun _ => World.putObj_heap_other (by omega)⟩
theorem KeepsScale.of_exts {u : World} {Bs : Nat} {W W' : World} (hu : u.heap.size ≤ W.heap.size) (h : W.Exts W') : KeepsScale u Bs W W' := ⟨h.below.mono hu, fun hb => h.below.block Bs hb⟩
theorem KeepsScale.of_below {u w : World} {Bs : Nat} {W W' : World} (hu : u.heap.size ≤ w.heap.size) (hb : Bs < w.heap.size) (h : Below w.heap.size W W') : KeepsScale u Bs W W' := ⟨h.mono hu, fun _ => h.block Bs hb⟩
theorem seqStopsK_mono {α : Type} {F : Fence} {n : Nat} {P : Program} {g : Nat} {lb : Array Value} {encs : α → Array Value} {K1 K2 : World → World → Prop} {S Sp : List α → Prop} {N : Nat} {w : World} (hK : ∀ W W', K1 W W' → K2 W W')
    (h : SeqStopsK F n P g lb encs K2 S Sp N w) : SeqStopsK F n P g lb encs K1 S Sp N w := fun l J Jx W hW hJ hJx hY h0 => by
  refine h l J Jx W hW hJ hJx (fun pre x W1 hj hlen => ?_) h0
  obtain ⟨fn, tmps, assign, body, hy, hR⟩ := hY pre x W1 hj hlen
  refine ⟨fn, tmps, assign, body, hy, hR.mono ?_⟩
  rintro e W' (⟨h1, h2, h3⟩ | h1)
  · exact .inl ⟨h1, h2, hK _ _ h3⟩
  · exact .inr h1

end Go.Proofs.YtkgchngaganokaaGreatDoor

/-
  Walks of the reference of layer 4: the truths of a scale.
-/
namespace Go.Proofs.YtkgchngaganokaaGreatDoor
open Go.RowKit Kr

/-- The inner loop's books: from the first offset to before y. -/
def someB (s : Scale) (g y : Int) : Bool := decide ((offs s g).lo ≤ min (offs s g).hi (y - 1))
def inBooks (s : Scale) (g y lo hi : Int) : Prop := someB s g y = true → lo = (offs s g).lo ∧ hi = min (offs s g).hi (y - 1)
theorem someB_start (s : Scale) (g : Int) : someB s g s.off.lo = false := by
  have := offs_in s g
  unfold someB; simp; omega
theorem someB_hit {s : Scale} {g y : Int} (h : trueB s g y = true) : someB s g (y + 1) = true := by
  have := (trueB_iff s g y).1 h
  unfold someB; simp; omega
theorem someB_miss {s : Scale} {g y : Int} (hg : s.gain.lo ≤ g ∧ g ≤ s.gain.hi) (h : trueB s g y = false) : someB s g (y + 1) = someB s g y ∧ min (offs s g).hi (y + 1 - 1) = min (offs s g).hi (y - 1) ∨ someB s g (y + 1) = false ∧ someB s g y = false := by
  have hn : ¬ ((offs s g).lo ≤ y ∧ y ≤ (offs s g).hi) := fun hc => by
    have := (trueB_iff s g y).2 ⟨hg, hc⟩
    rw [h] at this; cases this
  unfold someB
  by_cases hc : y ≤ (offs s g).hi
  · right; simp; omega
  · left; exact ⟨by rw [Bool.eq_iff_iff]; simp; omega, by omega⟩
theorem books_first {s : Scale} {g y : Int} (h : trueB s g y = true) (hs : someB s g y = false) : inBooks s g (y + 1) y y := fun _ => by
  have := (trueB_iff s g y).1 h
  unfold someB at hs; simp at hs
  omega
theorem books_next {s : Scale} {g y lo hi : Int} (h : trueB s g y = true) (hs : someB s g y = true) (hb : inBooks s g y lo hi) : inBooks s g (y + 1) lo y := fun _ => by
  have := (trueB_iff s g y).1 h
  have := hb hs
  omega
theorem books_miss {s : Scale} {g y lo hi : Int} (hg : s.gain.lo ≤ g ∧ g ≤ s.gain.hi) (h : trueB s g y = false) (hb : inBooks s g y lo hi) : inBooks s g (y + 1) lo hi := fun hs => by
  rcases someB_miss hg h with ⟨h1, h2⟩ | ⟨h1, _⟩
  · rw [h1] at hs; rw [h2]; exact hb hs
  · rw [h1] at hs; cases hs
theorem someB_miss' {s : Scale} {g y : Int} (hg : s.gain.lo ≤ g ∧ g ≤ s.gain.hi) (h : trueB s g y = false) : someB s g (y + 1) = someB s g y := by
  rcases someB_miss hg h with ⟨h1, _⟩ | ⟨h1, h2⟩
  · exact h1
  · rw [h1, h2]
theorem books_end {s : Scale} {g lo hi : Int} (hb : inBooks s g (s.off.hi + 1) lo hi) : tuneAt s g = if someB s g (s.off.hi + 1) then [⟨g, ⟨lo, hi⟩⟩] else [] := by
  have h1 := offs_in s g
  unfold tuneAt
  by_cases hc : (offs s g).lo ≤ (offs s g).hi
  · have hs : someB s g (s.off.hi + 1) = true := by unfold someB; simp; omega
    obtain ⟨rfl, rfl⟩ := hb hs
    rw [if_pos hc, hs, show min (offs s g).hi (s.off.hi + 1 - 1) = (offs s g).hi from by omega]
    rfl
  · have hs : someB s g (s.off.hi + 1) = false := by unfold someB; simp; omega
    rw [if_neg hc, hs]; rfl

def tuneCs (l : List Tune) : List Value := l.flatMap fun t => [.int .i64 t.gain, .int .i64 t.off.lo, .int .i64 t.off.hi]

end Go.Proofs.YtkgchngaganokaaGreatDoor

/-
  Walks of package scale: Tunes, by slices.Collect over the iterator.
-/
namespace Go.Proofs.YtkgchngaganokaaGreatDoor
open Go.RowKit Go.Shelf Kr

attribute [local go_sem] Oper.semAt_some

end Go.Proofs.YtkgchngaganokaaGreatDoor
