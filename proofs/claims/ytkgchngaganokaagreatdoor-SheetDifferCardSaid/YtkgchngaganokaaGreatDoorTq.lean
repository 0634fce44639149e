/-
  Several texts in one: see the heads of its parts.
-/
import Derived.Test.YtkgchngaganokaaGreatDoorTm
import Derived.Test.YtkgchngaganokaaGreatDoorTe
import Derived.Test.YtkgchngaganokaaGreatDoorTf
import Derived.Test.YtkgchngaganokaaGreatDoorSoT

/-
  Walks of package scale and of its reference: what scales can weigh together.
-/
namespace Go
open Go.RowKit
theorem LaysAs.set {w : World} {b i : Nat} {cs : List Value} {t : TypeId} {fr : Nat × Nat} (h : LaysAs w b (.cells cs.toArray t fr)) (u : Value) : LaysAs (w.setCell ⟨b, i, none⟩ u) b (.cells (cs.set i u).toArray t fr) := by
  unfold LaysAs World.setCell at *
  simp [Array.getElem?_modify, h]
/-- A row of other things than slices does not lie in a box of a slice. -/
theorem off_box {α : Type} {enc : α → List Value} {k b n c : Nat} {q : Option Addr} {t : TypeId} {fr : Nat × Nat} {W : World} {v : Value} {xs : List α} (hb : LaysAs W b (.cells #[.slice q n c] t fr)) (h : IsRow enc k W v xs) (henc : ∀ x, ∃ u, (enc x)[0]? = some u ∧ u ≠ .slice q n c) : RowOff enc k W [b] v xs := by
  refine ⟨h, ?_⟩
  obtain ⟨p, b', o, cap, rfl, hm, hp, hc⟩ := h.ex
  rcases xs with _ | ⟨x, xs⟩
  · exact .inl rfl
  · refine .inr fun g hg e => ?_
    rw [List.mem_singleton.1 hg] at e
    obtain ⟨rfl, hl⟩ := hp (by simp)
    simp [Value.ownBlock] at e
    subst e
    obtain ⟨u, hu, hne⟩ := henc x
    have h1 := hc 0 x rfl 0 u hu
    unfold LaysAs at hb
    simp [World.cell?, hb] at h1
    rcases Nat.eq_zero_or_pos o with ho | ho
    · subst ho; simp at h1; exact hne h1.symm
    · rw [List.getElem?_eq_none (by simp; omega)] at h1; cases h1
theorem laysAs_size (w : World) (o : Obj) {n : Nat} (h : n = w.heap.size) : LaysAs (w.alloc o) n o := by subst h; exact LaysAs.new w o
theorem BlkAt.new (w : World) (cs : List Value) (t : TypeId) {n : Nat} (h : n = w.heap.size) : BlkAt (w.alloc (.cells cs.toArray t (0, 0))) n cs := by
  have hl := laysAs_size w (.cells cs.toArray t (0, 0)) h
  refine ⟨fun q u hq => LaysAs.cell hl q u hq, fun q _ => ?_⟩
  unfold LaysAs at hl
  simp [World.frozen?, hl]
theorem grown_exts {W W' : World} {b : Option Nat} (hE : W.Exts W') : W.grownBy W' b :=
  ⟨hE.below.os, hE.below.tape, hE.below.output, hE.below.size, fun k hk _ => hE.below.block k hk⟩
theorem grown_set (W : World) (b i : Nat) (u : Value) : W.grownBy (W.setCell ⟨b, i, none⟩ u) (some b) :=
  ⟨rfl, rfl, rfl, by simp, fun k _ hne => World.heap_set_other W _ u (fun e => hne (by rw [e]))⟩
theorem grown_trans {A B C : World} {b : Nat} (h : A.grownBy B (some b)) (k : B.grownBy C (some b)) : A.grownBy C (some b) := h.andThen k (fun _ hj => .inr hj)
theorem LaysAs.grown {W W' : World} {b g : Nat} {ob : Obj} (h : LaysAs W b ob) (hg : W.grownBy W' (some g)) (hne : b ≠ g) : LaysAs W' b ob := (hg.block b h.lt (fun e => hne (by cases e; rfl))).trans h
theorem RowOff.grown {α : Type} {enc : α → List Value} {k g : Nat} {w w' : World} {v : Value} {xs : List α} (h : RowOff enc k w [g] v xs) (hg : w.grownBy w' (some g)) : RowOff enc k w' [g] v xs := by
  refine ⟨?_, h.off⟩
  obtain ⟨p, b, o, cap, rfl, hm, hp, hc⟩ := h.row.ex
  refine ⟨p, b, o, cap, rfl, hm, fun h0 => ⟨(hp h0).1, ⟨Nat.lt_of_lt_of_le (hp h0).2.lt hg.size⟩⟩, fun i x hx j u' hu => ?_⟩
  have h0 : 0 < xs.length := by have := (List.getElem?_eq_some_iff.1 hx).1; omega
  have hb : b ≠ g := fun e => by
    rcases h.off with h1 | h1
    · rw [h1] at h0; simp at h0
    · have h2 := h1 g (by simp)
      rw [(hp h0).1, e] at h2; exact h2 rfl
  exact hg.cell (hc i x hx j u' hu) (fun e => hb (by cases e; rfl))
end Go
namespace Go.Proofs.YtkgchngaganokaaGreatDoor
open Go.RowKit Kr
set_option linter.unusedSimpArgs false

/-- How far the totals of k scales can reach. -/
def TotOk (k : Nat) (all : List Span) : Prop := Neat all ∧ Within 0 (1000000 + 6000000 * k) all
theorem within_le {a b c : Int} {l : List Span} (h : Within a b l) (hc : b ≤ c) : Within a c l := fun s hs => by have := h s hs; omega
structure PlusOk (a b : List Span) : Prop where
  fa : Full a
  fb : Full b
  wa : Within 0 40000000000 a
  wb : Within 0 40000000000 b
  hl : a.length * b.length ≤ 1000000000000
theorem tot_step {s : Scale} {ls : List Load} {all : List Span} {k : Nat} (hr : right s = true) (h6 : ls.length ≤ 6) (h : TotOk k all) (hk : k ≤ 10) : PlusOk all (sums (parts s ls)) ∧ TotOk (k + 1) (plus all (sums (parts s ls))) := by
  have hg := parts_good s ls
  have hn := sums_neat hg
  have hw := sums_within hg
  have hlen : (sums (parts s ls)).length ≤ 4221 := Nat.le_trans (merged_len _) (by rw [List.length_map]; exact parts_len ls hr)
  have hal := neat_len h.1 h.2 (by omega)
  have hl2 : all.length ≤ 70000000 := by omega
  refine ⟨⟨h.1.1, hn.1, within_le h.2 (by omega), within_le hw (by omega), ?_⟩, plus_neat h.1.1 hn.1, ?_⟩
  · calc all.length * (sums (parts s ls)).length ≤ 70000000 * 4221 := Nat.mul_le_mul hl2 hlen
      _ ≤ 1000000000000 := by decide
  · refine within_le (Kr.plus_within h.1.1 hn.1 h.2 hw) (by omega)

/-- What the three calls of a round leave. -/
def TotAt (s : Scale) (ls : List Load) (all : List Span) (c p q r : Nat) (W : World) (v : Value) : Prop :=
  (c = p → IsRow (fun t : Kr.Part => [.int .i64 t.gain, .int .i64 t.off, .int .i64 t.sum.lo, .int .i64 t.sum.hi]) 4 W v (parts s ls)) ∧ (c = q → IsRow (fun t : Kr.Span => [.int .i64 t.lo, .int .i64 t.hi]) 2 W v (sums (parts s ls))) ∧ (c = r → IsRow (fun t : Kr.Span => [.int .i64 t.lo, .int .i64 t.hi]) 2 W v (plus all (sums (parts s ls))))
theorem TotAt.mono {s : Scale} {ls : List Load} {all : List Span} {c p q r : Nat} {W W' : World} {v : Value} (h : TotAt s ls all c p q r W v) (hE : W.Exts W') : TotAt s ls all c p q r W' v :=
  ⟨fun e => (h.1 e).mono hE, fun e => (h.2.1 e).mono hE, fun e => (h.2.2 e).mono hE⟩

theorem totalsL_snoc {ls : List Load} {all : List Span} {l : List Scale} {k : Nat} {s : Scale} (hs : l[k]? = some s) : totalsL ls all (l.take (k + 1)) = plus (totalsL ls all (l.take k)) (sums (parts s ls)) := by
  unfold totalsL; rw [take_snoc hs, List.foldl_append]; rfl

end Go.Proofs.YtkgchngaganokaaGreatDoor

/-
  Walks of package scale and of its reference: Totals, in whole.
-/
namespace Go.Proofs.YtkgchngaganokaaGreatDoor
open Go.RowKit Kr
set_option linter.unusedSimpArgs false

structure AskOk (b : List Scale) (g : Gear) : Prop where
  few : b.length ≤ 4
  rt : ∀ s ∈ b, right s = true
  l6 : g.loads.length ≤ 6
  sh : ∀ s ∈ b, ∀ l ∈ g.loads, l.scale = s.id → -2000000 ≤ l.shown ∧ l.shown ≤ 2000000
  ad : 0 ≤ g.added ∧ g.added ≤ 1000000
theorem check_ok {b : List Scale} {g : Gear} (h1 : bayOk b = true) (h2 : gearOk b g = true) : AskOk b g := by
  have h3 := h2
  simp only [gearOk, Bool.and_eq_true, decide_eq_true_eq, List.all_eq_true] at h3
  have h4 := h1
  simp only [bayOk, Bool.and_eq_true, decide_eq_true_eq] at h4
  refine ⟨h4.2, bayFrom_right h4.1, h3.1.2, fun s _ l hl _ => ?_, (bare_bounds h3.2).1⟩
  have h5 := h3.1.1 l hl
  unfold loadOk at h5
  split at h5
  · simp [shownB, inb] at h5; omega
  · cases h5
theorem check_zero {b : List Scale} {g : Gear} (h : check b g = 0) : bayOk b = true ∧ gearOk b g = true := by
  unfold check at h
  cases h1 : bayOk b <;> rw [h1] at h
  · simp at h
  · cases h2 : gearOk b g <;> rw [h2] at h
    · simp at h
    · exact ⟨rfl, rfl⟩
theorem check_three (b : List Scale) (g : Gear) : check b g = 0 ∨ check b g = 41 ∨ check b g = 40 := by
  unfold check
  cases bayOk b
  · simp
  · cases gearOk b g <;> simp
def totalsR (b : List Scale) (g : Gear) : List Span × Int := if check b g = 0 then (if (totals b g).length = 0 then ([], 6) else (totals b g, 0)) else ([], check b g)

end Go.Proofs.YtkgchngaganokaaGreatDoor

/-
  Walks of the reference: Truth, and what it asks.
-/
namespace Go.Proofs.YtkgchngaganokaaGreatDoor
open Go.RowKit Kr
set_option linter.unusedSimpArgs false

theorem touches_part {l : List Span} {k : Nat} {x : Span} (hx : l[k]? = some x) (lo hi : Int) : touches (l.take (k + 1)) lo hi = (touches (l.take k) lo hi || (decide (x.lo ≤ hi) && decide (lo ≤ x.hi))) := by
  unfold touches; rw [take_snoc hx, List.any_append]; simp
theorem touches_hit {l : List Span} {k : Nat} {x : Span} (hx : l[k]? = some x) {lo hi : Int} (h1 : x.lo ≤ hi) (h2 : lo ≤ x.hi) : touches l lo hi = true := by
  unfold touches; rw [List.any_eq_true]; exact ⟨x, List.mem_of_getElem? hx, by simp [h1, h2]⟩

end Go.Proofs.YtkgchngaganokaaGreatDoor
