/-
  Several texts in one: see the heads of its parts.
-/

import Derived.WalkKit
import Derived.WalkSpells
import Derived.WalkLawsBesides
import Derived.Deep.QuietTactic
import Derived.BigQuiet
import Derived.StillTail
import Derived.Lib.Hide
import Derived.Test.YtcickafaomfbmaaGreatDoorZSBksPl
import Derived.Shelf.Abstract
import Derived.ChangeArms
import Derived.Deep.Slices
import Derived.Maps.Own
import Derived.Maps.OwnSet
import Derived.Maps.Views
import Derived.RangeFuncNested
import Derived.RangeFuncBound
import Derived.RangeFuncCalls
import Derived.RangeFuncLeaves
import Derived.RangeFuncWrites
import Derived.RangeFuncFrom
import Derived.Shelf.RegionOpen
import Derived.OwnWalkIn
import Derived.TacticsInMore
import Derived.LoopNIn
import Derived.LoopIn
import Derived.OrdersIn
import Derived.Scope
import Derived.AtR
/-
  Worlds that extend a world (new blocks and draws alone), as one word 'w.ext X', through which the walk sees; that a block lies in a world, as a class, so that the walk finds it by itself; regions that draw their order, whose operations read and whose callees leave such a world: one walk in the text's order serves every order.
-/
namespace Go
open Go.RowKit

/-- A world that came of w: below w's heap's size nothing has turned. -/
structure Ext (w : World) where
  to : World
  le : Below w.heap.size w to

instance (w : World) : Nonempty (Ext w) := ⟨⟨w, Below.refl _ _⟩⟩

def World.ext (w : World) (X : Ext w) : World := X.to

/-- Block n lies in w. -/
class Lays (w : World) (n : Nat) : Prop where
  lt : n < w.heap.size

/-- Two block numbers that differ. -/
class Differ (m n : Nat) : Prop where
  ne : m ≠ n

section
variable (w : World) (X : Ext w) (n i : Nat) (o o1 o2 o3 : Obj) (v : Value)
instance lays_alloc [h : Lays w n] : Lays (w.alloc o) n := ⟨by simp; exact Nat.lt_succ_of_lt h.lt⟩
instance lays_ext [h : Lays w n] : Lays (w.ext X) n := ⟨Nat.lt_of_lt_of_le h.lt X.le.size⟩
instance lays_drew [h : Lays w n] : Lays w.drew n := ⟨h.lt⟩
instance lays_set (a : Addr) [h : Lays w n] : Lays (w.setCell a v) n := ⟨by simp; exact h.lt⟩
instance lays_new : Lays (w.alloc o) w.heap.size := ⟨by simp⟩
instance lays_new2 : Lays ((w.alloc o).alloc o1) (w.heap.size + 1) := ⟨by simp⟩
instance lays_new3 : Lays (((w.alloc o).alloc o1).alloc o2) (w.heap.size + 2) := ⟨by simp⟩
instance lays_new4 : Lays ((((w.alloc o).alloc o1).alloc o2).alloc o3) (w.heap.size + 3) := ⟨by simp⟩
instance differ_size [h : Lays w n] : Differ n w.heap.size := ⟨Nat.ne_of_lt h.lt⟩
instance size_differ [h : Lays w n] : Differ w.heap.size n := ⟨Nat.ne_of_gt h.lt⟩
instance differ_size1 [h : Lays w n] : Differ n (w.heap.size + 1) := ⟨by have := h.lt; omega⟩
instance size1_differ [h : Lays w n] : Differ (w.heap.size + 1) n := ⟨by have := h.lt; omega⟩
instance differ_size2 [h : Lays w n] : Differ n (w.heap.size + 2) := ⟨by have := h.lt; omega⟩
instance size2_differ [h : Lays w n] : Differ (w.heap.size + 2) n := ⟨by have := h.lt; omega⟩
instance differ_size3 [h : Lays w n] : Differ n (w.heap.size + 3) := ⟨by have := h.lt; omega⟩
instance size3_differ [h : Lays w n] : Differ (w.heap.size + 3) n := ⟨by have := h.lt; omega⟩

@[go_sem] theorem World.cell?_ext [h : Lays w n] : (w.ext X).cell? ⟨n, i, none⟩ = w.cell? ⟨n, i, none⟩ := X.le.cell (p := ⟨n, i, none⟩) h.lt
@[go_sem] theorem World.frozen?_ext [h : Lays w n] : (w.ext X).frozen? ⟨n, i, none⟩ = w.frozen? ⟨n, i, none⟩ := X.le.frozen (p := ⟨n, i, none⟩) h.lt
@[go_sem] theorem World.cell?_alloc_lays [h : Lays w n] : (w.alloc o).cell? ⟨n, i, none⟩ = w.cell? ⟨n, i, none⟩ := World.cell?_alloc_lt w o ⟨n, i, none⟩ h.lt
@[go_sem] theorem World.frozen?_alloc_lays [h : Lays w n] : (w.alloc o).frozen? ⟨n, i, none⟩ = w.frozen? ⟨n, i, none⟩ := World.frozen?_alloc_old w o ⟨n, i, none⟩ (Nat.ne_of_lt h.lt)
@[go_sem] theorem World.cell?_set_differ (m j : Nat) [h : Differ m n] : (w.setCell ⟨m, j, none⟩ v).cell? ⟨n, i, none⟩ = w.cell? ⟨n, i, none⟩ :=
  World.cell?_setCell_other w _ _ v (fun e => h.ne (by cases e; rfl))
theorem World.size_ext_le : w.heap.size ≤ (w.ext X).heap.size := X.le.size
theorem Lays.of_cell {w : World} {n i : Nat} {v : Value} (h : w.cell? ⟨n, i, none⟩ = some v) : Lays w n := ⟨World.block_lt_of_cell? w _ h⟩
end

theorem RowKit.Below.ext {B : Nat} {a w : World} (h : Below B a w) (hB : B ≤ w.heap.size) (X : Ext w) : Below B a (w.ext X) := h.trans (X.le.mono hB)

/-- The end of a contract: some world that extends w. -/
def World.Exts (w w' : World) : Prop := ∃ X : Ext w, w' = w.ext X
theorem World.Exts.of {w w' : World} (h : Below w.heap.size w w') : w.Exts w' := ⟨⟨w', h⟩, rfl⟩
theorem World.Exts.refl (w : World) : w.Exts w := .of (Below.refl _ _)
theorem World.Exts.below {w w' : World} (h : w.Exts w') : Below w.heap.size w w' := by obtain ⟨X, rfl⟩ := h; exact X.le
theorem World.Exts.trans {a b c : World} (h : a.Exts b) (k : b.Exts c) : a.Exts c := .of (h.below.trans (k.below.mono h.below.size))
theorem World.Exts.alloc {a w : World} (h : a.Exts w) (o : Obj) : a.Exts (w.alloc o) := .of (h.below.alloc h.below.size o)
theorem World.Exts.drew {a w : World} (h : a.Exts w) : a.Exts w.drew := .of h.below.drew
theorem World.Exts.drewN {a w : World} (h : a.Exts w) (n : Nat) : a.Exts (w.drewN n) := .of ⟨h.below.os, h.below.tape, h.below.output, h.below.size, h.below.block⟩
theorem World.Exts.ext {a w : World} (h : a.Exts w) (X : Ext w) : a.Exts (w.ext X) := .of (h.below.ext h.below.size X)
theorem World.Exts.setCell {a w : World} (h : a.Exts w) {p : Addr} (hp : a.heap.size ≤ p.block) (v : Value) : a.Exts (w.setCell p v) := .of (h.below.setCell hp v)
theorem World.Exts.size {a w : World} (h : a.Exts w) : a.heap.size ≤ w.heap.size := h.below.size
theorem World.Exts.cell {a w : World} (h : a.Exts w) {b i : Nat} {v : Value} (hc : a.cell? ⟨b, i, none⟩ = some v) : w.cell? ⟨b, i, none⟩ = some v :=
  (h.below.cell (p := ⟨b, i, none⟩) (World.block_lt_of_cell? a _ hc)).trans hc
theorem World.Exts.lays {a w : World} (h : a.Exts w) {b : Nat} (hb : Lays a b) : Lays w b := ⟨Nat.lt_of_lt_of_le hb.lt h.size⟩

theorem wpAny_ext {P : Program} {l : List Oper} {Q : Exit → Act → World → Prop} {a : Act} {w : World} (hB : Region.lexB .any l.toArray = true)
    (h : wpQuiet P l.toArray (fun W => ∃ X : Ext w, W = w.ext X) (fun a' => ∀ W, (∃ X : Ext w, W = w.ext X) → Q .normal a' W) l a) :
    wpAny P .any l.toArray Q l.toArray.size (Array.replicate l.toArray.size false) a { w with drawn := w.drawn + 1 } := by
  simp only [Region.lexB, Bool.and_eq_true] at hB
  refine wpAny_of_quiet (C := fun W => ∃ X : Ext w, W = w.ext X) (Q := fun a' => ∀ w', (∃ X : Ext w, w' = w.ext X) → Q .normal a' w') (fun _ w' hw' h => h w' hw') _ _ _ _ ⟨⟨w.drew, (Below.refl _ _).drew⟩, rfl⟩ ?_
  have := wpAnyQ_lex (C := fun W => ∃ X : Ext w, W = w.ext X) (md := .any) hB.1 l.toArray.toList 0 (Array.replicate l.toArray.size false) a (by simp) (by simpa using hB.2) (by simpa using h)
  simpa using this

/-- A region that draws its order, in the class of the worlds that extend w. -/
theorem wp_region_ext {P : Program} {id : Nat} {l : List Oper} {Q : Exit → Act → World → Prop} {a : Act} {w : World} (hm : P.follows .mixedOrders = true) (hB : Region.lexB .any l.toArray = true)
    (h : wpQuiet P l.toArray (fun W => ∃ X : Ext w, W = w.ext X) (fun a' => ∀ W, (∃ X : Ext w, W = w.ext X) → Q .normal a' W) l a) : (Code.region id l.toArray true).wp P Q a w :=
  wp_region_any hm (wpAny_ext hB h)

/-- A callee's contract, met in 'w.ext X'. -/
theorem Calls.in_ext {P : Program} {f : FuncId} {args : Array Value} {w : World} {X : Ext w} {v : Value}
    (h : Calls P f args (w.ext X) fun e w' => e = .returned v ∧ (w.ext X).Exts w') : Calls P f args (w.ext X) fun e w'' => e = .returned v ∧ ∃ Y : Ext w, w'' = w.ext Y :=
  h.mono fun _ w' ⟨he, hw⟩ => ⟨he, ⟨w', X.le.trans (hw.below.mono X.le.size)⟩, rfl⟩

theorem Calls.in_ext_eq {P : Program} {f : FuncId} {args : Array Value} {w : World} {X : Ext w} {v v' : Value}
    (h : Calls P f args (w.ext X) fun e w' => e = .returned v ∧ (w.ext X).Exts w') (hv : v = v') : Calls P f args (w.ext X) fun e w'' => e = .returned v' ∧ ∃ Y : Ext w, w'' = w.ext Y :=
  hv ▸ Calls.in_ext h

/-! ### A head of quiet operations, and a tail that is forced -/
section
variable {P : Program} {ops : Array Oper} {md : Region.Mode} {C : World → Prop}

/-- Whatever order the head's operations come up in; behind the last of them: L. -/
def HeadAny (P : Program) (md : Region.Mode) (ops : Array Oper) (C : World → Prop) (n : Nat) (L : Array Bool → Act → Prop) : Nat → Array Bool → Act → Prop
  | 0, listed, a => L listed a
  | f + 1, listed, a => Region.ready md ops listed ≠ [] ∧ ∀ i ∈ Region.ready md ops listed, i < n ∧ qOp P ops C i (HeadAny P md ops C n L f (listed.setIfInBounds i true)) a

theorem HeadAny.any {n g : Nat} {L : Array Bool → Act → Prop} {Q' : Exit → Act → World → Prop} (hL : ∀ listed a w, C w → L listed a → wpAny P md ops Q' g listed a w) :
    ∀ (f : Nat) (listed : Array Bool) (a : Act) (w : World), C w → HeadAny P md ops C n L f listed a → wpAny P md ops Q' (f + g) listed a w
  | 0, listed, a, w, hw, h => by rw [Nat.zero_add]; exact hL _ _ _ hw h
  | f + 1, listed, a, w, hw, h => by
    rw [Nat.add_right_comm]
    exact ⟨fun h0 => absurd h0 h.1, fun i hi => wpOp_of_qOp hw (fun a' w' hw' h' => HeadAny.any hL f _ a' w' hw' h') (h.2 i hi).2⟩

/-- An operation of the head that may come up now may be taken first. -/
theorem HeadAny.first {n i : Nat} {oi : Oper} {v : Value} {L : Array Bool → Act → Prop} (hi : ops[i]? = some oi) (hsel : ∀ (j : Nat) (o : Oper) cs b, ops[j]? = some o → o.op ≠ .select cs b)
    (hs : Region.sinkB md ops n = true) (hc : Region.chainB md ops n = true) (hn : n < ops.size) (hin : i < n) (hdone : ∀ listed a, L listed a → ∀ j ∈ Region.ready md ops listed, n ≤ j) :
    ∀ (f : Nat) (listed : Array Bool) (a : Act), HeadInv md ops n listed →
      (∀ j oj, ops[j]? = some oj → j ≠ i → listed.getD j true = false → (∀ e ∈ oj.after, Region.binds md e = true → e.on ≠ i) → oi.apart ops oj = true) →
      i ∈ Region.ready md ops listed → YieldsIn P ops C oi v a →
      HeadAny P md ops C n L f (listed.setIfInBounds i true) (a.put oi.dst v) → HeadAny P md ops C n L (f + 1) listed a := by
  intro f
  induction f with
  | zero =>
    intro listed a inv _ hr hy H
    refine ⟨List.ne_nil_of_mem hr, fun j hj => ?_⟩
    have hjn : j < n := Nat.lt_of_not_le fun h => tail_waits hs hc hn inv _ i rfl hin (mem_ready.1 hr).1 j h hj
    refine ⟨hjn, ?_⟩
    by_cases hji : j = i
    · subst hji; exact hy.qOp hi H
    · have := hdone _ _ H j (ready_mono hj hji); omega
  | succ f ih =>
    intro listed a inv hfree hr hy H
    refine ⟨List.ne_nil_of_mem hr, fun j hj => ?_⟩
    have hjn : j < n := Nat.lt_of_not_le fun h => tail_waits hs hc hn inv _ i rfl hin (mem_ready.1 hr).1 j h hj
    refine ⟨hjn, ?_⟩
    by_cases hji : j = i
    · subst hji; exact hy.qOp hi H
    · obtain ⟨hjun, oj, hoj, hall⟩ := mem_ready.1 hj
      have hnot : ∀ e ∈ oj.after, Region.binds md e = true → e.on ≠ i := fun e he hb heq => by
        have h1 := hall e he hb
        rw [heq, getD_both (mem_ready.1 hr).1] at h1
        cases h1
      refine qOp_mono (fun a' h3 => ih _ a' (inv.set hj hjn) (fun k ok hk hki hun hno => ?_) (ready_mono hr (Ne.symm hji)) h3.1 ?_)
        (qOp_put hoj (hfree j oj hoj hji hjun hnot) (fun cs b => hsel i oi cs b hi) (fun cs b => hsel j oj cs b hoj) hy (H.2 j (ready_mono hj hji)).2)
      · by_cases hjk : j = k
        · subst hjk; exact hfree j ok hk hki hjun hno
        · rw [getD_set_ne true hjk] at hun; exact hfree k ok hk hki hun hno
      · rw [Array.setIfInBounds_comm _ _ hji]; exact h3.2

theorem HeadAny.lex {n g : Nat} {Lq : Act → Prop} (hsel : Region.noSelect ops = true) (hs : Region.sinkB md ops n = true) (hc : Region.chainB md ops n = true) (hn : n < ops.size) :
    ∀ (l : List Oper) (k : Nat) (listed : Array Bool) (a : Act), (∀ j, j < l.length → l[j]? = ops[k + j]?) → k + l.length = n → HeadInv md ops n listed →
    Region.lexHead md ops g l.length k listed = true → wpQuiet P ops C Lq l a → HeadAny P md ops C n (fun listed' a' => Region.seqB md ops g n listed' = true ∧ Lq a') l.length listed a
  | [], k, listed, a, _, hk, _, hB, h => by
    obtain rfl : k = n := by simpa using hk
    exact ⟨by simpa [Region.lexHead] using hB, h⟩
  | o :: l, k, listed, a, hl, hk, inv, hB, h => by
    have h0 : ops[k]? = some o := by simpa using (hl 0 (by simp)).symm
    simp only [List.length_cons, Region.lexHead, Bool.and_eq_true] at hB
    obtain ⟨⟨hr, hf⟩, hB'⟩ := hB
    have hkn : k < n := by simp only [List.length_cons] at hk; omega
    have hr' : k ∈ Region.ready md ops listed := by simpa using hr
    have hst : qOp P ops C k (wpQuiet P ops C Lq l) a := by unfold qOp; simp only [h0]; exact h
    obtain ⟨v, hy, hK⟩ := yieldsIn_of_qOp h0 hst
    exact HeadAny.first h0 (Region.noSelect_spec hsel) hs hc hn hkn (fun _ _ hL => seqB_ready hL.1) l.length listed a inv (Region.free_spec h0 hf) hr' hy
      (HeadAny.lex hsel hs hc hn l (k + 1) _ _ (fun j hj => by have := hl (j + 1) (by simp; omega); simpa [Nat.add_assoc, Nat.add_comm 1 j] using this) (by simp only [List.length_cons] at hk; omega) (inv.set hr' hkn) hB' hK)
end

theorem wpAny_ext_tail {P : Program} {Q : Exit → Act → World → Prop} {a : Act} {w : World} {l : List Oper} (n : Nat) (hB : Region.lexTailB .any l.toArray n = true)
    (h : wpQuiet P l.toArray (fun W => ∃ X : Ext w, W = w.ext X) (fun a' => ∀ W, (∃ X : Ext w, W = w.ext X) → wpList P l.toArray Q (l.drop n) a' W) (l.take n) a) :
    wpAny P .any l.toArray Q l.toArray.size (Array.replicate l.toArray.size false) a { w with drawn := w.drawn + 1 } := by
  simp only [Region.lexTailB, Bool.and_eq_true, decide_eq_true_eq] at hB
  obtain ⟨⟨⟨⟨hsel, hn⟩, hs⟩, hc⟩, hlex⟩ := hB
  have hn' : n < l.length := by simpa using hn
  have htl : (l.take n).length = n := by simp; omega
  have hdl : (l.drop n).length = l.toArray.size - n := by simp
  have inv0 : HeadInv .any l.toArray n (Array.replicate l.toArray.size false) :=
    ⟨by simp, fun j oj _ hl => (by rw [getD_replicate_false] at hl; cases hl), fun t _ ht => getD_in (by simpa using ht) (getD_replicate_false _ _)⟩
  have H := HeadAny.lex (md := .any) (g := l.toArray.size - n) hsel hs hc hn (l.take n) 0 _ a (fun j hj => by rw [htl] at hj; simp [hj]) (by simpa using htl) inv0 (by rw [htl]; exact hlex) h
  have := HeadAny.any (Q' := Q) (g := l.toArray.size - n) (fun listed a' w' hw' hL => by
    have := wpAny_of_seq (md := .any) (Q' := Q) (l.drop n) n listed a' w' (fun j => by simp [List.getElem?_drop]) (by rw [hdl]; exact hL.1) (hL.2 w' hw')
    rwa [hdl] at this) _ _ _ { w with drawn := w.drawn + 1 } ⟨⟨w.drew, (Below.refl _ _).drew⟩, rfl⟩ H
  rw [htl, show n + (l.toArray.size - n) = l.toArray.size by omega] at this
  exact this

/-- A region that draws its order: the first n operations quiet in the class of the worlds that extend w, the others forced: they are walked in the text's order, from whatever world of the class. -/
theorem wp_region_ext_tail {P : Program} {id : Nat} {Q : Exit → Act → World → Prop} {a : Act} {w : World} {l : List Oper} (n : Nat) (hm : P.follows .mixedOrders = true) (hB : Region.lexTailB .any l.toArray n = true)
    (h : wpQuiet P l.toArray (fun W => ∃ X : Ext w, W = w.ext X) (fun a' => ∀ W, (∃ X : Ext w, W = w.ext X) → wpList P l.toArray Q (l.drop n) a' W) (l.take n) a) : (Code.region id l.toArray true).wp P Q a w :=
  wp_region_any hm (wpAny_ext_tail n hB h)

/-- That a world extends one, by the walk of its build. -/
theorem exq {w w' : World} (h : w.Exts w' := by repeat' (first | with_reducible exact World.Exts.refl _ | with_reducible refine World.Exts.alloc ?_ _ | with_reducible refine World.Exts.drew ?_ | with_reducible refine World.Exts.drewN ?_ _ | with_reducible refine World.Exts.ext ?_ _ | with_reducible refine World.Exts.setCell ?_ ?_ _ | (simp; done) | exact World.size_ext_le _ _ | (simp; omega))) : w.Exts w' := h
end Go

/-
  How slices lie in memory, as this work says it: 'IsRow enc k w v xs': in world w the value v is a slice whose elements, of k cells each, are the encodings of xs. What keeps such a reading. Closures that a world's extensions bear.
-/
namespace Go
open Go.RowKit

structure IsRow {α : Type} (enc : α → List Value) (k : Nat) (w : World) (v : Value) (xs : List α) : Prop where
  ex : ∃ p b o cap, v = .slice p xs.length cap ∧ (xs.length ≤ cap ∧ cap ≤ 9223372036854775807) ∧ (0 < xs.length → p = some ⟨b, o, none⟩ ∧ Lays w b) ∧
    ∀ (i : Nat) (x : α), xs[i]? = some x → ∀ (j : Nat) (u : Value), (enc x)[j]? = some u → w.cell? ⟨b, o + i * k + j, none⟩ = some u

section
variable {α : Type} {enc : α → List Value} {k : Nat} {w w' : World} {v : Value} {xs : List α}
theorem IsRow.mono (h : IsRow enc k w v xs) (hw : w.Exts w') : IsRow enc k w' v xs := by
  obtain ⟨p, b, o, cap, rfl, hm, hp, hc⟩ := h.ex
  exact ⟨p, b, o, cap, rfl, hm, fun h0 => ⟨(hp h0).1, hw.lays (hp h0).2⟩, fun i x hx j u hu => hw.cell (hc i x hx j u hu)⟩
theorem IsRow.ext (h : IsRow enc k w v xs) (X : Ext w) : IsRow enc k (w.ext X) v xs := h.mono ⟨X, rfl⟩
theorem IsRow.alloc (h : IsRow enc k w v xs) (o : Obj) : IsRow enc k (w.alloc o) v xs := h.mono ((World.Exts.refl w).alloc o)
theorem IsRow.drew (h : IsRow enc k w v xs) : IsRow enc k w.drew v xs := h.mono (World.Exts.refl w).drew
theorem IsRow.len (h : IsRow enc k w v xs) : ∃ p cap, v = .slice p xs.length cap := by obtain ⟨p, b, o, cap, h, _⟩ := h.ex; exact ⟨p, cap, h⟩
theorem IsRow.nil (w : World) : IsRow enc k w (.slice none 0 0) [] := ⟨none, 0, 0, 0, rfl, by simp, fun h => absurd h (Nat.lt_irrefl 0), fun i x h => by simp at h⟩
end

/-- g, with cb captured, answers p at every element of xs, in every world that extends w, and leaves such a world. -/
def Answers (P : Program) (g : Nat) (cb : Array Value) {α : Type} (val : α → Value) (w : World) (p : α → Bool) (xs : List α) : Prop :=
  ∀ x ∈ xs, ∀ W, w.Exts W → Calls P g (#[val x] ++ cb) W fun e W' => e = .returned (.bool (p x)) ∧ W.Exts W'

section
variable {P : Program} {g : Nat} {α : Type} {val : α → Value} {w : World} {p : α → Bool} {xs : List α} {c1 c2 c3 : Value}
theorem answers0 (h : ∀ x ∈ xs, ∀ W, w.Exts W → Calls P g #[val x] W fun e W' => e = .returned (.bool (p x)) ∧ W.Exts W') : Answers P g #[] val w p xs := fun x hx W hW => by simpa using h x hx W hW
theorem answers2 (h : ∀ x ∈ xs, ∀ W, w.Exts W → Calls P g #[val x, c1, c2] W fun e W' => e = .returned (.bool (p x)) ∧ W.Exts W') : Answers P g #[c1, c2] val w p xs := fun x hx W hW => by simpa using h x hx W hW
end

/-- The first index at which p holds, or -1. -/
def firstAt {α : Type} (p : α → Bool) (xs : List α) : Int := match xs.findIdx? p with | some i => (i : Int) | none => -1

theorem firstAt_hit {α : Type} {p : α → Bool} {xs : List α} {k : Nat} {x : α} (hx : xs[k]? = some x) (hp : p x = true) (hno : ∀ y ∈ xs.take k, p y = false) : firstAt p xs = (k : Int) := by
  have hlt : k < xs.length := (List.getElem?_eq_some_iff.1 hx).1
  have : xs.findIdx? p = some k := by
    rw [List.findIdx?_eq_some_iff_getElem]
    refine ⟨hlt, by rw [(List.getElem?_eq_some_iff.1 hx).2]; exact hp, fun j hj => ?_⟩
    have hm : xs[j] ∈ xs.take k := by
      rw [List.mem_take_iff_getElem]; exact ⟨j, by omega, rfl⟩
    simp [hno _ hm]
  simp [firstAt, this]
theorem firstAt_miss {α : Type} {p : α → Bool} {xs : List α} (hno : ∀ y ∈ xs, p y = false) : firstAt p xs = -1 := by
  have : xs.findIdx? p = none := by rw [List.findIdx?_eq_none_iff]; intro y hy; simp [hno y hy]
  simp [firstAt, this]
theorem firstAt_nonneg {α : Type} (p : α → Bool) (xs : List α) : decide (0 ≤ firstAt p xs) = xs.any p := by
  unfold firstAt
  cases h : xs.findIdx? p with
  | none =>
    rw [List.findIdx?_eq_none_iff] at h
    have : xs.any p = false := by rw [List.any_eq_false]; intro x hx; simp [h x hx]
    simp [this]
  | some i =>
    rw [List.findIdx?_eq_some_iff_getElem] at h
    obtain ⟨hi, hp, _⟩ := h
    have : xs.any p = true := List.any_eq_true.2 ⟨xs[i], List.getElem_mem hi, hp⟩
    simp [this]
theorem take_snoc {α : Type} {xs : List α} {k : Nat} {x : α} (hx : xs[k]? = some x) : xs.take (k + 1) = xs.take k ++ [x] := by
  rw [List.take_add_one, hx]; rfl
theorem lt_of_some {α : Type} {xs : List α} {k : Nat} {x : α} (hx : xs[k]? = some x) : k < xs.length := (List.getElem?_eq_some_iff.1 hx).1
theorem some_of_lt {α : Type} {xs : List α} {k : Nat} (h : k < xs.length) : ∃ x, xs[k]? = some x := ⟨_, List.getElem?_eq_getElem h⟩
end Go

/-
  From the form's reading of an argument to this work's words.
-/
namespace Go
open Go.RowKit

section
variable {H : Type} {enc : TypeId × Value → H} {P : Program} {w : World} {base : Nat} {spare : Nat → Bool} {held : Bool}

/-- The cells that a value of type t may have, as a relation that the reading implies. -/
def ReadsAs (enc : TypeId × Value → H) (P : Program) (w : World) (base : Nat) (spare : Nat → Bool) (held : Bool) (t : TypeId) {α : Type} (cells : α → List Value) (R : α → Prop) : Prop :=
  ∀ (fuel : Nat) (cs : List Value) (x : DataW H × List MemPlace), DataW.trod enc P w base spare held fuel t cs = some x → ∃ y : α, cs = cells y ∧ R y

theorem readsAs_int {t : TypeId} (ht : P.underlying t = some (.int .i64)) : ReadsAs enc P w base spare held t (fun n : Int => [.int .i64 n]) (fun n => (Lit.int .i64 n).wf = true) := fun _ _ _ h => by
  obtain ⟨n, h1, _, h2⟩ := DataW.trod_int ht h
  exact ⟨n, h1, h2⟩
theorem readsAs_bool {t : TypeId} (ht : P.underlying t = some .bool) : ReadsAs enc P w base spare held t (fun b : Bool => [.bool b]) (fun _ => True) := fun _ _ _ h => by
  obtain ⟨b, h1, _⟩ := DataW.trod_bool ht h
  exact ⟨b, h1, trivial⟩

theorem add_none (b o n : Nat) : (⟨b, o, none⟩ : Addr).add n = ⟨b, o + n, none⟩ := by
  unfold Addr.add; split <;> simp_all
theorem cells_get {a : Addr} {k : Nat} {cs : List Value} (h : w.cells? base a k = some cs) : cs.length = k ∧ ∀ j u, cs[j]? = some u → w.cell? (a.add j) = some u := by
  unfold World.cells? at h
  split at h
  · have hlen := mapM_some_length h
    refine ⟨by simpa using hlen, fun j u hj => ?_⟩
    have hjk : j < k := by have := (List.getElem?_eq_some_iff.1 hj).1; simpa [hlen] using this
    have := mapM_some_get h j j (by simp [hjk])
    rw [this, hj]
  · cases h

/-- A slice, element by element. -/
theorem readsAs_slice {t e : TypeId} {k : Nat} {α : Type} [Inhabited α] {cells : α → List Value} {R : α → Prop} (ht : P.underlying t = some (.slice e)) (hk : P.cellsOf e = k) (hk0 : 0 < k) (hc : ∀ y, (cells y).length = k) (he : ReadsAs enc P w base spare held e cells R) :
    ReadsAs enc P w base spare held t (fun p : Value × List α => [p.1]) (fun p => IsRow cells k w p.1 p.2 ∧ ∀ y ∈ p.2, R y) := fun fuel cs x h => by
  rcases Deep.open_slice ht h with ⟨rfl, _⟩ | ⟨a, len, cap, m, n, D, Pl, rfl, hb, hl, hm, hmm, _, hel⟩
  · exact ⟨(.slice none 0 0, []), rfl, IsRow.nil w, fun y hy => by cases hy⟩
  · have hlm : len ≤ m := by rw [hmm]; split <;> omega
    have each : ∀ i, i < len → ∃ y : α, w.cells? base (a.add (i * k)) k = some (cells y) ∧ R y := fun i hi => by
      obtain ⟨cs', h1, h2⟩ := hel i (by omega)
      rw [hk] at h1
      obtain ⟨y, rfl, hR⟩ := he _ _ _ h2
      exact ⟨y, h1, hR⟩
    obtain ⟨f, hf⟩ := Deep.choose_lt each
    have hspot : 0 < len → a.spot = none ∧ Lays w a.block := fun h0 => by
      obtain ⟨hl0, hg⟩ := cells_get (hf 0 h0).1
      rw [hc] at hl0
      obtain ⟨u, hu⟩ := some_of_lt (show 0 < (cells (f 0)).length by rw [hc]; exact hk0)
      have h1 := hg 0 u hu
      rw [Nat.zero_mul, show (a.add 0).add 0 = a from by simp [Addr.add]] at h1
      exact ⟨World.cell?_spot h1, ⟨World.block_lt_of_cell? w _ h1⟩⟩
    refine ⟨(.slice (some a) len cap, (List.range len).map f), rfl, ⟨some a, a.block, a.off, cap, by simp, by simp; unfold maxLen at hm; omega, fun h0 => ?_, fun i y hy j u hu => ?_⟩, fun y hy => ?_⟩
    · obtain ⟨hs, hl0⟩ := hspot (by simpa using h0)
      obtain ⟨ab, ao, asp⟩ := a
      dsimp only at hs hl0 ⊢
      subst hs
      exact ⟨rfl, hl0⟩
    · have hi : i < len := by have := lt_of_some hy; simpa using this
      have hyf : y = f i := by
        rw [List.getElem?_map, List.getElem?_range hi] at hy
        simpa using hy.symm
      subst hyf
      obtain ⟨_, hg⟩ := cells_get (hf i hi).1
      have h1 := hg j u hu
      obtain ⟨hs, _⟩ := hspot (by omega)
      obtain ⟨ab, ao, asp⟩ := a
      dsimp only at hs
      subst hs
      rw [add_none, add_none] at h1
      exact h1
    · obtain ⟨i, hi, rfl⟩ := List.mem_map.1 hy
      exact (hf i (List.mem_range.1 hi)).2

theorem struct_len {t : TypeId} {fuel : Nat} {cs : List Value} {x : DataW H × List MemPlace} {fs : Array Field} (ht : P.underlying t = some (.struct fs)) (h : DataW.trod enc P w base spare held fuel t cs = some x) {k : Nat} (hk : P.cellsOf t = k) : cs.length = k := by
  obtain ⟨_, _, _, _, hl, _⟩ := DataW.trod_struct ht h
  rw [hl, hk]
theorem field_reads {t : TypeId} {fuel : Nat} {cs : List Value} {x : DataW H × List MemPlace} {fs : Array Field} (ht : P.underlying t = some (.struct fs)) (h : DataW.trod enc P w base spare held fuel t cs = some x)
    {α : Type} {cells : α → List Value} {R : α → Prop} (i : Nat) (f : Field) (hf : fs[i]? = some f) {k : Nat} (hk : P.cellsOf f.type = k) (hR : ReadsAs enc P w base spare held f.type cells R) : ∃ y, (cs.drop f.offset).take k = cells y ∧ R y := by
  obtain ⟨xs, n, _, _, _, hx, hall⟩ := DataW.trod_struct ht h
  have h1 := hall i f hf
  have hlt : i < xs.length := by rw [hx]; exact (Array.getElem?_eq_some_iff.1 hf).1
  rw [List.getElem?_eq_getElem hlt, hk] at h1
  exact hR _ _ _ h1
theorem okWide_struct {r : Reach} {t : TypeId} {v : Value} {fs : Array Field} (ht : P.underlying t = some (.struct fs)) (h : Value.okWide P w r base t v) : ∃ cs, v = .agg cs := by
  unfold Value.okWide at h
  rw [ht] at h
  obtain ⟨cs, h, _⟩ := h
  exact ⟨cs, h⟩
end
end Go

/-
  Slices that a function makes itself, element by element: what an append of one element leaves, in the words of this work.
-/
namespace Go
open Go.RowKit

/-- What the table of types says of a slice type t of elements e, of size cells and bytes bytes, whose zero value is z. -/
structure ElemOf (P : Program) (t e : TypeId) (z : Value) (size bytes : Nat) : Prop where
  und : P.underlying t = some (.slice e)
  inf : (P.info? e).map (fun i => (i.zero, i.size, i.bytes)) = some (some z, size, bytes)
  zs : z.cells.size = size
  pos : 0 < size
  small : bytes ≤ 65536

theorem World.heap_set_other (w : World) (p : Addr) (u : Value) {k : Nat} (h : k ≠ p.block) : (w.setCell p u).heap[k]? = w.heap[k]? := by
  unfold World.setCell
  simp [Array.getElem?_modify, Ne.symm h]
theorem World.ownsRow.set {W : World} {base e size n : Nat} {v : Value} {xs : List Value} (h : W.ownsRow base e size v n xs) {p : Addr} (hp : p.block < base) (u : Value) : (W.setCell p u).ownsRow base e size v n xs := by
  refine h.kept (row := some p.block) ⟨rfl, rfl, rfl, by simp, fun k _ hne => World.heap_set_other W p u (fun e => hne (by rw [e]))⟩ ?_
  cases hv : v.ownBlock with
  | none => exact .inl rfl
  | some k => exact .inr (fun e => by have := (h.lt k hv).1; cases e; omega)

section
variable {P : Program} {W w' : World} {base e size n : Nat} {v : Value} {xs : List Value}
theorem ownsRow_exts {A : World} (h : A.ownsRow base e size v n xs) (hE : A.Exts W) : W.ownsRow base e size v n xs := by
  have hb := hE.below
  have hg : A.grownBy W none := ⟨hb.os, hb.tape, hb.output, hb.size, fun k hk _ => hb.block k hk⟩
  exact h.kept hg (by cases v.ownBlock <;> simp)

theorem exts_grown {A : World} (hE : A.Exts W) (hB : A.heap.size ≤ base) (hown : W.ownsRow base e size v n xs) (hg : W.grownBy w' v.ownBlock) : A.Exts w' :=
  .of (hE.below.grown hg hE.below.size (fun k hk => Nat.le_trans hB (hown.lt k hk).1))

/-- What is left behind an append: the old facts of A hold; another block than the slice's own lies as it lay. -/
structure Appended (W w' : World) (v : Value) (base : Nat) : Prop where
  exts : ∀ A : World, A.Exts W → A.heap.size ≤ base → A.Exts w'
  size : W.heap.size ≤ w'.heap.size
  block : ∀ k, k < W.heap.size → some k ≠ v.ownBlock → w'.heap[k]? = W.heap[k]?

theorem flat_len {α : Type} {enc : α → List Value} (l : List α) (hl : ∀ y ∈ l, (enc y).length = size) : (l.flatMap enc).length = l.length * size := by
  induction l with
  | nil => simp
  | cons y l ih => rw [List.flatMap_cons, List.length_append, hl y (List.mem_cons_self ..), ih (fun z hz => hl z (List.mem_cons_of_mem _ hz)), List.length_cons, Nat.succ_mul]; omega

/-- A slice that is owned reads as a row. -/
theorem IsRow.of_owns {α : Type} {enc : α → List Value} {ys : List α} (h : W.ownsRow base e size v ys.length (ys.flatMap enc)) (hk : ∀ y ∈ ys, (enc y).length = size) : IsRow enc size W v ys := by
  rcases h.2 with ⟨rfl, h0⟩ | ⟨g, cap, cur, rfl, hb, hg, hnc, hcm, hcs, htake⟩
  · have : ys = [] := List.eq_nil_of_length_eq_zero h0
    subst this
    exact IsRow.nil _
  · have hlt : g < W.heap.size := (Array.getElem?_eq_some_iff.1 hg).1
    refine ⟨some ⟨g, 0, none⟩, g, 0, cap, rfl, by unfold maxLen at hcm; omega, fun _ => ⟨rfl, ⟨hlt⟩⟩, fun i x hx j u hu => ?_⟩
    have key : ∀ (l : List α), (∀ y ∈ l, (enc y).length = size) → ∀ i x, l[i]? = some x → ∀ j u, (enc x)[j]? = some u → (l.flatMap enc)[i * size + j]? = some u := by
      intro l
      induction l with
      | nil => intro _ i x hx; simp at hx
      | cons y l ih =>
        intro hl i x hx j u hu
        have hy := hl y (List.mem_cons_self ..)
        rw [List.flatMap_cons]
        cases i with
        | zero =>
          simp at hx; subst hx
          rw [List.getElem?_append_left (by rw [Nat.zero_mul, Nat.zero_add]; exact (List.getElem?_eq_some_iff.1 hu).1)]
          simpa using hu
        | succ i =>
          rw [List.getElem?_append_right (by rw [hy, Nat.succ_mul]; omega)]
          rw [show (i + 1) * size + j - (enc y).length = i * size + j from by rw [hy, Nat.succ_mul]; omega]
          exact ih (fun z hz => hl z (List.mem_cons_of_mem _ hz)) i x (by simpa using hx) j u hu
    have hj := key ys hk i x hx j u hu
    rw [← htake] at hj
    rw [Nat.zero_add]
    rw [List.getElem?_take] at hj
    split at hj
    · simp [World.cell?, hg]
      simpa using hj
    · cases hj
end
end Go

/-
  A hall: what its map holds, in the words of this work.
-/
namespace Go
open Go.RowKit Go.Maps

/-- Every value reads as itself. -/
def readSelf (v : Value) : Option (DataW Value × List MemPlace) := some (.held v, [])

theorem keyLit (i : Int) : WideAt.IsKeyLit (.int .i64 i) := by constructor <;> intros <;> simp_all
theorem exts_turned {A W w' : World} {b : Nat} (hE : A.Exts W) (hb : A.heap.size ≤ b) (hg : W.grownBy w' (some b)) : A.Exts w' :=
  .of (hE.below.grown hg hE.below.size (fun k hk => by cases hk; exact hb))

end Go

/-
  Regions that draw their order, inside a round of a range over a function (the wide fence): the laws of this work's plain walk carry over.
-/
namespace Go
open Go.RowKit

/-- No operation is a defer statement. -/
def Region.noDefer (ops : List Oper) : Bool := ops.all fun o => match o.op with | .defer _ => false | _ => true

section
variable {P : Program} {ops : Array Oper} {Q : Exit → Act → World → Prop} {md : Region.Mode} {l n : Nat} {K : Act → World → Prop} {a : Act} {w : World}

/-- What is left behind is normal, and R. -/
abbrev Exit.only (R : Act → World → Prop) : Exit → Act → World → Prop := fun e a w => e = .normal ∧ R a w
theorem not_letsOut {R : Act → World → Prop} : ¬ LetsOut (Exit.only R) := fun ⟨_, _, h, _⟩ => by cases h

theorem Oper.wpIn_round_of_wp {o : Oper} {R : Act → World → Prop} (hnd : ∀ c, o.op ≠ .defer c) (h : o.wp P a w K (Exit.only R)) : o.wpIn (Fence.wide.inRound l) n P a w K Q := by
  refine ⟨fun _ _ => trivial, ?_⟩
  rw [Oper.semAt_eq _ _ _ hnd]
  unfold Oper.wp at h
  generalize (execOp a.eval o).run P w = r at h
  cases r with
  | ok x w' =>
    cases x with
    | value v => exact h
    | skip => exact h
    | defer d => exact h
    | enter f args =>
      refine ⟨fun e => (by cases e), callsIn_wide.2 (Calls.mono h fun e w'' he => ?_)⟩
      cases e with
      | returned v => exact he
      | panicked c => cases he.1
      | outgrown => exact (not_letsOut he).elim
    | row r args =>
      refine ⟨fun e => (by cases e), fun c cs _ => ?_⟩
      obtain ⟨v, w2, hr, hs⟩ := h c cs
      exact ⟨v, w2, hr, stepsIn_wide.2 hs⟩
    | _ => exact h.elim
  | halt x w' =>
    cases x with
    | panic v => cases h.1
    | _ => exact h.elim

theorem wpOpIn_round_of_wpOp {R : Act → World → Prop} (hnd : ∀ o ∈ ops.toList, ∀ c, o.op ≠ .defer c) {i : Nat} (h : wpOp P ops (Exit.only R) i K a w) : wpOpIn (Fence.wide.inRound l) n P ops Q i K a w := by
  unfold wpOp at h
  unfold wpOpIn
  cases ho : ops[i]? with
  | none => simpa [ho] using h
  | some o =>
    simp only [ho] at h ⊢
    split
    · rename_i hw
      rw [if_pos hw] at h
      rcases h with h | ⟨_, h⟩
      · exact Oper.wpIn_round_of_wp (hnd o (by rw [← Array.getElem?_toList] at ho; exact List.mem_of_getElem? ho)) h
      · exact (not_letsOut h).elim
    · rename_i hw
      rw [if_neg hw] at h
      exact ⟨fun _ _ => trivial, h⟩

theorem wpAnyIn_round_of_wpAny (hnd : ∀ o ∈ ops.toList, ∀ c, o.op ≠ .defer c) : ∀ (fuel : Nat) (listed : Array Bool) (a : Act) (w : World), wpAny P md ops (Exit.only (Q .normal)) fuel listed a w → wpAnyIn (Fence.wide.inRound l) n P md ops Q fuel listed a w
  | 0, _, _, _, h => ⟨h.1, h.2.2⟩
  | fuel + 1, _, _, _, h => ⟨fun h0 => (h.1 h0).2, fun i hi => wpOpIn_round_of_wpOp hnd (wpOp_mono (fun a' w' h' => wpAnyIn_round_of_wpAny hnd fuel _ a' w' h') (h.2 i hi))⟩
end

theorem noDefer_spec {ops : List Oper} (h : Region.noDefer ops = true) : ∀ o ∈ ops.toArray.toList, ∀ c, o.op ≠ .defer c := by
  intro o ho c e
  have := List.all_eq_true.1 h o (by simpa using ho)
  rw [e] at this
  cases this

theorem wpQuiet_weaken {P : Program} {ops : Array Oper} {C : World → Prop} {Q Q' : Act → Prop} (hq : ∀ a, Q a → Q' a) : ∀ (l : List Oper) (a : Act), wpQuiet P ops C Q l a → wpQuiet P ops C Q' l a
  | [], a, h => hq a h
  | o :: rest, a, h => by
    unfold wpQuiet at h ⊢
    split
    · rename_i hw
      rw [if_pos hw] at h
      exact Oper.quiet_mono (fun a' h' => wpQuiet_weaken hq rest a' h') h
    · rename_i hw
      rw [if_neg hw] at h
      exact wpQuiet_weaken hq rest _ h

theorem wpIn_region_ext_round {P : Program} {id lp m : Nat} {l : List Oper} {Q : Exit → Act → World → Prop} {a : Act} {w : World} (hm : P.follows .mixedOrders = true) (hB : Region.lexB .any l.toArray = true) (hd : Region.noDefer l = true)
    (h : wpQuiet P l.toArray (fun W => ∃ X : Ext w, W = w.ext X) (fun a' => ∀ W, (∃ X : Ext w, W = w.ext X) → Q .normal a' W) l a) : (Code.region id l.toArray true).wpIn (Fence.wide.inRound lp) m P Q a w :=
  wpIn_region_any hm (wpAnyIn_round_of_wpAny (noDefer_spec hd) _ _ _ _ (wpAny_ext (Q := Exit.only (Q .normal)) hB (wpQuiet_weaken (fun _ h W hW => ⟨rfl, h W hW⟩) _ _ h)))

end Go

/-
  A scope (a block that holds labels), at whatever fence: no goto leaves it. Two appends beside.
-/
namespace Go
section
variable {P : Program} {b : Frame} {a : Act} {k : List Item} {cs : List Frame} {w : World} {Q : Exit → Act → World → Prop} {F : Fence} {n : Nat}
theorem stepR_scope {c : Code} : step P (lone (b.atR a (.code (.scope c) :: k)) cs w) = .next (lone (b.atR a (.code c :: .inScope c :: k)) cs w) :=
  step_lone_go (by simp [stepG, stepG.exec, Frame.atR])
theorem stepR_inScope {c : Code} : step P (lone (b.atR a (.inScope c :: k)) cs w) = .next (lone (b.atR a k) cs w) :=
  step_lone_go (by simp [stepG, stepG.exec, Frame.atR])
theorem wpIn_scope {c : Code} (h : c.wpIn F n P (Exit.noGoto Q) a w) : (Code.scope c).wpIn F n P Q a w := by
  intro b k cs hro hb hr
  have h0 : (lone (b.atR a (.code (.scope c) :: k)) cs w).fenced P F := fenced_calm hb hr rfl
  obtain ⟨e, a₁, w₁, hq, harr⟩ := h b (.inScope c :: k) cs hro hb hr
  cases e with
  | normal => exact ⟨.normal, a₁, w₁, hq, .head h0 stepR_scope (StepsIn.trans harr (.one (fenced_calm hb hr rfl) stepR_inScope))⟩
  | exit id => exact ⟨.exit id, a₁, w₁, hq, .of_steps (.one h0 stepR_scope) ⟨fun k' hk => harr.1 k' (by simp [exitTo, hk]), fun hr2 hk => harr.2 hr2 (by simp [exitTo, hk])⟩⟩
  | goto l => exact hq.elim
  | ret => exact ⟨_, a₁, w₁, hq, .of_steps (.one h0 stepR_scope) harr⟩
  | panic ch => exact ⟨_, a₁, w₁, hq, .of_steps (.one h0 stepR_scope) harr⟩
  | outgrown => exact ⟨_, a₁, w₁, hq, .of_steps (.one h0 stepR_scope) harr⟩
end
end Go
