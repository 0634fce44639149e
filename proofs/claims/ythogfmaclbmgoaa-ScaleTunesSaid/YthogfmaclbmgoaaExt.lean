/-
  Worlds that extend a world (new blocks and draws alone), as one word 'w.ext X', through which the walk sees; that a block lies in a world, as a class, so that the walk finds it by itself; regions that draw their order, whose operations read and whose callees leave such a world: one walk in the text's order serves every order.
-/
import Derived.WalkKit
import Derived.WalkSpells
import Derived.WalkLawsBesides
import Derived.Deep.QuietTactic
import Derived.BigQuiet
import Derived.StillTail
import Derived.Lib.Hide
namespace Go
open Go.RowKit

/-- A world that came of w: below w's heap's size nothing has turned. -/
structure Ext (w : World) where
  to : World
  le : Below w.heap.size w to

instance (w : World) : Nonempty (Ext w) := ⟨⟨w, Below.refl _ _⟩⟩

def World.ext (w : World) (X : Ext w) : World := X.to

/-- Block n lies in w. -/
class Lays (w : World) (n : Nat) : Prop where
  lt : n < w.heap.size

/-- Two block numbers that differ. -/
class Differ (m n : Nat) : Prop where
  ne : m ≠ n

section
variable (w : World) (X : Ext w) (n i : Nat) (o o1 o2 o3 : Obj) (v : Value)
instance lays_alloc [h : Lays w n] : Lays (w.alloc o) n := ⟨by simp; exact Nat.lt_succ_of_lt h.lt⟩
instance lays_ext [h : Lays w n] : Lays (w.ext X) n := ⟨Nat.lt_of_lt_of_le h.lt X.le.size⟩
instance lays_drew [h : Lays w n] : Lays w.drew n := ⟨h.lt⟩
instance lays_set (a : Addr) [h : Lays w n] : Lays (w.setCell a v) n := ⟨by simp; exact h.lt⟩
instance lays_new : Lays (w.alloc o) w.heap.size := ⟨by simp⟩
instance lays_new2 : Lays ((w.alloc o).alloc o1) (w.heap.size + 1) := ⟨by simp⟩
instance lays_new3 : Lays (((w.alloc o).alloc o1).alloc o2) (w.heap.size + 2) := ⟨by simp⟩
instance lays_new4 : Lays ((((w.alloc o).alloc o1).alloc o2).alloc o3) (w.heap.size + 3) := ⟨by simp⟩
instance differ_size [h : Lays w n] : Differ n w.heap.size := ⟨Nat.ne_of_lt h.lt⟩
instance size_differ [h : Lays w n] : Differ w.heap.size n := ⟨Nat.ne_of_gt h.lt⟩
instance differ_size1 [h : Lays w n] : Differ n (w.heap.size + 1) := ⟨by have := h.lt; omega⟩
instance size1_differ [h : Lays w n] : Differ (w.heap.size + 1) n := ⟨by have := h.lt; omega⟩
instance differ_size2 [h : Lays w n] : Differ n (w.heap.size + 2) := ⟨by have := h.lt; omega⟩
instance size2_differ [h : Lays w n] : Differ (w.heap.size + 2) n := ⟨by have := h.lt; omega⟩
instance differ_size3 [h : Lays w n] : Differ n (w.heap.size + 3) := ⟨by have := h.lt; omega⟩
instance size3_differ [h : Lays w n] : Differ (w.heap.size + 3) n := ⟨by have := h.lt; omega⟩

@[go_sem] theorem World.cell?_ext [h : Lays w n] : (w.ext X).cell? ⟨n, i, none⟩ = w.cell? ⟨n, i, none⟩ := X.le.cell (p := ⟨n, i, none⟩) h.lt
@[go_sem] theorem World.frozen?_ext [h : Lays w n] : (w.ext X).frozen? ⟨n, i, none⟩ = w.frozen? ⟨n, i, none⟩ := X.le.frozen (p := ⟨n, i, none⟩) h.lt
@[go_sem] theorem World.cell?_alloc_lays [h : Lays w n] : (w.alloc o).cell? ⟨n, i, none⟩ = w.cell? ⟨n, i, none⟩ := World.cell?_alloc_lt w o ⟨n, i, none⟩ h.lt
@[go_sem] theorem World.frozen?_alloc_lays [h : Lays w n] : (w.alloc o).frozen? ⟨n, i, none⟩ = w.frozen? ⟨n, i, none⟩ := World.frozen?_alloc_old w o ⟨n, i, none⟩ (Nat.ne_of_lt h.lt)
@[go_sem] theorem World.cell?_set_differ (m j : Nat) [h : Differ m n] : (w.setCell ⟨m, j, none⟩ v).cell? ⟨n, i, none⟩ = w.cell? ⟨n, i, none⟩ :=
  World.cell?_setCell_other w _ _ v (fun e => h.ne (by cases e; rfl))
theorem World.size_ext_le : w.heap.size ≤ (w.ext X).heap.size := X.le.size
theorem Lays.of_cell {w : World} {n i : Nat} {v : Value} (h : w.cell? ⟨n, i, none⟩ = some v) : Lays w n := ⟨World.block_lt_of_cell? w _ h⟩
end

theorem RowKit.Below.ext {B : Nat} {a w : World} (h : Below B a w) (hB : B ≤ w.heap.size) (X : Ext w) : Below B a (w.ext X) := h.trans (X.le.mono hB)

/-- The end of a contract: some world that extends w. -/
def World.Exts (w w' : World) : Prop := ∃ X : Ext w, w' = w.ext X
theorem World.Exts.of {w w' : World} (h : Below w.heap.size w w') : w.Exts w' := ⟨⟨w', h⟩, rfl⟩
theorem World.Exts.refl (w : World) : w.Exts w := .of (Below.refl _ _)
theorem World.Exts.below {w w' : World} (h : w.Exts w') : Below w.heap.size w w' := by obtain ⟨X, rfl⟩ := h; exact X.le
theorem World.Exts.trans {a b c : World} (h : a.Exts b) (k : b.Exts c) : a.Exts c := .of (h.below.trans (k.below.mono h.below.size))
theorem World.Exts.alloc {a w : World} (h : a.Exts w) (o : Obj) : a.Exts (w.alloc o) := .of (h.below.alloc h.below.size o)
theorem World.Exts.drew {a w : World} (h : a.Exts w) : a.Exts w.drew := .of h.below.drew
theorem World.Exts.drewN {a w : World} (h : a.Exts w) (n : Nat) : a.Exts (w.drewN n) := .of ⟨h.below.os, h.below.tape, h.below.output, h.below.size, h.below.block⟩
theorem World.Exts.ext {a w : World} (h : a.Exts w) (X : Ext w) : a.Exts (w.ext X) := .of (h.below.ext h.below.size X)
theorem World.Exts.setCell {a w : World} (h : a.Exts w) {p : Addr} (hp : a.heap.size ≤ p.block) (v : Value) : a.Exts (w.setCell p v) := .of (h.below.setCell hp v)
theorem World.Exts.size {a w : World} (h : a.Exts w) : a.heap.size ≤ w.heap.size := h.below.size
theorem World.Exts.cell {a w : World} (h : a.Exts w) {b i : Nat} {v : Value} (hc : a.cell? ⟨b, i, none⟩ = some v) : w.cell? ⟨b, i, none⟩ = some v :=
  (h.below.cell (p := ⟨b, i, none⟩) (World.block_lt_of_cell? a _ hc)).trans hc
theorem World.Exts.lays {a w : World} (h : a.Exts w) {b : Nat} (hb : Lays a b) : Lays w b := ⟨Nat.lt_of_lt_of_le hb.lt h.size⟩

theorem wpAny_ext {P : Program} {l : List Oper} {Q : Exit → Act → World → Prop} {a : Act} {w : World} (hB : Region.lexB .any l.toArray = true)
    (h : wpQuiet P l.toArray (fun W => ∃ X : Ext w, W = w.ext X) (fun a' => ∀ W, (∃ X : Ext w, W = w.ext X) → Q .normal a' W) l a) :
    wpAny P .any l.toArray Q l.toArray.size (Array.replicate l.toArray.size false) a { w with drawn := w.drawn + 1 } := by
  simp only [Region.lexB, Bool.and_eq_true] at hB
  refine wpAny_of_quiet (C := fun W => ∃ X : Ext w, W = w.ext X) (Q := fun a' => ∀ w', (∃ X : Ext w, w' = w.ext X) → Q .normal a' w') (fun _ w' hw' h => h w' hw') _ _ _ _ ⟨⟨w.drew, (Below.refl _ _).drew⟩, rfl⟩ ?_
  have := wpAnyQ_lex (C := fun W => ∃ X : Ext w, W = w.ext X) (md := .any) hB.1 l.toArray.toList 0 (Array.replicate l.toArray.size false) a (by simp) (by simpa using hB.2) (by simpa using h)
  simpa using this

/-- A region that draws its order, in the class of the worlds that extend w. -/
theorem wp_region_ext {P : Program} {id : Nat} {l : List Oper} {Q : Exit → Act → World → Prop} {a : Act} {w : World} (hm : P.follows .mixedOrders = true) (hB : Region.lexB .any l.toArray = true)
    (h : wpQuiet P l.toArray (fun W => ∃ X : Ext w, W = w.ext X) (fun a' => ∀ W, (∃ X : Ext w, W = w.ext X) → Q .normal a' W) l a) : (Code.region id l.toArray true).wp P Q a w :=
  wp_region_any hm (wpAny_ext hB h)

/-- A callee's contract, met in 'w.ext X'. -/
theorem Calls.in_ext {P : Program} {f : FuncId} {args : Array Value} {w : World} {X : Ext w} {v : Value}
    (h : Calls P f args (w.ext X) fun e w' => e = .returned v ∧ (w.ext X).Exts w') : Calls P f args (w.ext X) fun e w'' => e = .returned v ∧ ∃ Y : Ext w, w'' = w.ext Y :=
  h.mono fun _ w' ⟨he, hw⟩ => ⟨he, ⟨w', X.le.trans (hw.below.mono X.le.size)⟩, rfl⟩

theorem Calls.in_ext_eq {P : Program} {f : FuncId} {args : Array Value} {w : World} {X : Ext w} {v v' : Value}
    (h : Calls P f args (w.ext X) fun e w' => e = .returned v ∧ (w.ext X).Exts w') (hv : v = v') : Calls P f args (w.ext X) fun e w'' => e = .returned v' ∧ ∃ Y : Ext w, w'' = w.ext Y :=
  hv ▸ Calls.in_ext h

/-! ### A head of quiet operations, and a tail that is forced -/
section
variable {P : Program} {ops : Array Oper} {md : Region.Mode} {C : World → Prop}

/-- Whatever order the head's operations come up in; behind the last of them: L. -/
def HeadAny (P : Program) (md : Region.Mode) (ops : Array Oper) (C : World → Prop) (n : Nat) (L : Array Bool → Act → Prop) : Nat → Array Bool → Act → Prop
  | 0, listed, a => L listed a
  | f + 1, listed, a => Region.ready md ops listed ≠ [] ∧ ∀ i ∈ Region.ready md ops listed, i < n ∧ qOp P ops C i (HeadAny P md ops C n L f (listed.setIfInBounds i true)) a

theorem HeadAny.any {n g : Nat} {L : Array Bool → Act → Prop} {Q' : Exit → Act → World → Prop} (hL : ∀ listed a w, C w → L listed a → wpAny P md ops Q' g listed a w) :
    ∀ (f : Nat) (listed : Array Bool) (a : Act) (w : World), C w → HeadAny P md ops C n L f listed a → wpAny P md ops Q' (f + g) listed a w
  | 0, listed, a, w, hw, h => by rw [Nat.zero_add]; exact hL _ _ _ hw h
  | f + 1, listed, a, w, hw, h => by
    rw [Nat.add_right_comm]
    exact ⟨fun h0 => absurd h0 h.1, fun i hi => wpOp_of_qOp hw (fun a' w' hw' h' => HeadAny.any hL f _ a' w' hw' h') (h.2 i hi).2⟩

/-- An operation of the head that may come up now may be taken first. -/
theorem HeadAny.first {n i : Nat} {oi : Oper} {v : Value} {L : Array Bool → Act → Prop} (hi : ops[i]? = some oi) (hsel : ∀ (j : Nat) (o : Oper) cs b, ops[j]? = some o → o.op ≠ .select cs b)
    (hs : Region.sinkB md ops n = true) (hc : Region.chainB md ops n = true) (hn : n < ops.size) (hin : i < n) (hdone : ∀ listed a, L listed a → ∀ j ∈ Region.ready md ops listed, n ≤ j) :
    ∀ (f : Nat) (listed : Array Bool) (a : Act), HeadInv md ops n listed →
      (∀ j oj, ops[j]? = some oj → j ≠ i → listed.getD j true = false → (∀ e ∈ oj.after, Region.binds md e = true → e.on ≠ i) → oi.apart ops oj = true) →
      i ∈ Region.ready md ops listed → YieldsIn P ops C oi v a →
      HeadAny P md ops C n L f (listed.setIfInBounds i true) (a.put oi.dst v) → HeadAny P md ops C n L (f + 1) listed a := by
  intro f
  induction f with
  | zero =>
    intro listed a inv _ hr hy H
    refine ⟨List.ne_nil_of_mem hr, fun j hj => ?_⟩
    have hjn : j < n := Nat.lt_of_not_le fun h => tail_waits hs hc hn inv _ i rfl hin (mem_ready.1 hr).1 j h hj
    refine ⟨hjn, ?_⟩
    by_cases hji : j = i
    · subst hji; exact hy.qOp hi H
    · have := hdone _ _ H j (ready_mono hj hji); omega
  | succ f ih =>
    intro listed a inv hfree hr hy H
    refine ⟨List.ne_nil_of_mem hr, fun j hj => ?_⟩
    have hjn : j < n := Nat.lt_of_not_le fun h => tail_waits hs hc hn inv _ i rfl hin (mem_ready.1 hr).1 j h hj
    refine ⟨hjn, ?_⟩
    by_cases hji : j = i
    · subst hji; exact hy.qOp hi H
    · obtain ⟨hjun, oj, hoj, hall⟩ := mem_ready.1 hj
      have hnot : ∀ e ∈ oj.after, Region.binds md e = true → e.on ≠ i := fun e he hb heq => by
        have h1 := hall e he hb
        rw [heq, getD_both (mem_ready.1 hr).1] at h1
        cases h1
      refine qOp_mono (fun a' h3 => ih _ a' (inv.set hj hjn) (fun k ok hk hki hun hno => ?_) (ready_mono hr (Ne.symm hji)) h3.1 ?_)
        (qOp_put hoj (hfree j oj hoj hji hjun hnot) (fun cs b => hsel i oi cs b hi) (fun cs b => hsel j oj cs b hoj) hy (H.2 j (ready_mono hj hji)).2)
      · by_cases hjk : j = k
        · subst hjk; exact hfree j ok hk hki hjun hno
        · rw [getD_set_ne true hjk] at hun; exact hfree k ok hk hki hun hno
      · rw [Array.setIfInBounds_comm _ _ hji]; exact h3.2

theorem HeadAny.lex {n g : Nat} {Lq : Act → Prop} (hsel : Region.noSelect ops = true) (hs : Region.sinkB md ops n = true) (hc : Region.chainB md ops n = true) (hn : n < ops.size) :
    ∀ (l : List Oper) (k : Nat) (listed : Array Bool) (a : Act), (∀ j, j < l.length → l[j]? = ops[k + j]?) → k + l.length = n → HeadInv md ops n listed →
    Region.lexHead md ops g l.length k listed = true → wpQuiet P ops C Lq l a → HeadAny P md ops C n (fun listed' a' => Region.seqB md ops g n listed' = true ∧ Lq a') l.length listed a
  | [], k, listed, a, _, hk, _, hB, h => by
    obtain rfl : k = n := by simpa using hk
    exact ⟨by simpa [Region.lexHead] using hB, h⟩
  | o :: l, k, listed, a, hl, hk, inv, hB, h => by
    have h0 : ops[k]? = some o := by simpa using (hl 0 (by simp)).symm
    simp only [List.length_cons, Region.lexHead, Bool.and_eq_true] at hB
    obtain ⟨⟨hr, hf⟩, hB'⟩ := hB
    have hkn : k < n := by simp only [List.length_cons] at hk; omega
    have hr' : k ∈ Region.ready md ops listed := by simpa using hr
    have hst : qOp P ops C k (wpQuiet P ops C Lq l) a := by unfold qOp; simp only [h0]; exact h
    obtain ⟨v, hy, hK⟩ := yieldsIn_of_qOp h0 hst
    exact HeadAny.first h0 (Region.noSelect_spec hsel) hs hc hn hkn (fun _ _ hL => seqB_ready hL.1) l.length listed a inv (Region.free_spec h0 hf) hr' hy
      (HeadAny.lex hsel hs hc hn l (k + 1) _ _ (fun j hj => by have := hl (j + 1) (by simp; omega); simpa [Nat.add_assoc, Nat.add_comm 1 j] using this) (by simp only [List.length_cons] at hk; omega) (inv.set hr' hkn) hB' hK)
end

theorem wpAny_ext_tail {P : Program} {Q : Exit → Act → World → Prop} {a : Act} {w : World} {l : List Oper} (n : Nat) (hB : Region.lexTailB .any l.toArray n = true)
    (h : wpQuiet P l.toArray (fun W => ∃ X : Ext w, W = w.ext X) (fun a' => ∀ W, (∃ X : Ext w, W = w.ext X) → wpList P l.toArray Q (l.drop n) a' W) (l.take n) a) :
    wpAny P .any l.toArray Q l.toArray.size (Array.replicate l.toArray.size false) a { w with drawn := w.drawn + 1 } := by
  simp only [Region.lexTailB, Bool.and_eq_true, decide_eq_true_eq] at hB
  obtain ⟨⟨⟨⟨hsel, hn⟩, hs⟩, hc⟩, hlex⟩ := hB
  have hn' : n < l.length := by simpa using hn
  have htl : (l.take n).length = n := by simp; omega
  have hdl : (l.drop n).length = l.toArray.size - n := by simp
  have inv0 : HeadInv .any l.toArray n (Array.replicate l.toArray.size false) :=
    ⟨by simp, fun j oj _ hl => (by rw [getD_replicate_false] at hl; cases hl), fun t _ ht => getD_in (by simpa using ht) (getD_replicate_false _ _)⟩
  have H := HeadAny.lex (md := .any) (g := l.toArray.size - n) hsel hs hc hn (l.take n) 0 _ a (fun j hj => by rw [htl] at hj; simp [hj]) (by simpa using htl) inv0 (by rw [htl]; exact hlex) h
  have := HeadAny.any (Q' := Q) (g := l.toArray.size - n) (fun listed a' w' hw' hL => by
    have := wpAny_of_seq (md := .any) (Q' := Q) (l.drop n) n listed a' w' (fun j => by simp [List.getElem?_drop]) (by rw [hdl]; exact hL.1) (hL.2 w' hw')
    rwa [hdl] at this) _ _ _ { w with drawn := w.drawn + 1 } ⟨⟨w.drew, (Below.refl _ _).drew⟩, rfl⟩ H
  rw [htl, show n + (l.toArray.size - n) = l.toArray.size by omega] at this
  exact this

/-- A region that draws its order: the first n operations quiet in the class of the worlds that extend w, the others forced: they are walked in the text's order, from whatever world of the class. -/
theorem wp_region_ext_tail {P : Program} {id : Nat} {Q : Exit → Act → World → Prop} {a : Act} {w : World} {l : List Oper} (n : Nat) (hm : P.follows .mixedOrders = true) (hB : Region.lexTailB .any l.toArray n = true)
    (h : wpQuiet P l.toArray (fun W => ∃ X : Ext w, W = w.ext X) (fun a' => ∀ W, (∃ X : Ext w, W = w.ext X) → wpList P l.toArray Q (l.drop n) a' W) (l.take n) a) : (Code.region id l.toArray true).wp P Q a w :=
  wp_region_any hm (wpAny_ext_tail n hB h)

#print axioms wp_region_ext_tail
#print axioms wp_region_ext
end Go
