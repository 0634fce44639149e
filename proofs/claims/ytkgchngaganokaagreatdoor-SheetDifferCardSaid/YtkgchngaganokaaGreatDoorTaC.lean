/-
  Several texts in one: see the heads of its parts.
-/
import Derived.Test.YtkgchngaganokaaGreatDoorScFG
import Derived.Test.YtkgchngaganokaaGreatDoorBt
import Derived.Test.YtkgchngaganokaaGreatDoorScDT
import Derived.Test.YtkgchngaganokaaGreatDoorPl

/-
  Walks of package scale: Reads: a range over the iterator.
-/
namespace Go.Proofs.YtkgchngaganokaaGreatDoor
open Go.RowKit Go.Shelf Kr

attribute [local go_sem] Oper.semAt_some

theorem block_own {β : Type} (B : Nat) (f : β → Obj) (hf : ∀ s, (f s).isCells = true) : Own (fun s W => W.heap[B]? = some (f s)) := fun s X Y row hs hg hrow => by
  refine (hg.block B (Array.getElem?_eq_some_iff.1 hs).1 (fun e => ?_)).trans hs
  obtain ⟨o, ho, hc⟩ := hrow B e.symm
  rw [hs] at ho; cases ho; rw [hf] at hc; cases hc
theorem block_frozen {W : World} {B i : Nat} {cs : Array Value} {t : TypeId} (h : W.heap[B]? = some (.cells cs t (0, 0))) : W.frozen? ⟨B, i, none⟩ = false := by simp [World.frozen?, h]
/-- A range over an iterator at the wide fence, its one loop variable in a box of its own. -/
theorem wpIn_range_box {α : Type} {P : Program} {n : Nat} {g : Operand} {pv : Tmp} {assign body : Code} {Q : Exit → Act → World → Prop} {a : Act} {w : World}
    (h1 : 1 ≤ n) {gf : Nat} {lb : Array Value} (hg : a.eval g = .func (.func gf) #[] lb) (eg : ∀ args w, (callFunc gf args).run P w = .ok (.enter gf args) w)
    {enc : α → Value} {Kp : World → World → Prop} {S Sp : List α → Prop} {N : Nat} (hseq : SeqStopsK Fence.wide (n - 1) P gf lb (fun x => #[enc x]) Kp S Sp N w)
    (hKt : ∀ {A B C : World}, Kp A B → Kp B C → Kp A C) (hKb : ∀ (W : World) (l : Nat) (o o' : Obj), w.heap.size ≤ l → W.heap[l]? = some o → o.isCells = false → o.isWalk = false → Kp W (W.putObj l o'))
    (I : List α → World → Prop) (Ix : Code → List α → World → Prop) (hI : OwnFrom w.heap.size I) (hIx : ∀ c, OwnFrom w.heap.size (Ix c)) (h0 : I [] w) (bx low : Nat) (t : TypeId) (cs : α → List Value)
    (hassign : ∀ (l : Nat) (pre : List α) (x : α) (W : World) (K : Act → World → Prop), I pre W →
      (∀ Bx W', KeepsFrom w.heap.size W W' → Kp W W' → I pre W' → low < Bx → W'.heap[Bx]? = some (.cells (cs x).toArray t (0, 0)) → K (Act.put { tmps := a.tmps.setIfInBounds pv (enc x), defers := [] } (some bx) (.pointer (some ⟨Bx, 0, none⟩))) W') →
      assign.wpIn (Fence.wide.inRound l) (n - 1 - 1) P (Exit.then K (fun _ _ _ => False)) { tmps := a.tmps.setIfInBounds pv (enc x), defers := [] } W)
    (hbody : ∀ (l : Nat) (pre : List α) (x : α) (Bx : Nat) (W : World), w.heap.size ≤ l → I pre W → low < Bx → W.heap[Bx]? = some (.cells (cs x).toArray t (0, 0)) → pre.length < N →
      body.wpIn (Fence.wide.inRound l) (n - 1 - 1) P (ownPostG w.heap.size Kp I Ix (pre ++ [x]) W) (Act.put { tmps := a.tmps.setIfInBounds pv (enc x), defers := [] } (some bx) (.pointer (some ⟨Bx, 0, none⟩))) W)
    (hdone : ∀ (D : Nat) (xs : List α) (W : World), w.heap.size ≤ D → S xs → I xs W → W.heap[D]? = some (.deferred (some [])) → Q .normal { a with defers := { target := .collected D, args := #[] } :: a.defers } W)
    (hstop : ∀ (D : Nat) (c : Code) (pre : List α) (W : World), w.heap.size ≤ D → Sp pre → Ix c pre W → W.heap[D]? = some (.deferred (some [])) → c.wpIn Fence.wide n P Q { a with defers := { target := .collected D, args := #[] } :: a.defers } W) :
    (Code.rangeFunc g #[pv] assign body).wpIn Fence.wide n P Q a w := by
  have hz : ∀ (x : α) (t : Array Value), ((#[pv] : Array Tmp).zip #[enc x]).foldl (fun t (p, v) => t.setIfInBounds p v) t = t.setIfInBounds pv (enc x) := fun x t => by simp
  refine wpIn_rangeFunc_ownH rfl h1 hg trivial eg hseq hKt hKb (Below.refl _ _) (fun _ => rfl) I Ix hI hIx h0
    (fun x a' W => ∃ Bx, low < Bx ∧ W.heap[Bx]? = some (.cells (cs x).toArray t (0, 0)) ∧ a' = Act.put { tmps := a.tmps.setIfInBounds pv (enc x), defers := [] } (some bx) (.pointer (some ⟨Bx, 0, none⟩)))
    (fun x a' _ X Y row hs hg hr => ?_) (fun l pre x W K hi hK => by rw [hz]; exact hassign l pre x W K hi fun Bx W' h1 h2 h3 h4 h5 => hK _ _ h1 h2 h3 ⟨Bx, h4, h5, rfl⟩) ?_ hdone hstop
  · obtain ⟨Bx, h1, h2, h3⟩ := hs
    refine ⟨Bx, h1, (hg.block Bx (Array.getElem?_eq_some_iff.1 h2).1 (fun e => ?_)).trans h2, h3⟩
    obtain ⟨_, o, ho, hc⟩ := hr Bx e.symm
    rw [h2] at ho; cases ho; cases hc
  · rintro l pre x a' W hl _ hi ⟨Bx, h1, h2, rfl⟩ hlen
    exact hbody l pre x Bx W hl hi h1 h2 hlen

def Obj.upd (i : Nat) (v : Value) : Obj → Obj
  | .cells c e f => .cells (c.setIfInBounds i v) e f
  | ob => ob
theorem heap_set_get (W : World) (B i : Nat) (v : Value) (k : Nat) : (W.setCell ⟨B, i, none⟩ v).heap[k]? = if k = B then (W.heap[k]?).map (Obj.upd i v) else W.heap[k]? := by
  by_cases h : k = B
  · subst h
    rw [if_pos rfl]
    unfold World.setCell
    simp only [Array.getElem?_modify, if_pos]
    cases W.heap[k]? with
    | none => rfl
    | some ob => cases ob <;> rfl
  · rw [if_neg h, World.heap_set_other _ _ _ h]
theorem KeepsOthers.of_exts {W W' : World} (h : W.Exts W') : KeepsOthers W W' := ⟨h.size, fun _ _ hk _ => (h.below.block _ (Array.getElem?_eq_some_iff.1 hk).1).trans hk⟩
/-- The tunes alone; whether there are some. -/
def tvals (l : List TuneB) : List Tune := l.map Subtype.val
def someT (l : List TuneB) : Bool := !l.isEmpty
theorem tvals_snoc (l : List TuneB) (x : TuneB) : tvals (l ++ [x]) = tvals l ++ [x.1] := by simp [tvals]
theorem someT_snoc (l : List TuneB) (x : TuneB) : someT (l ++ [x]) = true := by simp [someT]
theorem someT_false {l : List TuneB} (h : someT l = false) : tvals l = [] := by cases l with | nil => rfl | cons a l => cases h
theorem someT_true {l : List TuneB} (h : someT l = true) : tvals l ≠ [] := by cases l with | nil => cases h | cons a l => simp [tvals]

theorem readsOf_snoc {step weight : Int} {l : List Tune} (h : l ≠ []) (t : Tune) : readsOf step weight (l ++ [t]) = wider step weight (readsOf step weight l) t := by
  cases l with
  | nil => exact absurd rfl h
  | cons x l => simp [readsOf, List.foldl_append]


end Go.Proofs.YtkgchngaganokaaGreatDoor

/-
  Walks of package scale and of its reference: the weights for which a scale shows a number.
-/
namespace Go.Proofs.YtkgchngaganokaaGreatDoor
open Go.RowKit Kr

/-- The reference's weights. -/
def wtR (step gain off n : Int) : Span := if 1000 * (n + step - off) - 1 < 0 then ⟨1, 0⟩ else ⟨(max (1000 * (n - off)) 0 + (1000 + gain) - 1) / (1000 + gain), min ((1000 * (n + step - off) - 1) / (1000 + gain)) 1000000⟩
theorem wtR_eq {step gain off n : Int} (hg : -10 ≤ gain ∧ gain ≤ 10) : ((wtR step gain off n).lo ≤ (wtR step gain off n).hi ↔ (wt step gain off n).lo ≤ (wt step gain off n).hi) ∧ ((wt step gain off n).lo ≤ (wt step gain off n).hi → wtR step gain off n = wt step gain off n) := by
  have hb : 0 < 1000 + gain := by omega
  have e1 : -(-1000 * (n - off) / (1000 + gain)) = (1000 * (n - off) + (1000 + gain) - 1) / (1000 + gain) := by
    have := floor_ceil (-1000 * (n - off)) (1000 + gain) hb
    rw [this, Int.neg_neg]
    congr 1; omega
  unfold wtR wt
  by_cases hh : 1000 * (n + step - off) - 1 < 0
  · rw [if_pos hh]
    have h2 : (1000 * (n + step - off) - 1) / (1000 + gain) < 0 := Int.ediv_neg_of_neg_of_pos hh hb
    simp only
    constructor
    · constructor <;> intro h <;> omega
    · intro h; omega
  · rw [if_neg hh, e1]
    have e2 : (max (1000 * (n - off)) 0 + (1000 + gain) - 1) / (1000 + gain) = max 0 ((1000 * (n - off) + (1000 + gain) - 1) / (1000 + gain)) := by
      by_cases hc : 0 ≤ 1000 * (n - off)
      · rw [Int.max_eq_left hc]
        have : 0 ≤ (1000 * (n - off) + (1000 + gain) - 1) / (1000 + gain) := Int.ediv_nonneg (by omega) (by omega)
        omega
      · rw [Int.max_eq_right (by omega)]
        have h1 : (0 + (1000 + gain) - 1) / (1000 + gain) = 0 := Int.ediv_eq_zero_of_lt (by omega) (by omega)
        have h2 : (1000 * (n - off) + (1000 + gain) - 1) / (1000 + gain) ≤ 0 := by
          have := Int.ediv_le_ediv hb (show 1000 * (n - off) + (1000 + gain) - 1 ≤ 0 + (1000 + gain) - 1 by omega)
          omega
        rw [h1]; omega
    rw [e2, Int.min_comm]
    exact ⟨Iff.rfl, fun _ => rfl⟩
theorem wtR_bound {step gain off n : Int} (hg : -10 ≤ gain ∧ gain ≤ 10) (ho : -100 ≤ off ∧ off ≤ 100) (hn : -2000000 ≤ n ∧ n ≤ 2000000) : 0 ≤ (wtR step gain off n).lo ∧ (wtR step gain off n).lo ≤ 9000000000 ∧ 0 ≤ (wtR step gain off n).hi ∧ (wtR step gain off n).hi ≤ 1000000 := by
  unfold wtR
  split
  · simp
  · have b1 := ediv_bounds (a := max (1000 * (n - off)) 0 + (1000 + gain) - 1) (b := 1000 + gain) (m := 9000000000) (by omega) (by omega) (by omega) (by omega)
    have h1 : 0 ≤ (max (1000 * (n - off)) 0 + (1000 + gain) - 1) / (1000 + gain) := Int.ediv_nonneg (by omega) (by omega)
    have h2 : 0 ≤ (1000 * (n + step - off) - 1) / (1000 + gain) := Int.ediv_nonneg (by omega) (by omega)
    simp only
    omega

end Go.Proofs.YtkgchngaganokaaGreatDoor

/-
  Walks of the reference of layer 4: all truths of a scale with loads.
-/
namespace Go.Proofs.YtkgchngaganokaaGreatDoor
open Go.RowKit Kr

def partCs (l : List Part) : List Value := l.flatMap fun t => [.int .i64 t.gain, .int .i64 t.off, .int .i64 t.sum.lo, .int .i64 t.sum.hi]
theorem ownsRow_down {w : World} {base base' size n : Nat} {e : TypeId} {v : Value} {xs : List Value} (h : w.ownsRow base e size v n xs) (hb : base' ≤ base) : w.ownsRow base' e size v n xs :=
  ⟨h.1, h.2.elim Or.inl (fun ⟨g, cap, cur, hv, hg, r⟩ => Or.inr ⟨g, cap, cur, hv, Nat.le_trans hb hg, r⟩)⟩
theorem row_parts {w : World} {base : Nat} {e : TypeId} {v : Value} {l : List Part} (h : w.ownsRow base e 4 v l.length (partCs l)) : IsRow (fun t : Kr.Part => [.int .i64 t.gain, .int .i64 t.off, .int .i64 t.sum.lo, .int .i64 t.sum.hi]) 4 w v l :=
  IsRow.of_owns h (fun _ _ => rfl)
theorem addLoad_other {s : Scale} {gain off : Int} {x : Option Span} {l : Load} (h : (l.scale == s.id) = false) : addLoad s gain off x l = x := by
  unfold addLoad; rw [if_neg (by simpa using h)]
theorem fold_snoc {s : Scale} {gain off : Int} {ls : List Load} {j : Nat} {l : Load} (h : ls[j]? = some l) (x : Option Span) : (ls.take (j + 1)).foldl (addLoad s gain off) x = addLoad s gain off ((ls.take j).foldl (addLoad s gain off) x) l := by
  rw [take_snoc h, List.foldl_append]; rfl
theorem parts_yes {s : Scale} {gain lo : Int} {ls : List Load} {m : Nat} {x : Span} (h : ls.foldl (addLoad s gain (lo + m)) (some ⟨0, 0⟩) = some x) : partsN s ls gain lo (m + 1) = partsN s ls gain lo m ++ [⟨gain, lo + m, x⟩] := by
  rw [partsN]; unfold Kr.partAt partSum; rw [h]
theorem parts_no {s : Scale} {gain lo : Int} {ls : List Load} {m : Nat} (h : ls.foldl (addLoad s gain (lo + m)) (some ⟨0, 0⟩) = none) : partsN s ls gain lo (m + 1) = partsN s ls gain lo m := by
  rw [partsN]; unfold Kr.partAt partSum; rw [h]; simp

theorem addLoad_miss {s : Scale} {gain off : Int} {x : Option Span} {l : Load} (h : (l.scale == s.id) = true) (hg : -10 ≤ gain ∧ gain ≤ 10) (hb : (wtR s.step gain off l.shown).hi < (wtR s.step gain off l.shown).lo ∨ x = none) : addLoad s gain off x l = none := by
  have hq := (wtR_eq (step := s.step) (off := off) (n := l.shown) hg).1
  unfold addLoad
  rw [if_pos (by simpa using h)]
  cases x with
  | none => rfl
  | some x =>
    simp only
    rw [if_neg (fun hc => ?_)]
    rcases hb with hb | hb
    · have := hq.2 hc; omega
    · cases hb
theorem addLoad_hit {s : Scale} {gain off : Int} {x : Span} {l : Load} (h : (l.scale == s.id) = true) (hg : -10 ≤ gain ∧ gain ≤ 10) (hb : (wtR s.step gain off l.shown).lo ≤ (wtR s.step gain off l.shown).hi) :
    addLoad s gain off (some x) l = some ⟨x.lo + (wtR s.step gain off l.shown).lo, x.hi + (wtR s.step gain off l.shown).hi⟩ := by
  have hq := wtR_eq (step := s.step) (off := off) (n := l.shown) hg
  rw [hq.2 (hq.1.1 hb)]
  unfold addLoad
  rw [if_pos (by simpa using h)]
  simp only
  rw [if_pos (hq.1.1 hb)]

end Go.Proofs.YtkgchngaganokaaGreatDoor
