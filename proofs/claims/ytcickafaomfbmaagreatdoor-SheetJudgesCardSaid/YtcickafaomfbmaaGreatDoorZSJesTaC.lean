/-
  Several texts in one: see the heads of its parts.
-/

import Derived.Test.YtcickafaomfbmaaGreatDoorZSJesScFG
import Derived.Test.YtcickafaomfbmaaGreatDoorZSJesBt
import Derived.Test.YtcickafaomfbmaaGreatDoorZSJesScDT
import Derived.Test.YtcickafaomfbmaaGreatDoorZSJesPl
/-
  Walks of package scale: Reads: a range over the iterator.
-/
namespace Go.Proofs.YtcickafaomfbmaaGreatDoor
open Go.RowKit Go.Shelf Kr

attribute [local go_sem] Oper.semAt_some

theorem block_own {β : Type} (B : Nat) (f : β → Obj) (hf : ∀ s, (f s).isCells = true) : Own (fun s W => W.heap[B]? = some (f s)) := fun s X Y row hs hg hrow => by
  refine (hg.block B (Array.getElem?_eq_some_iff.1 hs).1 (fun e => ?_)).trans hs
  obtain ⟨o, ho, hc⟩ := hrow B e.symm
  rw [hs] at ho; cases ho; rw [hf] at hc; cases hc
theorem block_frozen {W : World} {B i : Nat} {cs : Array Value} {t : TypeId} (h : W.heap[B]? = some (.cells cs t (0, 0))) : W.frozen? ⟨B, i, none⟩ = false := by simp [World.frozen?, h]
/-- A range over an iterator at the wide fence, its one loop variable in a box of its own. -/
theorem wpIn_range_box {α : Type} {P : Program} {n : Nat} {g : Operand} {pv : Tmp} {assign body : Code} {Q : Exit → Act → World → Prop} {a : Act} {w : World}
    (h1 : 1 ≤ n) {gf : Nat} {lb : Array Value} (hg : a.eval g = .func (.func gf) #[] lb) (eg : ∀ args w, (callFunc gf args).run P w = .ok (.enter gf args) w)
    {enc : α → Value} {Kp : World → World → Prop} {S Sp : List α → Prop} {N : Nat} (hseq : SeqStopsK Fence.wide (n - 1) P gf lb (fun x => #[enc x]) Kp S Sp N w)
    (hKt : ∀ {A B C : World}, Kp A B → Kp B C → Kp A C) (hKb : ∀ (W : World) (l : Nat) (o o' : Obj), w.heap.size ≤ l → W.heap[l]? = some o → o.isCells = false → o.isWalk = false → Kp W (W.putObj l o'))
    (I : List α → World → Prop) (Ix : Code → List α → World → Prop) (hI : OwnFrom w.heap.size I) (hIx : ∀ c, OwnFrom w.heap.size (Ix c)) (h0 : I [] w) (bx low : Nat) (t : TypeId) (cs : α → List Value)
    (hassign : ∀ (l : Nat) (pre : List α) (x : α) (W : World) (K : Act → World → Prop), I pre W →
      (∀ Bx W', KeepsFrom w.heap.size W W' → Kp W W' → I pre W' → low < Bx → W'.heap[Bx]? = some (.cells (cs x).toArray t (0, 0)) → K (Act.put { tmps := a.tmps.setIfInBounds pv (enc x), defers := [] } (some bx) (.pointer (some ⟨Bx, 0, none⟩))) W') →
      assign.wpIn (Fence.wide.inRound l) (n - 1 - 1) P (Exit.then K (fun _ _ _ => False)) { tmps := a.tmps.setIfInBounds pv (enc x), defers := [] } W)
    (hbody : ∀ (l : Nat) (pre : List α) (x : α) (Bx : Nat) (W : World), w.heap.size ≤ l → I pre W → low < Bx → W.heap[Bx]? = some (.cells (cs x).toArray t (0, 0)) → pre.length < N →
      body.wpIn (Fence.wide.inRound l) (n - 1 - 1) P (ownPostG w.heap.size Kp I Ix (pre ++ [x]) W) (Act.put { tmps := a.tmps.setIfInBounds pv (enc x), defers := [] } (some bx) (.pointer (some ⟨Bx, 0, none⟩))) W)
    (hdone : ∀ (D : Nat) (xs : List α) (W : World), w.heap.size ≤ D → S xs → I xs W → W.heap[D]? = some (.deferred (some [])) → Q .normal { a with defers := { target := .collected D, args := #[] } :: a.defers } W)
    (hstop : ∀ (D : Nat) (c : Code) (pre : List α) (W : World), w.heap.size ≤ D → Sp pre → Ix c pre W → W.heap[D]? = some (.deferred (some [])) → c.wpIn Fence.wide n P Q { a with defers := { target := .collected D, args := #[] } :: a.defers } W) :
    (Code.rangeFunc g #[pv] assign body).wpIn Fence.wide n P Q a w := by
  have hz : ∀ (x : α) (t : Array Value), ((#[pv] : Array Tmp).zip #[enc x]).foldl (fun t (p, v) => t.setIfInBounds p v) t = t.setIfInBounds pv (enc x) := fun x t => by simp
  refine wpIn_rangeFunc_ownH rfl h1 hg trivial eg hseq hKt hKb (Below.refl _ _) (fun _ => rfl) I Ix hI hIx h0
    (fun x a' W => ∃ Bx, low < Bx ∧ W.heap[Bx]? = some (.cells (cs x).toArray t (0, 0)) ∧ a' = Act.put { tmps := a.tmps.setIfInBounds pv (enc x), defers := [] } (some bx) (.pointer (some ⟨Bx, 0, none⟩)))
    (fun x a' _ X Y row hs hg hr => ?_) (fun l pre x W K hi hK => by rw [hz]; exact hassign l pre x W K hi fun Bx W' h1 h2 h3 h4 h5 => hK _ _ h1 h2 h3 ⟨Bx, h4, h5, rfl⟩) ?_ hdone hstop
  · obtain ⟨Bx, h1, h2, h3⟩ := hs
    refine ⟨Bx, h1, (hg.block Bx (Array.getElem?_eq_some_iff.1 h2).1 (fun e => ?_)).trans h2, h3⟩
    obtain ⟨_, o, ho, hc⟩ := hr Bx e.symm
    rw [h2] at ho; cases ho; cases hc
  · rintro l pre x a' W hl _ hi ⟨Bx, h1, h2, rfl⟩ hlen
    exact hbody l pre x Bx W hl hi h1 h2 hlen

def Obj.upd (i : Nat) (v : Value) : Obj → Obj
  | .cells c e f => .cells (c.setIfInBounds i v) e f
  | ob => ob
theorem KeepsOthers.of_exts {W W' : World} (h : W.Exts W') : KeepsOthers W W' := ⟨h.size, fun _ _ hk _ => (h.below.block _ (Array.getElem?_eq_some_iff.1 hk).1).trans hk⟩
/-- The tunes alone; whether there are some. -/
def tvals (l : List TuneB) : List Tune := l.map Subtype.val
theorem tvals_snoc (l : List TuneB) (x : TuneB) : tvals (l ++ [x]) = tvals l ++ [x.1] := by simp [tvals]
end Go.Proofs.YtcickafaomfbmaaGreatDoor

/-
  Walks of package scale and of its reference: the weights for which a scale shows a number.
-/
namespace Go.Proofs.YtcickafaomfbmaaGreatDoor
open Go.RowKit Kr

set_option maxHeartbeats 1000000 in
theorem scale_weights_any (s : Scale) (tv : Value) (gain off n : Int) (w : World) (hs : 1 ≤ s.step ∧ s.step ≤ 500) (hg : -10 ≤ gain ∧ gain ≤ 10) (ho : -100 ≤ off ∧ off ≤ 100) (hn : -2000000 ≤ n ∧ n ≤ 2000000) :
    Calls Tryz.prog 130 #[.agg #[.int .i64 s.id, .int .i64 s.step, .int .i64 s.gain.lo, .int .i64 s.gain.hi, .int .i64 s.off.lo, .int .i64 s.off.hi, tv], .agg #[.int .i64 gain, .int .i64 off], .int .i64 n] w fun e w' => e = .returned (.agg #[.int .i64 (wt s.step gain off n).lo, .int .i64 (wt s.step gain off n).hi]) ∧ w.Exts w' := by
  unfold wt
  have b1 := ediv_bounds (a := -1000 * (n - off)) (b := 1000 + gain) (m := 9000000000) (by omega) (by omega) (by omega) (by omega)
  have b2 := ediv_bounds (a := 1000 * (n + s.step - off) - 1) (b := 1000 + gain) (m := 9000000000) (by omega) (by omega) (by omega) (by omega)
  generalize hql : -1000 * (n - off) / (1000 + gain) = ql at b1 ⊢
  generalize hqh : (1000 * (n + s.step - off) - 1) / (1000 + gain) = qh at b2 ⊢
  rcases Int.lt_or_le 0 (-ql) with m1 | m1 <;> rcases Int.lt_or_le qh 1000000 with m2 | m2
  all_goals
    go_enter Tryz.func130, Tryz.ntmps130
    go_wp2_with fail
    refine wp_region_ext_tail 22 (by kernel_rfl) (by kernel_rfl) ?_
    simp only [List.take_succ_cons, List.take_zero, List.drop_succ_cons, List.drop_zero]
    repeat (go_big_quiet_step ((go_at_call 162; first | exact Calls.in_ext_eq (scale_down_any _ _ _ ⟨by omega, by omega⟩ (by omega)) (congrArg (Value.int .i64) hql) | exact Calls.in_ext_eq (scale_down_any _ _ _ ⟨by omega, by omega⟩ (by omega)) (congrArg (Value.int .i64) hqh))))
    refine wpQuiet_nil ?_
    rintro _ ⟨X, rfl⟩
    go_wp2_with fail
    refine bodyPost_ret (v := .agg #[.int .i64 (max 0 (-ql)), .int .i64 (min 1000000 qh)]) (by simp [results, Tryz.results130, go_sem] <;> omega) rfl ?_
    exact ⟨rfl, exq⟩

end Go.Proofs.YtcickafaomfbmaaGreatDoor

/-
  Walks of the reference of layer 4: all truths of a scale with loads.
-/
namespace Go.Proofs.YtcickafaomfbmaaGreatDoor
open Go.RowKit Kr

def partCs (l : List Part) : List Value := l.flatMap fun t => [.int .i64 t.gain, .int .i64 t.off, .int .i64 t.sum.lo, .int .i64 t.sum.hi]
theorem row_parts {w : World} {base : Nat} {e : TypeId} {v : Value} {l : List Part} (h : w.ownsRow base e 4 v l.length (partCs l)) : IsRow (fun t : Kr.Part => [.int .i64 t.gain, .int .i64 t.off, .int .i64 t.sum.lo, .int .i64 t.sum.hi]) 4 w v l :=
  IsRow.of_owns h (fun _ _ => rfl)
theorem addLoad_other {s : Scale} {gain off : Int} {x : Option Span} {l : Load} (h : (l.scale == s.id) = false) : addLoad s gain off x l = x := by
  unfold addLoad; rw [if_neg (by simpa using h)]
theorem fold_snoc {s : Scale} {gain off : Int} {ls : List Load} {j : Nat} {l : Load} (h : ls[j]? = some l) (x : Option Span) : (ls.take (j + 1)).foldl (addLoad s gain off) x = addLoad s gain off ((ls.take j).foldl (addLoad s gain off) x) l := by
  rw [take_snoc h, List.foldl_append]; rfl
theorem parts_yes {s : Scale} {gain lo : Int} {ls : List Load} {m : Nat} {x : Span} (h : ls.foldl (addLoad s gain (lo + m)) (some ⟨0, 0⟩) = some x) : partsN s ls gain lo (m + 1) = partsN s ls gain lo m ++ [⟨gain, lo + m, x⟩] := by
  rw [partsN]; unfold Kr.partAt partSum; rw [h]
theorem parts_no {s : Scale} {gain lo : Int} {ls : List Load} {m : Nat} (h : ls.foldl (addLoad s gain (lo + m)) (some ⟨0, 0⟩) = none) : partsN s ls gain lo (m + 1) = partsN s ls gain lo m := by
  rw [partsN]; unfold Kr.partAt partSum; rw [h]; simp

end Go.Proofs.YtcickafaomfbmaaGreatDoor
