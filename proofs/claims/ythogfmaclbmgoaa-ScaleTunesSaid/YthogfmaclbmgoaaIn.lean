/-
  Regions that draw their order, inside a round of a range over a function (the wide fence): the laws of this work's plain walk carry over.
-/
import Derived.Test.YthogfmaclbmgoaaExt
import Derived.RangeFuncNested
import Derived.RangeFuncBound
import Derived.RangeFuncCalls
import Derived.RangeFuncLeaves
import Derived.RangeFuncWrites
import Derived.RangeFuncFrom
import Derived.Shelf.Abstract
import Derived.Shelf.RegionOpen
import Derived.OwnWalkIn
import Derived.TacticsInMore
import Derived.LoopNIn
import Derived.LoopIn
import Derived.OrdersIn
namespace Go
open Go.RowKit

/-- No operation is a defer statement. -/
def Region.noDefer (ops : List Oper) : Bool := ops.all fun o => match o.op with | .defer _ => false | _ => true

section
variable {P : Program} {ops : Array Oper} {Q : Exit → Act → World → Prop} {md : Region.Mode} {l n : Nat} {K : Act → World → Prop} {a : Act} {w : World}

/-- What is left behind is normal, and R. -/
abbrev Exit.only (R : Act → World → Prop) : Exit → Act → World → Prop := fun e a w => e = .normal ∧ R a w
theorem not_letsOut {R : Act → World → Prop} : ¬ LetsOut (Exit.only R) := fun ⟨_, _, h, _⟩ => by cases h

theorem Oper.wpIn_round_of_wp {o : Oper} {R : Act → World → Prop} (hnd : ∀ c, o.op ≠ .defer c) (h : o.wp P a w K (Exit.only R)) : o.wpIn (Fence.wide.inRound l) n P a w K Q := by
  refine ⟨fun _ _ => trivial, ?_⟩
  rw [Oper.semAt_eq _ _ _ hnd]
  unfold Oper.wp at h
  generalize (execOp a.eval o).run P w = r at h
  cases r with
  | ok x w' =>
    cases x with
    | value v => exact h
    | skip => exact h
    | defer d => exact h
    | enter f args =>
      refine ⟨fun e => (by cases e), callsIn_wide.2 (Calls.mono h fun e w'' he => ?_)⟩
      cases e with
      | returned v => exact he
      | panicked c => cases he.1
      | outgrown => exact (not_letsOut he).elim
    | row r args =>
      refine ⟨fun e => (by cases e), fun c cs _ => ?_⟩
      obtain ⟨v, w2, hr, hs⟩ := h c cs
      exact ⟨v, w2, hr, stepsIn_wide.2 hs⟩
    | _ => exact h.elim
  | halt x w' =>
    cases x with
    | panic v => cases h.1
    | _ => exact h.elim

theorem wpOpIn_round_of_wpOp {R : Act → World → Prop} (hnd : ∀ o ∈ ops.toList, ∀ c, o.op ≠ .defer c) {i : Nat} (h : wpOp P ops (Exit.only R) i K a w) : wpOpIn (Fence.wide.inRound l) n P ops Q i K a w := by
  unfold wpOp at h
  unfold wpOpIn
  cases ho : ops[i]? with
  | none => simpa [ho] using h
  | some o =>
    simp only [ho] at h ⊢
    split
    · rename_i hw
      rw [if_pos hw] at h
      rcases h with h | ⟨_, h⟩
      · exact Oper.wpIn_round_of_wp (hnd o (by rw [← Array.getElem?_toList] at ho; exact List.mem_of_getElem? ho)) h
      · exact (not_letsOut h).elim
    · rename_i hw
      rw [if_neg hw] at h
      exact ⟨fun _ _ => trivial, h⟩

theorem wpAnyIn_round_of_wpAny (hnd : ∀ o ∈ ops.toList, ∀ c, o.op ≠ .defer c) : ∀ (fuel : Nat) (listed : Array Bool) (a : Act) (w : World), wpAny P md ops (Exit.only (Q .normal)) fuel listed a w → wpAnyIn (Fence.wide.inRound l) n P md ops Q fuel listed a w
  | 0, _, _, _, h => ⟨h.1, h.2.2⟩
  | fuel + 1, _, _, _, h => ⟨fun h0 => (h.1 h0).2, fun i hi => wpOpIn_round_of_wpOp hnd (wpOp_mono (fun a' w' h' => wpAnyIn_round_of_wpAny hnd fuel _ a' w' h') (h.2 i hi))⟩
end

theorem noDefer_spec {ops : List Oper} (h : Region.noDefer ops = true) : ∀ o ∈ ops.toArray.toList, ∀ c, o.op ≠ .defer c := by
  intro o ho c e
  have := List.all_eq_true.1 h o (by simpa using ho)
  rw [e] at this
  cases this

theorem wpQuiet_weaken {P : Program} {ops : Array Oper} {C : World → Prop} {Q Q' : Act → Prop} (hq : ∀ a, Q a → Q' a) : ∀ (l : List Oper) (a : Act), wpQuiet P ops C Q l a → wpQuiet P ops C Q' l a
  | [], a, h => hq a h
  | o :: rest, a, h => by
    unfold wpQuiet at h ⊢
    split
    · rename_i hw
      rw [if_pos hw] at h
      exact Oper.quiet_mono (fun a' h' => wpQuiet_weaken hq rest a' h') h
    · rename_i hw
      rw [if_neg hw] at h
      exact wpQuiet_weaken hq rest _ h

theorem wpIn_region_ext_round {P : Program} {id lp m : Nat} {l : List Oper} {Q : Exit → Act → World → Prop} {a : Act} {w : World} (hm : P.follows .mixedOrders = true) (hB : Region.lexB .any l.toArray = true) (hd : Region.noDefer l = true)
    (h : wpQuiet P l.toArray (fun W => ∃ X : Ext w, W = w.ext X) (fun a' => ∀ W, (∃ X : Ext w, W = w.ext X) → Q .normal a' W) l a) : (Code.region id l.toArray true).wpIn (Fence.wide.inRound lp) m P Q a w :=
  wpIn_region_any hm (wpAnyIn_round_of_wpAny (noDefer_spec hd) _ _ _ _ (wpAny_ext (Q := Exit.only (Q .normal)) hB (wpQuiet_weaken (fun _ h W hW => ⟨rfl, h W hW⟩) _ _ h)))

theorem wpIn_region_ext_tail_round {P : Program} {id lp m : Nat} {Q : Exit → Act → World → Prop} {a : Act} {w : World} {l : List Oper} (n : Nat) (hm : P.follows .mixedOrders = true) (hB : Region.lexTailB .any l.toArray n = true) (hd : Region.noDefer l = true)
    (h : wpQuiet P l.toArray (fun W => ∃ X : Ext w, W = w.ext X) (fun a' => ∀ W, (∃ X : Ext w, W = w.ext X) → wpList P l.toArray (Exit.only (Q .normal)) (l.drop n) a' W) (l.take n) a) : (Code.region id l.toArray true).wpIn (Fence.wide.inRound lp) m P Q a w :=
  wpIn_region_any hm (wpAnyIn_round_of_wpAny (noDefer_spec hd) _ _ _ _ (wpAny_ext_tail n hB h))
end Go
