/-
  Several texts in one: see the heads of its parts.
-/

import Derived.Test.YtcickafaomfbmaaGreatDoorZSBksGiK
import Derived.Test.YtcickafaomfbmaaGreatDoorZSBksTq
import Derived.Test.YtcickafaomfbmaaGreatDoorZSBksSoT
import Derived.Test.YtcickafaomfbmaaGreatDoorZSBksScDT
/-
  Walks of package scale and of its reference: the conditions, and what is judged.
-/
namespace Go.Proofs.YtcickafaomfbmaaGreatDoor
open Go.RowKit Kr
set_option linter.unusedSimpArgs false

end Go.Proofs.YtcickafaomfbmaaGreatDoor

/-
  Walks of package scale: what is judged.
-/
namespace Go
/-- A call of a function that an operand holds. -/
theorem gives_val {P : Program} {o : Oper} {c : Call} {f : FuncId} {x : Operand} {ρ : Operand → Value} {w : World} {R : Value → World → Prop} {xs : List Operand} (ho : o.op = .call c) (hc : c.callee = .value x) (hx : c.args = xs.toArray) (ef : ∀ args w, (callFunc f args).run P w = .ok (.enter f args) w)
    (h : Calls P f (xs.map ρ).toArray w fun e w' => ∃ v, e = .returned v ∧ R v w') (hρ : ρ x = .func (.func f) #[] #[]) : o.gives P ρ w R := by
  refine .inl ⟨f, (xs.map ρ).toArray, ?_, h⟩
  unfold execOp
  simp [ho, resolve, hc, hρ, Deferred.ofValue, invoke, ef, hx]
end Go
namespace Go.Proofs.YtcickafaomfbmaaGreatDoor
open Go.RowKit Kr
set_option linter.unusedSimpArgs false

theorem laysAs_frozen {W : World} {b i : Nat} {cs : Array Value} {t : TypeId} (h : LaysAs W b (.cells cs t (0, 0))) : W.frozen? ⟨b, i, none⟩ = false := by
  unfold LaysAs at h; simp [World.frozen?, h]
end Go.Proofs.YtcickafaomfbmaaGreatDoor
