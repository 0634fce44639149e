/-
  Several texts in one: see the heads of its parts.
-/

import Derived.Test.YtcickafaomfbmaaGreatDoorZSBksGaI
import Derived.Test.YtcickafaomfbmaaGreatDoorZSBksSa
import Derived.Deep.DeepCutAuto
import Derived.Test.YtcickafaomfbmaaGreatDoorZSBksScDT
import Derived.Test.YtcickafaomfbmaaGreatDoorZSBksFuncs
import Derived.Test.YtcickafaomfbmaaGreatDoorZSBksPl
import Derived.Deep.MidRow
import Derived.Deep.WholeRow
/-
  Walks of the reference of guests: gear that has nothing.
-/
namespace Go.Proofs.YtcickafaomfbmaaGreatDoor
open Go.RowKit Kr
set_option linter.unusedSimpArgs false
set_option linter.unusedVariables false

end Go.Proofs.YtcickafaomfbmaaGreatDoor

/-
  Walks of package scale and of its reference: what is known of spans, whether a norm is valid.
-/
namespace Go
@[go_sem] theorem run_store_func {P : Program} {w : World} (a : Addr) (m : Mode) (f : Fn) (x y : Array Value) : (store a (.func f x y) m).run P w = stored P w a (.func f x y) m := run_store P w a _ m rfl
end Go
namespace Go.Proofs.YtcickafaomfbmaaGreatDoor
open Go.RowKit Kr
set_option linter.unusedSimpArgs false

end Go.Proofs.YtcickafaomfbmaaGreatDoor

/-
  Walks of the reference of guests: outing.
-/
namespace Go.Proofs.YtcickafaomfbmaaGreatDoor
open Go.RowKit Kr
set_option linter.unusedSimpArgs false
set_option linter.unusedVariables false

end Go.Proofs.YtcickafaomfbmaaGreatDoor

/-
  Walks of the reference of guests: Books, Check.
-/
namespace Go.Proofs.YtcickafaomfbmaaGreatDoor
open Go.RowKit Kr
set_option linter.unusedSimpArgs false
set_option linter.unusedVariables false

/-- A store of many cells into the block that was made last: not opened into stores of one cell. -/
theorem wpList_store_new {P : Program} {ops : Array Oper} {rest : List Oper} {a : Act} {Q : Exit → Act → World → Prop} {t ty : TypeId} {x y : Operand} {pos : String} {after : Array Edge} {w : World} {old cells : Array Value}
    (hx : a.eval x = .pointer (some ⟨w.heap.size, 0, none⟩)) (hy : a.eval y = .agg cells) (hi : (P.info? t).map (·.size) = some cells.size) (ho : old.size = cells.size) (h1 : cells.all (·.oneCell') = true)
    (h : wpList P ops Q rest (a.put none undef) (w.alloc (.cells cells t))) : wpList P ops Q ({ dst := none, op := .store t x y, type := ty, pos := pos, after := after, guard := none } :: rest) a (w.alloc (.cells old t)) := by
  refine wpList_store_row rfl t x y rfl _ cells hx hy t old (heap_alloc_last _ _) hi ho h1 ?_
  rw [World.setRow_alloc_new]
  exact h

end Go.Proofs.YtcickafaomfbmaaGreatDoor
