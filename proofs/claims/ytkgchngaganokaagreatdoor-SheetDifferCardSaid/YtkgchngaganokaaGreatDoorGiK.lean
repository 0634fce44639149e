/-
  Several texts in one: see the heads of its parts.
-/
import Derived.Test.YtkgchngaganokaaGreatDoorGaI
import Derived.Test.YtkgchngaganokaaGreatDoorGcH
import Derived.Test.YtkgchngaganokaaGreatDoorScDT
import Derived.Test.YtkgchngaganokaaGreatDoorSa
import Derived.Test.YtkgchngaganokaaGreatDoorRx
import Derived.Test.YtkgchngaganokaaGreatDoorPl
import Derived.Deep.MidRow
import Derived.Deep.WholeRow

/-
  Walks of the reference of guests: gear that has nothing.
-/
namespace Go.Proofs.YtkgchngaganokaaGreatDoor
open Go.RowKit Kr
set_option linter.unusedSimpArgs false
set_option linter.unusedVariables false

end Go.Proofs.YtkgchngaganokaaGreatDoor

/-
  Walks of package scale and of its reference: what is known of spans, whether a norm is valid.
-/
namespace Go
@[go_sem] theorem run_store_func {P : Program} {w : World} (a : Addr) (m : Mode) (f : Fn) (x y : Array Value) : (store a (.func f x y) m).run P w = stored P w a (.func f x y) m := run_store P w a _ m rfl
end Go
namespace Go.Proofs.YtkgchngaganokaaGreatDoor
open Go.RowKit Kr
set_option linter.unusedSimpArgs false

end Go.Proofs.YtkgchngaganokaaGreatDoor

/-
  Walks of the reference of guests: outing.
-/
namespace Go.Proofs.YtkgchngaganokaaGreatDoor
open Go.RowKit Kr
set_option linter.unusedSimpArgs false
set_option linter.unusedVariables false

end Go.Proofs.YtkgchngaganokaaGreatDoor

/-
  Walks of the reference of guests: Books, Check.
-/
namespace Go.Proofs.YtkgchngaganokaaGreatDoor
open Go.RowKit Kr
set_option linter.unusedSimpArgs false
set_option linter.unusedVariables false

/-- A load of many cells, in a quiet walk: not opened into loads of one cell. -/
theorem quiet_load_mid {P : Program} {C : World → Prop} {o : Oper} {a : Act} {K : Act → Prop} (ty : TypeId) (x : Operand) (ho : o.op = .load ty x) (b off : Nat) (hx : a.eval x = .pointer (some ⟨b, off, none⟩)) (cs : List Value) (d : TypeDesc) (hc : ∀ W, C W → W.rangeAt b off cs)
    (hu : P.underlying ty = some d) (hd : d.isRow = true) (hi : (P.info? ty).map (·.size) = some cs.length) (hk : K (a.put o.dst (.agg cs.toArray))) : o.quiet P a C K :=
  ⟨_, fun w hw => by
    unfold Oper.quietAt execOp
    simp only [ho, hx, Instr.loadAt, Instr.sureAddr, Sem.run_bind, Sem.run_pure, Result.andThen_ok, run_loadVar_mid w b off ty cs d (hc w hw) hu hd hi]
    exact ⟨rfl, rfl⟩, hk⟩

/-- A store of many cells into the block that was made last: not opened into stores of one cell. -/
theorem wpList_store_new {P : Program} {ops : Array Oper} {rest : List Oper} {a : Act} {Q : Exit → Act → World → Prop} {t ty : TypeId} {x y : Operand} {pos : String} {after : Array Edge} {w : World} {old cells : Array Value}
    (hx : a.eval x = .pointer (some ⟨w.heap.size, 0, none⟩)) (hy : a.eval y = .agg cells) (hi : (P.info? t).map (·.size) = some cells.size) (ho : old.size = cells.size) (h1 : cells.all (·.oneCell') = true)
    (h : wpList P ops Q rest (a.put none undef) (w.alloc (.cells cells t))) : wpList P ops Q ({ dst := none, op := .store t x y, type := ty, pos := pos, after := after, guard := none } :: rest) a (w.alloc (.cells old t)) := by
  refine wpList_store_row rfl t x y rfl _ cells hx hy t old (heap_alloc_last _ _) hi ho h1 ?_
  rw [World.setRow_alloc_new]
  exact h

theorem inAll_false {lo hi : Int} {l : List Int} {k : Nat} {y : Int} (hy : l[k]? = some y) (h : inb lo hi y = false) : inAll lo hi l = false := by
  unfold inAll
  rw [List.all_eq_false]
  exact ⟨y, List.mem_of_getElem? hy, by rw [h]; simp⟩
theorem inAll_true {lo hi : Int} {l : List Int} (h : ∀ y ∈ l, inb lo hi y = true) : inAll lo hi l = true := List.all_eq_true.2 h
theorem take_all {p : Int → Prop} {l : List Int} {k : Nat} {y : Int} (hy : l[k]? = some y) (h : ∀ z ∈ l.take k, p z) (h1 : p y) : ∀ z ∈ l.take (k + 1), p z := by
  rw [take_snoc hy]
  intro z hz
  rcases List.mem_append.1 hz with h2 | h2
  · exact h z h2
  · rw [List.mem_singleton.1 h2]; exact h1

/-- What the walks ask of an outing: its slices, and that its gear is within bounds. -/
structure OutGood (w : World) (x : OutV) : Prop where
  at_ : OutAt w x
  gear : GearAt w (x.o.gear, x.lv, x.rv, x.sv)
  few : x.o.guests.length ≤ 8
theorem OutGood.mono {w w' : World} {x : OutV} (h : OutGood w x) (hE : w.Exts w') : OutGood w' x := ⟨h.at_.mono hE, h.gear.mono hE, h.few⟩
/-- Books that are not great, as they lie. -/
structure BooksGood (w : World) (m : Kr.Books) (v : BookV) (ts : List (Kr.Scale × Value)) (xs : List OutV) : Prop where
  at_ : BooksAt w m v ts xs
  out : ∀ x ∈ xs, OutGood w x
  cash : m.cash.length ≤ 12
  outs : m.outings.length ≤ 8
  rfds : m.refunds.length ≤ 8
  pleas : m.pleas.length ≤ 8
theorem BooksGood.mono {w w' : World} {m : Kr.Books} {v : BookV} {ts : List (Kr.Scale × Value)} {xs : List OutV} (h : BooksGood w m v ts xs) (hE : w.Exts w') : BooksGood w' m v ts xs :=
  ⟨h.at_.mono hE, fun x hx => (h.out x hx).mono hE, h.cash, h.outs, h.rfds, h.pleas⟩
theorem BooksGood.xl {w : World} {m : Kr.Books} {v : BookV} {ts : List (Kr.Scale × Value)} {xs : List OutV} (h : BooksGood w m v ts xs) : xs.length = m.outings.length := by rw [← h.at_.ose, List.length_map]
end Go.Proofs.YtkgchngaganokaaGreatDoor
