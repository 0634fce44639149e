/-
  Several texts in one: see the heads of its parts.
-/
import Derived.Test.YtkgchngaganokaaGreatDoorGb
import Derived.Deep.DeepCutAuto

/-
  Books of guests, as they lie in memory.
-/
namespace Go.Proofs.YtkgchngaganokaaGreatDoor
open Go.RowKit Kr
set_option linter.unusedSimpArgs false

/-- An outing with its slices. -/
structure OutV where
  o : Kr.Outing
  gs : Value
  lv : Value
  rv : Value
  sv : Value
structure OutAt (w : World) (x : OutV) : Prop where
  gs : IsRow (fun x : Int => [.int .i64 x]) 1 w x.gs x.o.guests
  l : IsRow (fun t : Kr.Load => [.int .i64 t.scale, .int .i64 t.shown]) 2 w x.lv x.o.gear.loads
  r : IsRow (fun x : Int => [.int .i64 x]) 1 w x.rv x.o.gear.runners
  s : IsRow (fun x : Int => [.int .i64 x]) 1 w x.sv x.o.gear.strokes
theorem OutAt.mono {w w' : World} {x : OutV} (h : OutAt w x) (hE : w.Exts w') : OutAt w' x := ⟨h.gs.mono hE, h.l.mono hE, h.r.mono hE, h.s.mono hE⟩
/-- The slices of books. -/
structure BookV where
  bay : Value
  cash : Value
  outs : Value
  rfds : Value
  pleas : Value
/-- Books lie in memory: their scales and outings with all of their slices. -/
structure BooksAt (w : World) (m : Kr.Books) (v : BookV) (ts : List (Kr.Scale × Value)) (xs : List OutV) : Prop where
  bay : BayAt w v.bay ts
  tse : ts.map Prod.fst = m.bay
  cash : IsRow (fun x : Int => [.int .i64 x]) 1 w v.cash m.cash
  outs : IsRow (fun x : OutV => [.int .i64 x.o.id, .int .i64 x.o.pilot, .int .i64 x.o.seats, .int .i64 x.o.price, .int .i64 x.o.part, .int .i64 x.o.norm.total.lo, .int .i64 x.o.norm.total.hi, .int .i64 x.o.norm.added, .int .i64 x.o.norm.warm, .int .i64 x.o.norm.hard.lo, .int .i64 x.o.norm.hard.hi, .bool x.o.norm.stamp, x.gs, .bool x.o.weighed, x.lv, .int .i64 x.o.gear.added, .int .i64 x.o.gear.base, .int .i64 x.o.gear.jitter, x.rv, x.sv, .int .i64 x.o.gear.spread, .bool x.o.gear.stamp, .int .u8 x.o.state]) 23 w v.outs xs
  ose : xs.map OutV.o = m.outings
  out : ∀ x ∈ xs, OutAt w x
  rfds : IsRow (fun r : Kr.Rfd => [.int .i64 r.days, .int .i64 r.part]) 2 w v.rfds m.refunds
  pleas : IsRow (fun x : Int => [.int .i64 x]) 1 w v.pleas m.pleas
theorem BooksAt.mono {w w' : World} {m : Kr.Books} {v : BookV} {ts : List (Kr.Scale × Value)} {xs : List OutV} (h : BooksAt w m v ts xs) (hE : w.Exts w') : BooksAt w' m v ts xs :=
  ⟨h.bay.mono hE, h.tse, h.cash.mono hE, h.outs.mono hE, h.ose, fun x hx => (h.out x hx).mono hE, h.rfds.mono hE, h.pleas.mono hE⟩

def heldS (os : List Kr.Outing) : Int := ((os.filter fun o => o.state == 0).map fun o => o.price * (o.guests.length : Int)).sum
theorem heldS_snoc {os : List Kr.Outing} {k : Nat} {o : Kr.Outing} (h : os[k]? = some o) : heldS (os.take (k + 1)) = heldS (os.take k) + if o.state = 0 then o.price * (o.guests.length : Int) else 0 := by
  unfold heldS
  rw [take_snoc h, List.filter_append]
  by_cases hs : o.state = 0 <;> simp [hs]
theorem heldS_bd {os : List Kr.Outing} (hx : ∀ o ∈ os, (0 ≤ o.price ∧ o.price ≤ 100000) ∧ o.guests.length ≤ 8) : 0 ≤ heldS os ∧ heldS os ≤ 800000 * (os.length : Int) := by
  induction os with
  | nil => simp [heldS]
  | cons o os ih =>
    have h1 := ih fun y hy => hx y (List.mem_cons_of_mem _ hy)
    have h2 := hx o (List.mem_cons_self ..)
    have h3 : 0 ≤ o.price * (o.guests.length : Int) := Int.mul_nonneg h2.1.1 (by omega)
    have h4 : o.price * (o.guests.length : Int) ≤ 100000 * 8 := Int.mul_le_mul h2.1.2 (by omega) (by omega) (by omega)
    unfold heldS at h1 ⊢
    rw [List.filter_cons, List.length_cons]
    split
    · rw [List.map_cons, List.sum_cons]; omega
    · omega

end Go.Proofs.YtkgchngaganokaaGreatDoor

/-
  Walks of package guest: sum.
-/
namespace Go.Proofs.YtkgchngaganokaaGreatDoor
open Go.RowKit Kr
set_option linter.unusedSimpArgs false

theorem sum_part {l : List Int} {k : Nat} {x : Int} (h : l[k]? = some x) : (l.take (k + 1)).sum = (l.take k).sum + x := by
  rw [take_snoc h, List.sum_append]; simp
theorem sum_bdN {M : Int} (hM : 0 ≤ M) : ∀ (l : List Int), (∀ x ∈ l, 0 ≤ x ∧ x ≤ M) → 0 ≤ l.sum ∧ l.sum ≤ M * (l.length : Int)
  | [], _ => by simp
  | x :: l, h => by
    have h1 := sum_bdN hM l fun y hy => h y (List.mem_cons_of_mem _ hy)
    have h2 := h x (List.mem_cons_self ..)
    rw [List.sum_cons, List.length_cons, Int.natCast_succ, Int.mul_add, Int.mul_one]
    omega

end Go.Proofs.YtkgchngaganokaaGreatDoor

/-
  Walks of the reference of guests: refund.
-/
namespace Go.Proofs.YtkgchngaganokaaGreatDoor
open Go.RowKit Kr
set_option linter.unusedSimpArgs false

/-- The refund of a price for some days. -/
def refundOf (rs : List Kr.Rfd) (price days : Int) : Int := match rs.find? (fun r => decide (r.days ≤ days)) with | some r => price * r.part / 100 | none => 0
theorem find_take {rs : List Kr.Rfd} {days : Int} {k : Nat} {r : Kr.Rfd} (h : rs[k]? = some r) (hno : ∀ y ∈ rs.take k, days < y.days) (hr : r.days ≤ days) : rs.find? (fun r => decide (r.days ≤ days)) = some r := by
  rw [List.find?_eq_some_iff_append]
  obtain ⟨h1, h2⟩ := List.getElem?_eq_some_iff.1 h
  refine ⟨by simpa using hr, rs.take k, rs.drop (k + 1), ?_, fun y hy => by have := hno y hy; simp; omega⟩
  conv => lhs; rw [← List.take_append_drop k rs]
  rw [List.drop_eq_getElem_cons h1, h2]

end Go.Proofs.YtkgchngaganokaaGreatDoor

/-
  Walks of package guest: person, clean.
-/
namespace Go.Proofs.YtkgchngaganokaaGreatDoor
open Go.RowKit Kr
set_option linter.unusedSimpArgs false

theorem row_int4 (w : World) (a b c d : Int) (n : Nat) (hn : n = w.heap.size) : IsRow (fun x : Int => [.int .i64 x]) 1 (w.alloc (.cells #[.int .i64 a, .int .i64 b, .int .i64 c, .int .i64 d] 3)) (.slice (some ⟨n, 0, none⟩) 4 4) [a, b, c, d] := by
  subst hn
  exact ⟨_, w.heap.size, 0, 4, rfl, by simp, fun _ => ⟨rfl, lays_new _ _⟩, fun i z hz j u hu => by
    match i, hz with
    | 0, hz => simp at hz; subst hz; match j, hu with | 0, hu => simp at hu; subst hu; simp
    | 1, hz => simp at hz; subst hz; match j, hu with | 0, hu => simp at hu; subst hu; simp
    | 2, hz => simp at hz; subst hz; match j, hu with | 0, hu => simp at hu; subst hu; simp
    | 3, hz => simp at hz; subst hz; match j, hu with | 0, hu => simp at hu; subst hu; simp⟩

end Go.Proofs.YtkgchngaganokaaGreatDoor

/-
  Walks of package guest: refund.
-/
namespace Go.Proofs.YtkgchngaganokaaGreatDoor
open Go.RowKit Kr
set_option linter.unusedSimpArgs false

end Go.Proofs.YtkgchngaganokaaGreatDoor

/-
  Walks of package guest: an office's refund.
-/
namespace Go.Proofs.YtkgchngaganokaaGreatDoor
open Go.RowKit Kr
set_option linter.unusedSimpArgs false

end Go.Proofs.YtkgchngaganokaaGreatDoor
