/-
  Several texts in one: see the heads of its parts.
-/

import Derived.Test.YtcickafaomfbmaaGreatDoorZSJesIcF
import Derived.Test.YtcickafaomfbmaaGreatDoorZSJesTq
import Derived.Test.YtcickafaomfbmaaGreatDoorZSJesJdk
import Derived.Test.YtcickafaomfbmaaGreatDoorZSJesIgK
import Derived.Test.YtcickafaomfbmaaGreatDoorZSJesIsT
import Derived.Test.YtcickafaomfbmaaGreatDoorZSJesIlO
import Derived.Test.YtcickafaomfbmaaGreatDoorZSJesTk
import Derived.Test.YtcickafaomfbmaaGreatDoorZSJesTm
/-
  Walks of references: what compares tracks, covers, plans, sheets; whether a cover is great.
-/
namespace Go.Proofs.YtcickafaomfbmaaGreatDoor
open Go.RowKit Kr
set_option linter.unusedSimpArgs false
set_option linter.unusedVariables false

set_option maxHeartbeats 400000 in
theorem r01_SameInts_any (l : List Int) (v1 v2 : Value) (w : World) (h1 : IsRow (fun t : Int => [.int .i64 t]) 1 w v1 l) (h2 : IsRow (fun t : Int => [.int .i64 t]) 1 w v2 l) :
    Calls Tryz.prog 19 #[v1, v2] w fun e w' => e = .returned (.bool true) ∧ w.Exts w' := by
  obtain ⟨p1, b1, o1, cap1, rfl, hm, hp1, hc1⟩ := h1.ex
  obtain ⟨p2, b2, o2, cap2, rfl, hm2, hp2, hc2⟩ := h2.ex
  have HC1 := Lib.hid hc1
  clear hc1
  have HC2 := Lib.hid hc2
  clear hc2
  clear h1 h2
  go_enter Tryz.func19, Tryz.ntmps19
  go_wp2_with fail
  go_loopw [5] (fun i wr => ∃ k : Nat, k ≤ l.length ∧ i = .int .i64 k ∧ w.Exts wr) (fun i _ => l.length - (intOf i).toNat)
  case atStart => exact ⟨0, Nat.zero_le _, rfl, exq⟩
  case round =>
    obtain ⟨k, hk, rfl, X, rfl⟩ := hrel
    by_cases hlt : k < l.length
    · obtain ⟨rfl, hl1⟩ := hp1 (by omega)
      obtain ⟨rfl, hl2⟩ := hp2 (by omega)
      obtain ⟨x, hx⟩ := some_of_lt hlt
      have d1 := HC1.out k x hx
      have d2 := HC2.out k x hx
      have c10 := d1 0 _ rfl
      have c20 := d2 0 _ rfl
      simp only [Nat.add_zero, Nat.mul_one] at c10 c20
      clear hx d1 d2 hp1 hp2
      go_wp2_with fail
      refine wp_region_ext (by kernel_rfl) (by kernel_rfl) ?_
      repeat (go_big_quiet_step (fail))
      refine wpQuiet_nil ?_
      rintro _ ⟨X, rfl⟩
      go_wp2_with fail
      go_roundw
      case rel => exact ⟨k + 1, by omega, by go_num, exq⟩
      case measure => simp [intOf]; omega
    · go_wp2_with fail
      go_ret
      exact ⟨rfl, exq⟩
end Go.Proofs.YtcickafaomfbmaaGreatDoor

/-
  Walks of references: whether a cover or a plan is great; rows of rows that a function owns.
-/
namespace Go.Proofs.YtcickafaomfbmaaGreatDoor
open Go.RowKit Kr
set_option linter.unusedSimpArgs false
set_option linter.unusedVariables false

theorem row_set {α : Type} {enc : α → List Value} {k : Nat} {W : World} {v : Value} {xs : List α} (h : IsRow enc k W v xs) {a : Addr} (hne : ∀ b, v.ownBlock = some b → b ≠ a.block) (u : Value) : IsRow enc k (W.setCell a u) v xs := by
  obtain ⟨p, b, o, cap, rfl, hm, hp, hc⟩ := h.ex
  refine ⟨p, b, o, cap, rfl, hm, fun h0 => ⟨(hp h0).1, ⟨by simpa using (hp h0).2.lt⟩⟩, fun i x hx j w hw => ?_⟩
  have h0 : 0 < xs.length := by have := (List.getElem?_eq_some_iff.1 hx).1; omega
  obtain ⟨rfl, hl⟩ := hp h0
  have h1 := hc i x hx j w hw
  rw [World.cell?_setCell_other W _ _ u (fun e => hne b rfl (by rw [e]))]
  exact h1
/-- Rows of numbers that lie in a slice that a function owns. -/
structure OwnLists (w : World) (base : Nat) (v : Value) (ps : List (List Int × Value)) : Prop where
  own : w.ownsRow base 45 1 v ps.length (ps.flatMap fun x => [x.2])
  base_le : base ≤ w.heap.size
  mem : ∀ x ∈ ps, IsRow (fun x : Int => [.int .i64 x]) 1 w x.2 x.1 ∧ ∀ b, x.2.ownBlock = some b → base ≤ b ∧ b < w.heap.size ∧ v.ownBlock ≠ some b
theorem OwnLists.exts {w w' : World} {base : Nat} {v : Value} {ps : List (List Int × Value)} (h : OwnLists w base v ps) (hE : w.Exts w') : OwnLists w' base v ps :=
  ⟨ownsRow_exts h.own hE, Nat.le_trans h.base_le hE.size, fun x hx => ⟨(h.mem x hx).1.mono hE, fun b hb => ⟨((h.mem x hx).2 b hb).1, Nat.lt_of_lt_of_le ((h.mem x hx).2 b hb).2.1 hE.size, ((h.mem x hx).2 b hb).2.2⟩⟩⟩
theorem OwnLists.lists {w : World} {base : Nat} {v : Value} {ps : List (List Int × Value)} (h : OwnLists w base v ps) : ListsAt w v ps := ⟨IsRow.of_owns h.own (fun _ _ => rfl), fun x hx => (h.mem x hx).1⟩
theorem OwnLists.add {w w' : World} {base : Nat} {v v' vp : Value} {ps : List (List Int × Value)} {l : List Int} (h : OwnLists w base v ps) (hown : w'.ownsRow base 45 1 v' (ps.length + 1) ((ps.flatMap fun x => [x.2]) ++ [vp])) (ha : AppendedW w w' v v' base)
    (hr : IsRow (fun x : Int => [.int .i64 x]) 1 w vp l) (hb : ∀ b, vp.ownBlock = some b → base ≤ b ∧ b < w.heap.size ∧ v.ownBlock ≠ some b) (hsz : w.heap.size ≤ w'.heap.size) : OwnLists w' base v' (ps ++ [(l, vp)]) := by
  refine ⟨by simpa using hown, Nat.le_trans h.base_le hsz, fun x hx => ?_⟩
  have hx' : IsRow (fun x : Int => [.int .i64 x]) 1 w x.2 x.1 ∧ ∀ b, x.2.ownBlock = some b → base ≤ b ∧ b < w.heap.size ∧ v.ownBlock ≠ some b := by
    rcases List.mem_append.1 hx with hx | hx
    · exact h.mem x hx
    · rw [List.mem_singleton.1 hx]; exact ⟨hr, hb⟩
  obtain ⟨a1, a2⟩ := hx'
  exact ⟨row_appended a1 ha fun b e => (a2 b e).2.2, fun b e => ⟨(a2 b e).1, Nat.lt_of_lt_of_le (a2 b e).2.1 hsz, ha.beside b (a2 b e).2.1 (a2 b e).2.2⟩⟩
theorem OwnLists.put {w : World} {base : Nat} {v : Value} {ps : List (List Int × Value)} (h : OwnLists w base v ps) {a : Addr} (ha : a.block < base) (u : Value) : OwnLists (w.setCell a u) base v ps :=
  ⟨World.ownsRow.set h.own (by omega) u, by simpa using h.base_le, fun x hx => ⟨row_set (h.mem x hx).1 (fun b hb => by have := ((h.mem x hx).2 b hb).1; omega) u, fun b hb => by have h1 := (h.mem x hx).2 b hb; exact ⟨h1.1, by simpa using h1.2.1, h1.2.2⟩⟩⟩
theorem OwnLists.none (w : World) (base : Nat) (h : base ≤ w.heap.size) : OwnLists w base (.slice none 0 0) [] := ⟨World.ownsRow_nil _ _ _ _, h, fun x hx => by cases hx⟩
theorem elem_Slint : ElemOf Tryz.prog 31 45 (.slice none 0 0) 1 24 := ⟨Tryz.underlying31, by kernel_rfl, rfl, by decide, by decide⟩
end Go.Proofs.YtcickafaomfbmaaGreatDoor

/-
  Walks of the reference of sheets: the ice book.
-/
namespace Go.Proofs.YtcickafaomfbmaaGreatDoor
open Go.RowKit Kr
set_option linter.unusedSimpArgs false
set_option linter.unusedVariables false

/-- What a function that makes a sheet gives. -/
def SheetIs (w : World) (kd : Int) (rows : List (List Int)) (err : Int) (e : Ending) (w' : World) : Prop :=
  ∃ v ps, e = .returned (.tuple #[.agg #[.int .u8 kd, v], .int .i64 err]) ∧ ListsAt w' v ps ∧ ps.map Prod.fst = rows ∧ w.Exts w'
theorem lists_none (w : World) : ListsAt w (.slice none 0 0) [] := ⟨IsRow.nil w, fun x hx => by cases hx⟩

end Go.Proofs.YtcickafaomfbmaaGreatDoor

/-
  Walks of package sheet: the ice book.
-/
namespace Go.Proofs.YtcickafaomfbmaaGreatDoor
open Go.RowKit Kr
set_option linter.unusedSimpArgs false
set_option linter.unusedVariables false

end Go.Proofs.YtcickafaomfbmaaGreatDoor

/-
  Walks of packages ice and sheet: Thin, and the ice book.
-/
namespace Go.Proofs.YtcickafaomfbmaaGreatDoor
open Go.RowKit Kr
set_option linter.unusedSimpArgs false
set_option linter.unusedVariables false

end Go.Proofs.YtcickafaomfbmaaGreatDoor

/-
  Walks of the references of track and of ice: twins.
-/
namespace Go.Proofs.YtcickafaomfbmaaGreatDoor
open Go.RowKit Kr
set_option linter.unusedSimpArgs false
set_option linter.unusedVariables false

end Go.Proofs.YtcickafaomfbmaaGreatDoor
