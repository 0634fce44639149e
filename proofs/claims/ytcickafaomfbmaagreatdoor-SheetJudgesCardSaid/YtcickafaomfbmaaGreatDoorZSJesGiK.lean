/-
  Several texts in one: see the heads of its parts.
-/

import Derived.Test.YtcickafaomfbmaaGreatDoorZSJesGaI
import Derived.Test.YtcickafaomfbmaaGreatDoorZSJesSa
import Derived.Deep.DeepCutAuto
import Derived.Test.YtcickafaomfbmaaGreatDoorZSJesScDT
import Derived.Test.YtcickafaomfbmaaGreatDoorZSJesRx
import Derived.Test.YtcickafaomfbmaaGreatDoorZSJesPl
import Derived.Deep.MidRow
import Derived.Deep.WholeRow
/-
  Walks of the reference of guests: gear that has nothing.
-/
namespace Go.Proofs.YtcickafaomfbmaaGreatDoor
open Go.RowKit Kr
set_option linter.unusedSimpArgs false
set_option linter.unusedVariables false

end Go.Proofs.YtcickafaomfbmaaGreatDoor

/-
  Walks of package scale and of its reference: what is known of spans, whether a norm is valid.
-/
namespace Go
@[go_sem] theorem run_store_func {P : Program} {w : World} (a : Addr) (m : Mode) (f : Fn) (x y : Array Value) : (store a (.func f x y) m).run P w = stored P w a (.func f x y) m := run_store P w a _ m rfl
end Go
namespace Go.Proofs.YtcickafaomfbmaaGreatDoor
open Go.RowKit Kr
set_option linter.unusedSimpArgs false

theorem scale_sure_any (b : Bool) (w : World) : Calls Tryz.prog 250 #[.bool b] w fun e w' => e = .returned (.int .u8 (sureR b)) ∧ w.Exts w' := by
  cases b
  all_goals
    go_enter Tryz.func250, Tryz.ntmps250
    go_wp2_with fail
    go_ret
    exact ⟨rfl, exq⟩
set_option maxHeartbeats 400000 in
theorem scale_known_1_any (s o : Span) (b : Nat) (w : World) (h0 : w.cell? ⟨b, 0, none⟩ = some (.int .i64 o.lo)) (h1 : w.cell? ⟨b, 1, none⟩ = some (.int .i64 o.hi)) :
    Calls Tryz.prog 255 #[.agg #[.int .i64 s.lo, .int .i64 s.hi], .pointer (some ⟨b, 0, none⟩)] w fun e w' => e = .returned (.bool (!(decide (s.lo ≤ o.hi) && decide (o.lo ≤ s.hi)))) ∧ w.Exts w' := by
  haveI := Lays.of_cell h0
  rcases Int.lt_or_le s.hi o.lo with hc | hc
  · go_enter Tryz.func255, Tryz.ntmps255
    go_wp2_with fail
    go_ret
    exact ⟨congrArg Ending.returned (congrArg Value.bool (by simp; omega)), exq⟩
  · go_enter Tryz.func255, Tryz.ntmps255
    go_wp2_with fail
    go_ret
    exact ⟨congrArg Ending.returned (congrArg Value.bool (by rw [Bool.eq_iff_iff]; simp; omega)), exq⟩
set_option maxHeartbeats 400000 in
theorem scale_known_2_any (s o : Span) (b : Nat) (w : World) (h0 : w.cell? ⟨b, 0, none⟩ = some (.int .i64 o.lo)) (h1 : w.cell? ⟨b, 1, none⟩ = some (.int .i64 o.hi)) :
    Calls Tryz.prog 256 #[.agg #[.int .i64 s.lo, .int .i64 s.hi], .pointer (some ⟨b, 0, none⟩)] w fun e w' => e = .returned (.bool (insideB o s)) ∧ w.Exts w' := by
  haveI := Lays.of_cell h0
  go_enter Tryz.func256, Tryz.ntmps256
  go_wp2_with (go_at_call 89; refine (scale_in_any o.lo o.hi _ [s.lo, s.hi] _ (row_int2 _ _ _ _ (by simp))).mono ?_; rintro e w' ⟨rfl, X2, rfl⟩)
  go_ret
  exact ⟨rfl, exq⟩
set_option maxHeartbeats 400000 in
theorem scale_known_3_any (s o : Span) (b c : Nat) (w : World) (h0 : w.cell? ⟨b, 0, none⟩ = some (.int .i64 o.lo)) (h1 : w.cell? ⟨b, 1, none⟩ = some (.int .i64 o.hi)) (hc : w.cell? ⟨c, 0, none⟩ = some (.func (.func 255) #[] #[.pointer (some ⟨b, 0, none⟩)])) :
    Calls Tryz.prog 258 #[.agg #[.int .i64 s.lo, .int .i64 s.hi], .pointer (some ⟨c, 0, none⟩)] w fun e w' => e = .returned (.bool (decide (s.lo ≤ o.hi) && decide (o.lo ≤ s.hi))) ∧ w.Exts w' := by
  have hlb := Lays.of_cell h0
  have hlc := Lays.of_cell hc
  go_enter Tryz.func258, Tryz.ntmps258
  go_wp2_with (go_at_call 255; refine (scale_known_1_any s o b _ (by simp [go_sem, h0]) (by simp [go_sem, h1])).mono ?_; rintro e w' ⟨rfl, X2, rfl⟩)
  go_ret
  exact ⟨by simp, exq⟩

set_option maxRecDepth 4000 in
set_option maxHeartbeats 2000000 in
theorem scale_known_any (l : List Span) (o : Span) (v : Value) (w : World) (hrow : IsRow (fun t : Kr.Span => [.int .i64 t.lo, .int .i64 t.hi]) 2 w v l) (hf : Full l) :
    Calls Tryz.prog 248 #[v, .agg #[.int .i64 o.lo, .int .i64 o.hi]] w fun e w' => e = .returned (.int .u8 (knownR l o)) ∧ w.Exts w' := by
  have hrow' := hrow
  obtain ⟨p, b, oo, cap, rfl, hm, hp, hc⟩ := hrow.ex
  have hall := inside_all hf o
  have HALL := Lib.hid hall
  clear hall
  have HR := Lib.hid hrow'
  clear hrow'
  have HP := Lib.hid hp
  clear hp
  have HC := Lib.hid hc
  clear hc
  clear hrow hf
  go_enter Tryz.func248, Tryz.ntmps248
  go_wp2_with fail
  go_loopw [7, 14] (fun kk i wr => ∃ (j : Nat) (ba : Bool), j ≤ l.length ∧ i = .int .i64 j ∧ kk = .int .u8 (if ba then 2 else 0) ∧ Hid (ba = (l.take j).all (insideB o)) ∧ w.Exts wr ∧ wr.cell? ⟨w.heap.size, 0, none⟩ = some (.int .i64 o.lo) ∧ wr.cell? ⟨w.heap.size, 1, none⟩ = some (.int .i64 o.hi) ∧ wr.cell? ⟨w.heap.size + 1, 0, none⟩ = some (.func (.func 255) #[] #[.pointer (some ⟨w.heap.size, 0, none⟩)])) (fun _ i _ => l.length - (intOf i).toNat)
  case atStart => exact ⟨0, true, Nat.zero_le _, rfl, rfl, Lib.hid rfl, exq, by simp [go_sem], by simp [go_sem], by simp [go_sem]⟩
  case round =>
    obtain ⟨j, ba, hj, rfl, rfl, HB, hE, c0, c1, c2⟩ := hrel
    have hl0 := Lays.of_cell c0
    have hl1 := Lays.of_cell c2
    by_cases hlt : j < l.length
    · obtain ⟨rfl, hl⟩ := HP.out (by omega)
      obtain ⟨x, hx⟩ := some_of_lt hlt
      have hcs := HC.out j x hx
      have hd0 := hE.cell (hcs 0 _ rfl)
      have hd1 := hE.cell (hcs 1 _ rfl)
      simp only [Nat.add_zero] at hd0 hd1
      have hlx := Lays.of_cell hd0
      have hnx : (l.take (j + 1)).all (insideB o) = (ba && insideB o x) := by rw [take_snoc hx, List.all_append, ← HB.out]; simp
      have HNX := Lib.hid hnx
      clear hnx
      clear hx hcs HP HC
      cases hin : insideB o x
      all_goals
        have HIN := Lib.hid hin
        clear hin
        go_wp2_with (go_at_call 256; refine (scale_known_2_any x o _ _ (by simp [go_sem, c0]) (by simp [go_sem, c1])).mono ?_; rintro e w' ⟨rfl, X2, rfl⟩; rw [HIN.out])
        go_roundw
      all_goals first
        | exact ⟨j + 1, false, by omega, by go_num, rfl, Lib.hid (by rw [HNX.out, HIN.out]; simp), (exf hE), by simp [go_sem, c0], by simp [go_sem, c1], by simp [go_sem, c2]⟩
        | exact ⟨j + 1, ba, by omega, by go_num, rfl, Lib.hid (by rw [HNX.out, HIN.out]; simp), (exf hE), by simp [go_sem, c0], by simp [go_sem, c1], by simp [go_sem, c2]⟩
        | (simp [intOf]; omega)
    · have hjn : j = l.length := by omega
      have hB := HB.out
      rw [hjn, List.take_length, HALL.out] at hB
      cases ba
      · have hk : knownR l o = if touches l o.lo o.hi = true then 1 else 0 := by unfold knownR; rw [← hB]; rfl
        have HK := Lib.hid hk
        clear hk
        clear hB hjn
        cases ht : touches l o.lo o.hi
        all_goals
          have HT := Lib.hid ht
          clear ht
          go_wp2_with (go_at_call 257; refine (ContainsFunc_Span_any l (fun s => decide (s.lo ≤ o.hi) && decide (o.lo ≤ s.hi)) _ _ _ _ (HR.out.mono (exf hE)) (enters_of Tryz.func258 (by kernel_rfl) rfl) (answers1 fun x _ W hW => scale_known_3_any x o _ _ W (hW.cell c0) (hW.cell c1) (hW.cell c2))).mono ?_; rintro e w' ⟨rfl, X2, rfl⟩; rw [show (l.any fun s => decide (s.lo ≤ o.hi) && decide (o.lo ≤ s.hi)) = touches l o.lo o.hi from rfl, HT.out])
          go_ret
          exact ⟨by rw [HK.out, HT.out]; rfl, (exf hE)⟩
      · have hk : knownR l o = 2 := by unfold knownR; rw [← hB]; rfl
        have HK := Lib.hid hk
        clear hk
        clear hB hjn
        go_wp2_with fail
        go_ret
        exact ⟨by rw [HK.out]; rfl, (exf hE)⟩

set_option maxHeartbeats 1000000 in
theorem scale_normal_any (n : Norm) (w : World) : Calls Tryz.prog 41 #[.agg #[.int .i64 n.total.lo, .int .i64 n.total.hi, .int .i64 n.added, .int .i64 n.warm, .int .i64 n.hard.lo, .int .i64 n.hard.hi, .bool n.stamp]] w fun e w' => e = .returned (.bool (normB n)) ∧ w.Exts w' := by
  cases hA : ordered n.total 0 10000000 <;> cases hB : ordered n.hard 0 2000 <;> cases hC : inAll 0 1000000 [n.added]
  all_goals
    have HA := Lib.hid hA
    have HB := Lib.hid hB
    have HC := Lib.hid hC
    clear hA hB hC
    go_enter Tryz.func41, Tryz.ntmps41
    go_wp2_with (first
      | (go_at_call 88; ((with_reducible refine (scale_ordered_any n.total 0 10000000 _).mono ?_); rintro e w' ⟨rfl, X2, rfl⟩; rw [HA.out]))
      | (go_at_call 88; ((with_reducible refine (scale_ordered_any n.hard 0 2000 _).mono ?_); rintro e w' ⟨rfl, X3, rfl⟩; rw [HB.out]))
      | (go_at_call 89; ((with_reducible refine (scale_in_any 0 1000000 _ [n.added] _ ?hr).mono ?_); (case hr => exact row_int1 _ _ _ (by simp)); rintro e w' ⟨rfl, X4, rfl⟩; rw [HC.out]))
      | (go_at_call 89; ((with_reducible refine (scale_in_any (-1000) 1000 _ [n.warm] _ ?hr).mono ?_); (case hr => exact row_int1 _ _ _ (by simp)); rintro e w' ⟨rfl, X5, rfl⟩)))
    go_ret
    have hA := HA.out
    have hB := HB.out
    have hC := HC.out
    exact ⟨congrArg Ending.returned (congrArg Value.bool (by simp [inAll] at hC; unfold normB; simp [hA, hB, hC, inAll])), exq⟩
end Go.Proofs.YtcickafaomfbmaaGreatDoor

/-
  Walks of the reference of guests: outing.
-/
namespace Go.Proofs.YtcickafaomfbmaaGreatDoor
open Go.RowKit Kr
set_option linter.unusedSimpArgs false
set_option linter.unusedVariables false

end Go.Proofs.YtcickafaomfbmaaGreatDoor

/-
  Walks of the reference of guests: Books, Check.
-/
namespace Go.Proofs.YtcickafaomfbmaaGreatDoor
open Go.RowKit Kr
set_option linter.unusedSimpArgs false
set_option linter.unusedVariables false

/-- A store of many cells into the block that was made last: not opened into stores of one cell. -/
theorem wpList_store_new {P : Program} {ops : Array Oper} {rest : List Oper} {a : Act} {Q : Exit → Act → World → Prop} {t ty : TypeId} {x y : Operand} {pos : String} {after : Array Edge} {w : World} {old cells : Array Value}
    (hx : a.eval x = .pointer (some ⟨w.heap.size, 0, none⟩)) (hy : a.eval y = .agg cells) (hi : (P.info? t).map (·.size) = some cells.size) (ho : old.size = cells.size) (h1 : cells.all (·.oneCell') = true)
    (h : wpList P ops Q rest (a.put none undef) (w.alloc (.cells cells t))) : wpList P ops Q ({ dst := none, op := .store t x y, type := ty, pos := pos, after := after, guard := none } :: rest) a (w.alloc (.cells old t)) := by
  refine wpList_store_row rfl t x y rfl _ cells hx hy t old (heap_alloc_last _ _) hi ho h1 ?_
  rw [World.setRow_alloc_new]
  exact h

end Go.Proofs.YtcickafaomfbmaaGreatDoor
