/-
  Walks of package guest and of its reference: in, within, Has.
-/
import Derived.Test.YtbmackjoiopaiaaGreatDoorGa
import Derived.Test.YtbmackjoiopaiaaGreatDoorSa
namespace Go.Proofs.YtbmackjoiopaiaaGreatDoor
open Go.RowKit Kr
set_option linter.unusedSimpArgs false

theorem guest_in_1_any (n lo hi : Int) (b1 b2 : Nat) (w : World) (h1 : w.cell? ⟨b1, 0, none⟩ = some (.int .i64 lo)) (h2 : w.cell? ⟨b2, 0, none⟩ = some (.int .i64 hi)) :
    Calls Tryz.prog 78 #[.int .i64 n, .pointer (some ⟨b1, 0, none⟩), .pointer (some ⟨b2, 0, none⟩)] w fun e w' => e = .returned (.bool (!inb lo hi n)) ∧ w.Exts w' := by
  by_cases h : n < lo
  all_goals
    go_enter Tryz.func78, Tryz.ntmps78
    go_wp2
    go_ret
    exact ⟨congrArg Ending.returned (congrArg Value.bool (by unfold inb; rw [Bool.eq_iff_iff]; simp; omega)), exq⟩

set_option maxHeartbeats 400000 in
theorem guest_in_any (lo hi : Int) (v : Value) (xs : List Int) (w : World) (hrow : IsRow (fun x : Int => [.int .i64 x]) 1 w v xs) :
    Calls Tryz.prog 44 #[.int .i64 lo, .int .i64 hi, v] w fun e w' => e = .returned (.bool (inAll lo hi xs)) ∧ w.Exts w' := by
  have HR := Lib.hid hrow
  clear hrow
  go_enter Tryz.func44, Tryz.ntmps44
  go_wp2_with (go_at_call 77; refine (ContainsFunc_int_any xs (fun n => !inb lo hi n) _ _ v _ ((HR.out.alloc _).alloc _) (enters_of Tryz.func78 (by kernel_rfl) rfl) (answers2 fun x _ W hW => guest_in_1_any x lo hi _ _ W (hW.cell (by simp)) (hW.cell (by simp)))).mono ?_; rintro e w' ⟨rfl, X2, rfl⟩)
  go_ret
  exact ⟨by rw [inAll_any]; rfl, exq⟩

set_option maxHeartbeats 400000 in
theorem r10_within_any (n lo hi : Int) (w : World) : Calls Tryz.prog 41 #[.int .i64 n, .int .i64 lo, .int .i64 hi] w fun e w' => e = .returned (.bool (inb lo hi n)) ∧ w.Exts w' := by
  rcases Int.lt_or_le n lo with h | h
  · have e : inb lo hi n = false := by unfold inb; simp; omega
    rw [e]
    go_enter Tryz.func41, Tryz.ntmps41
    go_wp2
    go_ret
    exact ⟨rfl, exq⟩
  · have e : inb lo hi n = decide (n ≤ hi) := by unfold inb; simp; omega
    rw [e]
    go_enter Tryz.func41, Tryz.ntmps41
    go_wp2
    go_ret
    exact ⟨rfl, exq⟩

theorem any_part {l : List Int} {k : Nat} {x n : Int} (h : l[k]? = some x) : ((l.take (k + 1)).any fun y => y == n) = ((l.take k).any (fun y => y == n) || x == n) := by
  rw [take_snoc h]; simp

set_option maxHeartbeats 1000000 in
theorem r10_Has_any (l : List Int) (v : Value) (n : Int) (w : World) (hrow : IsRow (fun x : Int => [.int .i64 x]) 1 w v l) (hlen : l.length ≤ 1000000) :
    Calls Tryz.prog 42 #[v, .int .i64 n] w fun e w' => e = .returned (.bool (l.any fun y => y == n)) ∧ w.Exts w' := by
  obtain ⟨p, b, o, cap, rfl, hm, hp, hc⟩ := hrow.ex
  have HP := Lib.hid hp
  clear hp
  have HC := Lib.hid hc
  clear hc
  clear hrow
  go_enter Tryz.func42, Tryz.ntmps42
  go_wp2_with fail
  go_loopw [5] (fun i wr => ∃ k : Nat, k ≤ l.length ∧ i = .int .i64 k ∧ Hid ((l.take k).any (fun y => y == n) = false) ∧ w.Exts wr) (fun i _ => l.length - (intOf i).toNat)
  case atStart => exact ⟨0, Nat.zero_le _, rfl, Lib.hid rfl, exq⟩
  case round =>
    obtain ⟨k, hk, rfl, HU, hE⟩ := hrel
    obtain ⟨X, rfl⟩ := hE
    by_cases hlt : k < l.length
    · obtain ⟨rfl, hl⟩ := HP.out (by omega)
      obtain ⟨x, hx⟩ := some_of_lt hlt
      have hcs := HC.out k x hx 0 _ rfl
      simp only [Nat.mul_one, Nat.add_zero] at hcs
      have hup := any_part (n := n) hx
      rw [HU.out] at hup
      have hall : (x == n) = true → (l.any fun y => y == n) = true := fun h => List.any_eq_true.2 ⟨x, List.mem_of_getElem? hx, h⟩
      cases hq : x == n
      · rw [hq] at hup
        have HUP := Lib.hid hup
        clear hup
        clear hall hx
        go_wp2_with fail
        go_roundw
        case rel => exact ⟨k + 1, by omega, by go_num, Lib.hid HUP.out, exq⟩
        case measure => simp [intOf]; omega
      · have h1 := hall hq
        have H1 := Lib.hid h1
        clear h1
        clear hup hall hx
        go_wp2_with fail
        go_ret
        rw [H1.out]
        exact ⟨rfl, exq⟩
    · have hkn : k = l.length := by omega
      have hU := HU.out
      rw [hkn, List.take_length] at hU
      have HU2 := Lib.hid hU
      clear hU
      clear hkn HU
      go_wp2_with fail
      go_ret
      rw [HU2.out]
      exact ⟨rfl, exq⟩
end Go.Proofs.YtbmackjoiopaiaaGreatDoor
