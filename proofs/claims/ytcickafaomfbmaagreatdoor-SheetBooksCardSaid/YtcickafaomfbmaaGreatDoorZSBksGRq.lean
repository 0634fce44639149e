/-
  Several texts in one: see the heads of its parts.
-/

import Derived.Test.YtcickafaomfbmaaGreatDoorZSBksGiK
import Derived.Test.YtcickafaomfbmaaGreatDoorZSBksGaI
import Derived.Test.YtcickafaomfbmaaGreatDoorZSBksSa
import Derived.Deep.DeepCutAuto
import Derived.Test.YtcickafaomfbmaaGreatDoorZSBksJb
import Derived.Test.YtcickafaomfbmaaGreatDoorZSBksCallsK
/-
  Walks of package guest: Index, Contains; right.
-/
namespace Go.Proofs.YtcickafaomfbmaaGreatDoor
open Go.RowKit Kr
set_option linter.unusedSimpArgs false
set_option linter.unusedVariables false

set_option maxHeartbeats 400000 in
theorem Index_int_any (xs : List Int) (n : Int) (v : Value) (w : World) (hrow : IsRow (fun x : Int => [.int .i64 x]) 1 w v xs) :
    Calls Tryz.prog 55 #[v, .int .i64 n] w fun e w' => e = .returned (.int .i64 (firstAt (fun y => y == n) xs)) ∧ w.Exts w' := by
  obtain ⟨q, b, o, cap, rfl, hm, hq, hc⟩ := hrow.ex
  have HC := Lib.hid hc
  clear hc
  have HQ := Lib.hid hq
  clear hq
  clear hrow
  go_enter Tryz.func55, Tryz.ntmps55
  go_wp2_with fail
  go_loopw [5, 8] (fun _ i wr => ∃ k : Nat, k ≤ xs.length ∧ i = .int .i64 k ∧ Hid (∀ y ∈ xs.take k, (y == n) = false) ∧ w.Exts wr) (fun _ i _ => xs.length - (intOf i).toNat)
  case atStart => exact ⟨0, Nat.zero_le _, rfl, Lib.hid (fun y hy => by simp at hy), World.Exts.refl _⟩
  case round =>
    obtain ⟨k, hk, rfl, HA, X, rfl⟩ := hrel
    by_cases hlt : k < xs.length
    · obtain ⟨rfl, hl⟩ := HQ.out (by omega)
      obtain ⟨x, hx⟩ := some_of_lt hlt
      have hcs := HC.out k x hx
      have c0 := hcs 0 _ rfl
      simp only [Nat.mul_one, Nat.add_zero] at c0
      have HX := Lib.hid hx
      clear hx HQ HC hcs
      cases hp : x == n with
      | true =>
        have HP := Lib.hid hp
        have hp1 : n = x := by have h9 := hp; simp at h9; exact h9.symm
        clear hp
        go_wp2_with fail
        go_ret
        exact ⟨by rw [firstAt_hit HX.out HP.out HA.out]; rfl, exq⟩
      | false =>
        have HP := Lib.hid hp
        have hp1 : decide (n = x) = false := by have h9 := hp; simp at h9; simpa using fun e => h9 e.symm
        have hp2 : (n == x) = false := by have h9 := hp; simp at h9; simpa using fun e => h9 e.symm
        clear hp
        go_wp2_with fail
        go_roundw
        case rel => exact ⟨k + 1, by omega, by go_num, Lib.hid (by rw [take_snoc HX.out]; intro y hy; rcases List.mem_append.1 hy with h | h; exact HA.out y h; rw [List.mem_singleton.1 h]; exact HP.out), exq⟩
        case measure => simp [intOf]; omega
    · have hkn : k = xs.length := by omega
      have hA := HA.out
      rw [hkn, List.take_length] at hA
      have HA' := Lib.hid hA
      clear hA hkn
      go_wp2_with fail
      go_ret
      exact ⟨by rw [firstAt_miss HA'.out]; rfl, exq⟩

set_option maxHeartbeats 400000 in
theorem Contains_int_any (xs : List Int) (n : Int) (v : Value) (w : World) (hrow : IsRow (fun x : Int => [.int .i64 x]) 1 w v xs) :
    Calls Tryz.prog 26 #[v, .int .i64 n] w fun e w' => e = .returned (.bool (xs.any fun y => y == n)) ∧ w.Exts w' := by
  go_enter Tryz.func26, Tryz.ntmps26
  go_wp2_with (go_at_call 55; refine (Index_int_any xs n v _ hrow).mono ?_; rintro e w' ⟨rfl, X2, rfl⟩)
  go_ret
  exact ⟨by rw [← firstAt_nonneg]; rfl, exq⟩

end Go.Proofs.YtcickafaomfbmaaGreatDoor

/-
  The walk of 'right': whether an outing is right.
-/
namespace Go.Proofs.YtcickafaomfbmaaGreatDoor
open Go.RowKit Kr
set_option linter.unusedSimpArgs false
set_option linter.unusedVariables false

end Go.Proofs.YtcickafaomfbmaaGreatDoor

/-
  The walk of 'right': whether an outing is right.
-/
namespace Go.Proofs.YtcickafaomfbmaaGreatDoor
open Go.RowKit Kr
set_option linter.unusedSimpArgs false
set_option linter.unusedVariables false

end Go.Proofs.YtcickafaomfbmaaGreatDoor
