/-
  Walks: the library's IndexFunc and ContainsFunc at the element types that this program uses.
-/
import Derived.Test.YtcickafaomfbmaaGreatDoorRows
import Derived.Test.YtcickafaomfbmaaGreatDoorZSBksBs
namespace Go.Proofs.YtcickafaomfbmaaGreatDoor
open Go.RowKit

set_option maxHeartbeats 400000 in
theorem IndexFunc_int_any (xs : List Int) (p : Int → Bool) (g : Nat) (cb : Array Value) (v : Value) (w : World) (hrow : IsRow (fun x : Int => [.int .i64 x]) 1 w v xs)
    (eg : ∀ args w, (callFunc g args).run Tryz.prog w = .ok (.enter g args) w) (hf : Answers Tryz.prog g cb (fun x => .int .i64 x) w p xs) :
    Calls Tryz.prog 119 #[v, .func (.func g) #[] cb] w fun e w' => e = .returned (.int .i64 (firstAt p xs)) ∧ w.Exts w' := by
  obtain ⟨q, b, o, cap, rfl, hm, hq, hc⟩ := hrow.ex
  have HC := Lib.hid hc
  have HQ := Lib.hid hq
  have HF := Lib.hid hf
  clear hc hq hf hrow
  go_enter Tryz.func119, Tryz.ntmps119
  go_wp2_with fail
  go_loopw [5, 8] (fun _ i wr => ∃ k : Nat, k ≤ xs.length ∧ i = .int .i64 k ∧ Hid (∀ y ∈ xs.take k, p y = false) ∧ w.Exts wr) (fun _ i _ => xs.length - (intOf i).toNat)
  case atStart => exact ⟨0, Nat.zero_le _, rfl, Lib.hid (fun y hy => by simp at hy), World.Exts.refl _⟩
  case round =>
    obtain ⟨k, hk, rfl, HA, X, rfl⟩ := hrel
    by_cases hlt : k < xs.length
    · obtain ⟨rfl, hl⟩ := HQ.out (by omega)
      obtain ⟨x, hx⟩ := some_of_lt hlt
      have hcs := HC.out k x hx
      have c0 := hcs 0 _ rfl
      simp only [Nat.mul_one, Nat.add_zero] at c0
      have hcall := HF.out x (List.mem_of_getElem? hx) _ ⟨X, rfl⟩
      have HX := Lib.hid hx
      clear hx HQ HC HF hcs
      cases hp : p x with
      | true =>
        rw [hp] at hcall
        have HP := Lib.hid hp
        clear hp
        go_wp2_with (go_at_fn g; refine hcall.mono ?_; rintro e w' ⟨rfl, X2, rfl⟩)
        go_ret
        exact ⟨by rw [firstAt_hit HX.out HP.out HA.out]; rfl, exq⟩
      | false =>
        rw [hp] at hcall
        have HP := Lib.hid hp
        clear hp
        go_wp2_with (go_at_fn g; refine hcall.mono ?_; rintro e w' ⟨rfl, X2, rfl⟩)
        go_roundw
        case rel => exact ⟨k + 1, by omega, by go_num, Lib.hid (by rw [take_snoc HX.out]; intro y hy; rcases List.mem_append.1 hy with h | h; exact HA.out y h; rw [List.mem_singleton.1 h]; exact HP.out), exq⟩
        case measure => simp [intOf]; omega
    · have hkn : k = xs.length := by omega
      have hA := HA.out
      rw [hkn, List.take_length] at hA
      have HA' := Lib.hid hA
      clear hA hkn
      go_wp2_with fail
      go_ret
      exact ⟨by rw [firstAt_miss HA'.out]; rfl, exq⟩
set_option maxHeartbeats 400000 in
theorem ContainsFunc_int_any (xs : List Int) (p : Int → Bool) (g : Nat) (cb : Array Value) (v : Value) (w : World) (hrow : IsRow (fun x : Int => [.int .i64 x]) 1 w v xs)
    (eg : ∀ args w, (callFunc g args).run Tryz.prog w = .ok (.enter g args) w) (hf : Answers Tryz.prog g cb (fun x => .int .i64 x) w p xs) :
    Calls Tryz.prog 82 #[v, .func (.func g) #[] cb] w fun e w' => e = .returned (.bool (xs.any p)) ∧ w.Exts w' := by
  have HF := Lib.hid hf
  clear hf
  go_enter Tryz.func82, Tryz.ntmps82
  go_wp2_with (go_at_call 119; refine (IndexFunc_int_any xs p g cb v _ hrow eg HF.out).mono ?_; rintro e w' ⟨rfl, X2, rfl⟩)
  go_ret
  exact ⟨by rw [← firstAt_nonneg]; rfl, exq⟩
end Go.Proofs.YtcickafaomfbmaaGreatDoor
