/-
  Walks of package guest: refund.
-/
import Derived.Test.YtbmackjoiopaiaaGreatDoorGf
namespace Go.Proofs.YtbmackjoiopaiaaGreatDoor
open Go.RowKit Kr
set_option linter.unusedSimpArgs false

set_option maxHeartbeats 400000 in
theorem IndexFunc_Refund_any (xs : List Kr.Rfd) (p : Kr.Rfd → Bool) (g : Nat) (cb : Array Value) (v : Value) (w : World) (hrow : IsRow (fun r : Kr.Rfd => [.int .i64 r.days, .int .i64 r.part]) 2 w v xs)
    (eg : ∀ args w, (callFunc g args).run Tryz.prog w = .ok (.enter g args) w) (hf : Answers Tryz.prog g cb (fun r => .agg #[.int .i64 r.days, .int .i64 r.part]) w p xs) :
    Calls Tryz.prog 79 #[v, .func (.func g) #[] cb] w fun e w' => e = .returned (.int .i64 (firstAt p xs)) ∧ w.Exts w' := by
  obtain ⟨q, b, o, cap, rfl, hm, hq, hc⟩ := hrow.ex
  have HC := Lib.hid hc
  have HQ := Lib.hid hq
  have HF := Lib.hid hf
  clear hc hq hf hrow
  go_enter Tryz.func79, Tryz.ntmps79
  go_wp2_with fail
  go_loopw [5, 8] (fun _ i wr => ∃ k : Nat, k ≤ xs.length ∧ i = .int .i64 k ∧ Hid (∀ y ∈ xs.take k, p y = false) ∧ w.Exts wr) (fun _ i _ => xs.length - (intOf i).toNat)
  case atStart => exact ⟨0, Nat.zero_le _, rfl, Lib.hid (fun y hy => by simp at hy), World.Exts.refl _⟩
  case round =>
    obtain ⟨k, hk, rfl, HA, X, rfl⟩ := hrel
    by_cases hlt : k < xs.length
    · obtain ⟨rfl, hl⟩ := HQ.out (by omega)
      obtain ⟨x, hx⟩ := some_of_lt hlt
      have hcs := HC.out k x hx
      have c0 := hcs 0 _ rfl
      have c1 := hcs 1 _ rfl
      simp only [Nat.add_zero] at c0 c1
      have hcall := HF.out x (List.mem_of_getElem? hx) _ ⟨X, rfl⟩
      have HX := Lib.hid hx
      clear hx HQ HC HF hcs
      cases hp : p x with
      | true =>
        rw [hp] at hcall
        have HP := Lib.hid hp
        clear hp
        go_wp2_with (go_at_fn g; refine hcall.mono ?_; rintro e w' ⟨rfl, X2, rfl⟩)
        go_ret
        exact ⟨by rw [firstAt_hit HX.out HP.out HA.out]; rfl, exq⟩
      | false =>
        rw [hp] at hcall
        have HP := Lib.hid hp
        clear hp
        go_wp2_with (go_at_fn g; refine hcall.mono ?_; rintro e w' ⟨rfl, X2, rfl⟩)
        go_roundw
        case rel => exact ⟨k + 1, by omega, by go_num, Lib.hid (by rw [take_snoc HX.out]; intro y hy; rcases List.mem_append.1 hy with h | h; exact HA.out y h; rw [List.mem_singleton.1 h]; exact HP.out), exq⟩
        case measure => simp [intOf]; omega
    · have hkn : k = xs.length := by omega
      have hA := HA.out
      rw [hkn, List.take_length] at hA
      have HA' := Lib.hid hA
      clear hA hkn
      go_wp2_with fail
      go_ret
      exact ⟨by rw [firstAt_miss HA'.out]; rfl, exq⟩

set_option maxHeartbeats 400000 in
theorem office_refund_1_any (r : Kr.Rfd) (days : Int) (b : Nat) (w : World) (h : w.cell? ⟨b, 0, none⟩ = some (.int .i64 days)) :
    Calls Tryz.prog 80 #[.agg #[.int .i64 r.days, .int .i64 r.part], .pointer (some ⟨b, 0, none⟩)] w fun e w' => e = .returned (.bool (decide (r.days ≤ days))) ∧ w.Exts w' := by
  have hl := Lays.of_cell h
  go_enter Tryz.func80, Tryz.ntmps80
  go_wp2
  go_ret
  exact ⟨rfl, exq⟩
end Go.Proofs.YtbmackjoiopaiaaGreatDoor
