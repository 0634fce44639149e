/-
  Walks of package guest: sum.
-/
import Derived.Test.YtihkmkocgmkcjaaGreatDoorGc
namespace Go.Proofs.YtihkmkocgmkcjaaGreatDoor
open Go.RowKit Kr
set_option linter.unusedSimpArgs false

theorem sum_part {l : List Int} {k : Nat} {x : Int} (h : l[k]? = some x) : (l.take (k + 1)).sum = (l.take k).sum + x := by
  rw [take_snoc h, List.sum_append]; simp
theorem sum_bdN {M : Int} (hM : 0 ≤ M) : ∀ (l : List Int), (∀ x ∈ l, 0 ≤ x ∧ x ≤ M) → 0 ≤ l.sum ∧ l.sum ≤ M * (l.length : Int)
  | [], _ => by simp
  | x :: l, h => by
    have h1 := sum_bdN hM l fun y hy => h y (List.mem_cons_of_mem _ hy)
    have h2 := h x (List.mem_cons_self ..)
    rw [List.sum_cons, List.length_cons, Int.natCast_succ, Int.mul_add, Int.mul_one]
    omega

set_option maxHeartbeats 1000000 in
theorem guest_sum_int_any (l : List Int) (g : Nat) (v : Value) (w : World) (hrow : IsRow (fun x : Int => [.int .i64 x]) 1 w v l) (eg : ∀ args w, (callFunc g args).run Tryz.prog w = .ok (.enter g args) w)
    (hf : ∀ (x : Int) (W : World), Calls Tryz.prog g #[.int .i64 x] W fun e W' => e = .returned (.int .i64 x) ∧ W.Exts W') (hb : ∀ x ∈ l, 0 ≤ x ∧ x ≤ 1000000000000) (hn : l.length ≤ 1000) :
    Calls Tryz.prog 117 #[v, .func (.func g) #[] #[]] w fun e w' => e = .returned (.int .i64 l.sum) ∧ w.Exts w' := by
  obtain ⟨q, b, o, cap, rfl, hm, hq, hc⟩ := hrow.ex
  have hbd := fun k => sum_bdN (M := 1000000000000) (by omega) (l.take k) fun x hx => hb x (List.mem_of_mem_take hx)
  have HC := Lib.hid hc
  clear hc
  have HQ := Lib.hid hq
  clear hq
  have HF := Lib.hid hf
  clear hf
  have HB := Lib.hid hb
  clear hb
  have HBD := Lib.hid hbd
  clear hbd
  clear hrow
  go_enter Tryz.func117, Tryz.ntmps117
  go_wp2_with fail
  go_loopw [10, 5] (fun i s wr => ∃ k : Nat, k ≤ l.length ∧ i = .int .i64 k ∧ s = .int .i64 (l.take k).sum ∧ w.Exts wr) (fun i _ _ => l.length - (intOf i).toNat)
  case atStart => exact ⟨0, Nat.zero_le _, rfl, rfl, World.Exts.refl _⟩
  case round =>
    obtain ⟨k, hk, rfl, rfl, hE⟩ := hrel
    obtain ⟨X, rfl⟩ := hE
    have hb1 := HBD.out k
    have hkl : (l.take k).length = k := by rw [List.length_take]; omega
    rw [hkl] at hb1
    rcases Nat.lt_or_ge k l.length with hlt | hge
    · obtain ⟨rfl, hl⟩ := HQ.out (by omega)
      obtain ⟨x, hx⟩ := some_of_lt hlt
      have hcs := HC.out k x hx 0 _ rfl
      simp only [Nat.mul_one, Nat.add_zero] at hcs
      have hxb := HB.out x (List.mem_of_getElem? hx)
      have hsn := sum_part hx
      have hcall := HF.out x (w.ext X)
      obtain ⟨sk, hsk⟩ : ∃ z, (l.take k).sum = z := ⟨_, rfl⟩
      rw [hsk] at hb1 hsn ⊢
      have HSN := Lib.hid hsn
      clear hsn
      clear hx hkl HB HF HBD hsk
      go_wp2_with (go_at_fn g; refine hcall.mono ?_; rintro e w' ⟨rfl, X2, rfl⟩)
      go_roundw
      case rel => exact ⟨k + 1, by omega, by go_num, by rw [HSN.out], exq⟩
      case measure => simp [intOf]; omega
    · have hkn : k = l.length := by omega
      have e : (l.take k).sum = l.sum := by rw [hkn, List.take_length]
      rw [e]
      go_wp2_with fail
      go_ret
      exact ⟨rfl, exq⟩

set_option maxHeartbeats 400000 in
theorem guest_Check_1_any (x : Int) (w : World) : Calls Tryz.prog 118 #[.int .i64 x] w fun e w' => e = .returned (.int .i64 x) ∧ w.Exts w' := by
  go_enter Tryz.func118, Tryz.ntmps118
  go_wp2
  go_ret
  exact ⟨rfl, exq⟩
set_option maxHeartbeats 400000 in
theorem guest_Check_2_any (x : Int) (w : World) : Calls Tryz.prog 124 #[.int .i64 x] w fun e w' => e = .returned (.int .i64 x) ∧ w.Exts w' := by
  go_enter Tryz.func124, Tryz.ntmps124
  go_wp2
  go_ret
  exact ⟨rfl, exq⟩
end Go.Proofs.YtihkmkocgmkcjaaGreatDoor
