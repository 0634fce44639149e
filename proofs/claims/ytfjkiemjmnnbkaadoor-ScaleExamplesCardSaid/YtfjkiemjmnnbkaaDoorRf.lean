/-
  Several texts in one: see the heads of its parts.
-/
import Derived.Test.YtfjkiemjmnnbkaaDoorRe

/-
  Walks of the reference of layer 4: Tunes, Reads.
-/
namespace Go.Proofs.YtfjkiemjmnnbkaaDoor
open Go.RowKit Kr

end Go.Proofs.YtfjkiemjmnnbkaaDoor

/-
  Walks of the reference of layer 4: a twin of a scale; whether tunes, bays are the same.
-/
namespace Go.Proofs.YtfjkiemjmnnbkaaDoor
open Go.RowKit Kr

theorem elem_Trial : ElemOf Tryd.prog 32 48 (.agg #[.int .i64 0, .int .i64 0]) 2 16 := ⟨Tryd.underlying32, by kernel_rfl, rfl, by decide, by decide⟩

set_option maxHeartbeats 400000 in
/-- Two rows of the same tunes are the same. -/
theorem r04_SameTunes_any (l : List Tune) (v1 v2 : Value) (w : World) (h1 : IsRow (fun t : Kr.Tune => [.int .i64 t.gain, .int .i64 t.off.lo, .int .i64 t.off.hi]) 3 w v1 l) (h2 : IsRow (fun t : Kr.Tune => [.int .i64 t.gain, .int .i64 t.off.lo, .int .i64 t.off.hi]) 3 w v2 l) :
    Calls Tryd.prog 23 #[v1, v2] w fun e w' => e = .returned (.bool true) ∧ w.Exts w' := by
  obtain ⟨p1, b1, o1, cap1, rfl, hm, hp1, hc1⟩ := h1.ex
  obtain ⟨p2, b2, o2, cap2, rfl, _, hp2, hc2⟩ := h2.ex
  have HC1 := Lib.hid hc1
  clear hc1
  have HC2 := Lib.hid hc2
  clear hc2
  clear h1 h2
  go_enter Tryd.func23, Tryd.ntmps23
  go_wp2_with fail
  go_loopw [5] (fun i wr => ∃ k : Nat, k ≤ l.length ∧ i = .int .i64 k ∧ w.Exts wr) (fun i _ => l.length - (intOf i).toNat)
  case atStart => exact ⟨0, Nat.zero_le _, rfl, exq⟩
  case round =>
    obtain ⟨k, hk, rfl, X, rfl⟩ := hrel
    by_cases hlt : k < l.length
    · obtain ⟨rfl, hl1⟩ := hp1 (by omega)
      obtain ⟨rfl, hl2⟩ := hp2 (by omega)
      obtain ⟨x, hx⟩ := some_of_lt hlt
      have c1 := HC1.out k x hx
      have c2 := HC2.out k x hx
      have c10 := c1 0 _ rfl
      have c11 := c1 1 _ rfl
      have c12 := c1 2 _ rfl
      have c20 := c2 0 _ rfl
      have c21 := c2 1 _ rfl
      have c22 := c2 2 _ rfl
      simp only [Nat.add_zero] at c10 c11 c12 c20 c21 c22
      clear hx c1 c2 hp1 hp2
      go_wp2_with fail
      refine wp_region_ext (by kernel_rfl) (by kernel_rfl) ?_
      repeat (go_big_quiet_step (fail))
      refine wpQuiet_nil ?_
      rintro _ ⟨X, rfl⟩
      go_wp2_with fail
      go_roundw
      case rel => exact ⟨k + 1, by omega, by go_num, exq⟩
      case measure => simp [intOf]; omega
    · go_wp2_with fail
      go_ret
      exact ⟨rfl, exq⟩

end Go.Proofs.YtfjkiemjmnnbkaaDoor
