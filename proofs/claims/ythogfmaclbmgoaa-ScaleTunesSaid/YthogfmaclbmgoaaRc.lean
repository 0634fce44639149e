/-
  Walks of the reference of layer 4: a bay, gear, what is great.
-/
import Derived.Test.YthogfmaclbmgoaaRb
namespace Go.Proofs.Ythogfmaclbmgoaa
open Go.RowKit Kr

theorem at_eq (ts : List (Kr.Scale × Value)) (id : Int) : at_ (ts.map Prod.fst) id = firstAt (fun x => x.1.id == id) ts := by
  unfold at_ firstAt
  rw [List.findIdx?_map]
  rfl

set_option maxHeartbeats 400000 in
theorem r04_At_any (ts : List (Kr.Scale × Value)) (v : Value) (id : Int) (w : World) (hrow : BayAt w v ts) :
    Calls Try.prog 40 #[.agg #[v], .int .i64 id] w fun e w' => e = .returned (.int .i64 (firstAt (fun x => x.1.id == id) ts)) ∧ w.Exts w' := by
  obtain ⟨p, b, o, cap, rfl, hm, hp, hc⟩ := hrow.row.ex
  have HC := Lib.hid hc
  clear hc
  have HP := Lib.hid hp
  clear hp
  clear hrow
  go_enter Try.func40, Try.ntmps40
  go_wp2_with fail
  go_loopw [5] (fun i wr => ∃ k : Nat, k ≤ ts.length ∧ i = .int .i64 k ∧ Hid (∀ y ∈ ts.take k, (y.1.id == id) = false) ∧ (w.alloc (.cells #[.slice p ts.length cap] 24)).Exts wr) (fun i _ => ts.length - (intOf i).toNat)
  case atStart => exact ⟨0, Nat.zero_le _, rfl, Lib.hid (fun y hy => by simp at hy), (by repeat' (first | with_reducible exact World.Exts.refl _ | with_reducible refine World.Exts.alloc ?_ _ | with_reducible refine World.Exts.drew ?_ | with_reducible refine World.Exts.drewN ?_ _ | with_reducible refine World.Exts.ext ?_ _ | with_reducible refine World.Exts.setCell ?_ ?_ _ | (simp; done) | exact World.size_ext_le _ _ | (simp; omega)))⟩
  case round =>
    obtain ⟨k, hk, rfl, HA, X, rfl⟩ := hrel
    by_cases hlt : k < ts.length
    · obtain ⟨rfl, hl⟩ := HP.out (by omega)
      obtain ⟨x, hx⟩ := some_of_lt hlt
      have hcs := HC.out k x hx
      have c0 := hcs 0 _ rfl
      simp only [Nat.add_zero] at c0
      have HI := Lib.hid hx
      clear hx
      clear hcs HP
      go_wp2_with fail
      · have hs : (x.1.id == id) = true := by assumption
        go_ret
        exact ⟨by rw [firstAt_hit HI.out hs HA.out]; rfl, (by repeat' (first | with_reducible exact World.Exts.refl _ | with_reducible refine World.Exts.alloc ?_ _ | with_reducible refine World.Exts.drew ?_ | with_reducible refine World.Exts.drewN ?_ _ | with_reducible refine World.Exts.ext ?_ _ | with_reducible refine World.Exts.setCell ?_ ?_ _ | (simp; done) | exact World.size_ext_le _ _ | (simp; omega)))⟩
      · have hs : (x.1.id == id) = false := by assumption
        go_roundw
        case rel => exact ⟨k + 1, by omega, by go_num, Lib.hid (by rw [take_snoc HI.out]; intro y hy; rcases List.mem_append.1 hy with h | h; exact HA.out y h; rw [List.mem_singleton.1 h]; exact hs), (by repeat' (first | with_reducible exact World.Exts.refl _ | with_reducible refine World.Exts.alloc ?_ _ | with_reducible refine World.Exts.drew ?_ | with_reducible refine World.Exts.drewN ?_ _ | with_reducible refine World.Exts.ext ?_ _ | with_reducible refine World.Exts.setCell ?_ ?_ _ | (simp; done) | exact World.size_ext_le _ _ | (simp; omega)))⟩
        case measure => simp [intOf]; omega
    · have hkn : k = ts.length := by omega
      have hA := HA.out
      rw [hkn, List.take_length] at hA
      have HA2 := Lib.hid hA
      clear hA
      clear hkn
      go_wp2_with fail
      go_ret
      exact ⟨by rw [firstAt_miss HA2.out]; rfl, (by repeat' (first | with_reducible exact World.Exts.refl _ | with_reducible refine World.Exts.alloc ?_ _ | with_reducible refine World.Exts.drew ?_ | with_reducible refine World.Exts.drewN ?_ _ | with_reducible refine World.Exts.ext ?_ _ | with_reducible refine World.Exts.setCell ?_ ?_ _ | (simp; done) | exact World.size_ext_le _ _ | (simp; omega)))⟩

set_option maxHeartbeats 1000000 in
theorem r04_Bare_any (g : Gear) (lv rv sv : Value) (w : World) (hr : IsRow (fun x : Int => [.int .i64 x]) 1 w rv g.runners) (hs : IsRow (fun x : Int => [.int .i64 x]) 1 w sv g.strokes) :
    Calls Try.prog 41 #[.agg #[lv, .int .i64 g.added, .int .i64 g.base, .int .i64 g.jitter, rv, sv, .int .i64 g.spread, .bool g.stamp]] w fun e w' => e = .returned (.bool (bare g)) ∧ w.Exts w' := by
  have HR := Lib.hid hr
  clear hr
  have HS := Lib.hid hs
  clear hs
  cases h1 : inb 0 1000000 g.added
  case' true => cases h2 : inb (-1000) 1000 g.base
  case' true.true => cases h3 : inb 0 1000 g.jitter
  case' true.true.true => cases h4 : inAll (-1000) 1000 g.runners && decide ((g.runners.length : Int) ≤ 8)
  case' true.true.true.true => cases h5 : inAll 0 2000 g.strokes && decide ((g.strokes.length : Int) ≤ 8)
  all_goals
    have hfin : bare g = (inb 0 1000000 g.added && inb (-1000) 1000 g.base && inb 0 1000 g.jitter && (inAll (-1000) 1000 g.runners && decide ((g.runners.length : Int) ≤ 8)) && (inAll 0 2000 g.strokes && decide ((g.strokes.length : Int) ≤ 8)) && inb 0 2000 g.spread) := by
      unfold bare; rw [show decide (g.runners.length ≤ 8) = decide ((g.runners.length : Int) ≤ 8) from by rw [Bool.eq_iff_iff]; simp; omega, show decide (g.strokes.length ≤ 8) = decide ((g.strokes.length : Int) ≤ 8) from by rw [Bool.eq_iff_iff]; simp; omega]
    rw [h1] at hfin
    try rw [h2] at hfin
    try rw [h3] at hfin
    try rw [h4] at hfin
    try rw [h5] at hfin
    simp only [Bool.true_and, Bool.false_and] at hfin
    have H1 := Lib.hid h1
    try have H2 := Lib.hid h2
    try have H3 := Lib.hid h3
    try have H4 := Lib.hid h4
    try have H5 := Lib.hid h5
    have HF := Lib.hid hfin
    clear h1 hfin
    try clear h2
    try clear h3
    try clear h4
    try clear h5
    go_enter Try.func41, Try.ntmps41
    go_wp2_with (first
      | (go_at_call 21; refine (r04_within_any _ _ _ _).mono ?_; rintro e w' ⟨rfl, X2, rfl⟩; try first | rw [H1.out] | rw [H2.out] | rw [H3.out])
      | (go_at_call 48; ((with_reducible refine (r04_numbers_any g.runners _ _ _ _ _ (HR.out.mono (by repeat' (first | with_reducible exact World.Exts.refl _ | with_reducible refine World.Exts.alloc ?_ _ | with_reducible refine World.Exts.drew ?_ | with_reducible refine World.Exts.drewN ?_ _ | with_reducible refine World.Exts.ext ?_ _ | with_reducible refine World.Exts.setCell ?_ ?_ _ | (simp; done) | exact World.size_ext_le _ _ | (simp; omega))))).mono ?_); rintro e w' ⟨rfl, X2, rfl⟩; rw [H4.out]))
      | (go_at_call 48; ((with_reducible refine (r04_numbers_any g.strokes _ _ _ _ _ (HS.out.mono (by repeat' (first | with_reducible exact World.Exts.refl _ | with_reducible refine World.Exts.alloc ?_ _ | with_reducible refine World.Exts.drew ?_ | with_reducible refine World.Exts.drewN ?_ _ | with_reducible refine World.Exts.ext ?_ _ | with_reducible refine World.Exts.setCell ?_ ?_ _ | (simp; done) | exact World.size_ext_le _ _ | (simp; omega))))).mono ?_); rintro e w' ⟨rfl, X2, rfl⟩; rw [H5.out])))
    go_ret
    exact ⟨by rw [HF.out]; rfl, (by repeat' (first | with_reducible exact World.Exts.refl _ | with_reducible refine World.Exts.alloc ?_ _ | with_reducible refine World.Exts.drew ?_ | with_reducible refine World.Exts.drewN ?_ _ | with_reducible refine World.Exts.ext ?_ _ | with_reducible refine World.Exts.setCell ?_ ?_ _ | (simp; done) | exact World.size_ext_le _ _ | (simp; omega)))⟩
end Go.Proofs.Ythogfmaclbmgoaa
