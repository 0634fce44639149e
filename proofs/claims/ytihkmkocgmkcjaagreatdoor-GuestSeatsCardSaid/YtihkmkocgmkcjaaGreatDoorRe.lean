/-
  Walks of the reference of layer 4: the truths of a scale.
-/
import Derived.Test.YtihkmkocgmkcjaaGreatDoorRx
import Derived.Test.YtihkmkocgmkcjaaGreatDoorBs
namespace Go.Proofs.YtihkmkocgmkcjaaGreatDoor
open Go.RowKit Kr

/-- The inner loop's books: from the first offset to before y. -/
def someB (s : Scale) (g y : Int) : Bool := decide ((offs s g).lo ≤ min (offs s g).hi (y - 1))
def inBooks (s : Scale) (g y lo hi : Int) : Prop := someB s g y = true → lo = (offs s g).lo ∧ hi = min (offs s g).hi (y - 1)
theorem someB_start (s : Scale) (g : Int) : someB s g s.off.lo = false := by
  have := offs_in s g
  unfold someB; simp; omega
theorem someB_hit {s : Scale} {g y : Int} (h : trueB s g y = true) : someB s g (y + 1) = true := by
  have := (trueB_iff s g y).1 h
  unfold someB; simp; omega
theorem someB_miss {s : Scale} {g y : Int} (hg : s.gain.lo ≤ g ∧ g ≤ s.gain.hi) (h : trueB s g y = false) : someB s g (y + 1) = someB s g y ∧ min (offs s g).hi (y + 1 - 1) = min (offs s g).hi (y - 1) ∨ someB s g (y + 1) = false ∧ someB s g y = false := by
  have hn : ¬ ((offs s g).lo ≤ y ∧ y ≤ (offs s g).hi) := fun hc => by
    have := (trueB_iff s g y).2 ⟨hg, hc⟩
    rw [h] at this; cases this
  unfold someB
  by_cases hc : y ≤ (offs s g).hi
  · right; simp; omega
  · left; exact ⟨by rw [Bool.eq_iff_iff]; simp; omega, by omega⟩
theorem books_first {s : Scale} {g y : Int} (h : trueB s g y = true) (hs : someB s g y = false) : inBooks s g (y + 1) y y := fun _ => by
  have := (trueB_iff s g y).1 h
  unfold someB at hs; simp at hs
  omega
theorem books_next {s : Scale} {g y lo hi : Int} (h : trueB s g y = true) (hs : someB s g y = true) (hb : inBooks s g y lo hi) : inBooks s g (y + 1) lo y := fun _ => by
  have := (trueB_iff s g y).1 h
  have := hb hs
  omega
theorem books_miss {s : Scale} {g y lo hi : Int} (hg : s.gain.lo ≤ g ∧ g ≤ s.gain.hi) (h : trueB s g y = false) (hb : inBooks s g y lo hi) : inBooks s g (y + 1) lo hi := fun hs => by
  rcases someB_miss hg h with ⟨h1, h2⟩ | ⟨h1, _⟩
  · rw [h1] at hs; rw [h2]; exact hb hs
  · rw [h1] at hs; cases hs
theorem someB_miss' {s : Scale} {g y : Int} (hg : s.gain.lo ≤ g ∧ g ≤ s.gain.hi) (h : trueB s g y = false) : someB s g (y + 1) = someB s g y := by
  rcases someB_miss hg h with ⟨h1, _⟩ | ⟨h1, h2⟩
  · exact h1
  · rw [h1, h2]
theorem books_end {s : Scale} {g lo hi : Int} (hb : inBooks s g (s.off.hi + 1) lo hi) : tuneAt s g = if someB s g (s.off.hi + 1) then [⟨g, ⟨lo, hi⟩⟩] else [] := by
  have h1 := offs_in s g
  unfold tuneAt
  by_cases hc : (offs s g).lo ≤ (offs s g).hi
  · have hs : someB s g (s.off.hi + 1) = true := by unfold someB; simp; omega
    obtain ⟨rfl, rfl⟩ := hb hs
    rw [if_pos hc, hs, show min (offs s g).hi (s.off.hi + 1 - 1) = (offs s g).hi from by omega]
    rfl
  · have hs : someB s g (s.off.hi + 1) = false := by unfold someB; simp; omega
    rw [if_neg hc, hs]; rfl

theorem elem_Tune : ElemOf Tryz.prog 248 241 (.agg #[.int .i64 0, .int .i64 0, .int .i64 0]) 3 24 := ⟨Tryz.underlying248, by kernel_rfl, rfl, by decide, by decide⟩

def tuneCs (l : List Tune) : List Value := l.flatMap fun t => [.int .i64 t.gain, .int .i64 t.off.lo, .int .i64 t.off.hi]

set_option maxHeartbeats 2000000 in
theorem r04_tunes_any (s : Scale) (tv : Value) (w : World) (hrow : IsRow (fun t : Kr.Trial => [.int .i64 t.weight, .int .i64 t.shown]) 2 w tv s.trials) (hr : right s = true) :
    Calls Tryz.prog 150 #[.agg #[.int .i64 s.id, .int .i64 s.step, .int .i64 s.gain.lo, .int .i64 s.gain.hi, .int .i64 s.off.lo, .int .i64 s.off.hi, tv]] w fun e w' => ∃ v, e = .returned v ∧ w'.ownsRow (w.heap.size + 1) 241 3 v (tunes s).length (tuneCs (tunes s)) ∧ w.Exts w' := by
  obtain ⟨_, hst, hg, ho, _, _⟩ := right_bounds hr
  obtain ⟨p, cap, rfl⟩ := hrow.len
  have HR := Lib.hid hrow
  clear hrow
  have HOK := Lib.hid hr
  clear hr
  go_enter Tryz.func150, Tryz.ntmps150
  go_wp2_with fail
  go_loopw [3, 4] (fun out gain wr => ∃ k : Nat, k ≤ gainN s ∧ gain = .int .i64 (s.gain.lo + k) ∧ Hid (wr.ownsRow (w.heap.size + 1) 241 3 out (tunesN s s.gain.lo k).length (tuneCs (tunesN s s.gain.lo k))) ∧ (w.alloc (.cells #[.int .i64 s.id, .int .i64 s.step, .int .i64 s.gain.lo, .int .i64 s.gain.hi, .int .i64 s.off.lo, .int .i64 s.off.hi, .slice p s.trials.length cap] 84)).Exts wr) (fun _ gain _ => (s.gain.hi + 1 - intOf gain).toNat)
  case atStart => exact ⟨0, Nat.zero_le _, congrArg (Value.int .i64) (by omega), Lib.hid (World.ownsRow_nil _ _ _ _), exq⟩
  case round =>
    obtain ⟨k, hk, rfl, HO, X, rfl⟩ := hrel
    by_cases hlt : s.gain.lo + k ≤ s.gain.hi
    · go_wp2_with fail
      go_loopw [5, 7] (fun so x wr => ∃ y lo hi : Int, s.off.lo ≤ y ∧ y ≤ s.off.hi + 1 ∧ x = .int .i64 y ∧ so = .bool (someB s (s.gain.lo + k) y) ∧ Hid (inBooks s (s.gain.lo + k) y lo hi) ∧ ((w.alloc (.cells #[.int .i64 s.id, .int .i64 s.step, .int .i64 s.gain.lo, .int .i64 s.gain.hi, .int .i64 s.off.lo, .int .i64 s.off.hi, .slice p s.trials.length cap] 84)).ext X).Exts wr ∧ Lays wr ((w.alloc (.cells #[.int .i64 s.id, .int .i64 s.step, .int .i64 s.gain.lo, .int .i64 s.gain.hi, .int .i64 s.off.lo, .int .i64 s.off.hi, .slice p s.trials.length cap] 84)).ext X).heap.size ∧
        wr.cell? ⟨((w.alloc (.cells #[.int .i64 s.id, .int .i64 s.step, .int .i64 s.gain.lo, .int .i64 s.gain.hi, .int .i64 s.off.lo, .int .i64 s.off.hi, .slice p s.trials.length cap] 84)).ext X).heap.size, 0, none⟩ = some (.int .i64 (s.gain.lo + k)) ∧ wr.cell? ⟨((w.alloc (.cells #[.int .i64 s.id, .int .i64 s.step, .int .i64 s.gain.lo, .int .i64 s.gain.hi, .int .i64 s.off.lo, .int .i64 s.off.hi, .slice p s.trials.length cap] 84)).ext X).heap.size, 1, none⟩ = some (.int .i64 lo) ∧ wr.cell? ⟨((w.alloc (.cells #[.int .i64 s.id, .int .i64 s.step, .int .i64 s.gain.lo, .int .i64 s.gain.hi, .int .i64 s.off.lo, .int .i64 s.off.hi, .slice p s.trials.length cap] 84)).ext X).heap.size, 2, none⟩ = some (.int .i64 hi) ∧
        wr.frozen? ⟨((w.alloc (.cells #[.int .i64 s.id, .int .i64 s.step, .int .i64 s.gain.lo, .int .i64 s.gain.hi, .int .i64 s.off.lo, .int .i64 s.off.hi, .slice p s.trials.length cap] 84)).ext X).heap.size, 1, none⟩ = false ∧ wr.frozen? ⟨((w.alloc (.cells #[.int .i64 s.id, .int .i64 s.step, .int .i64 s.gain.lo, .int .i64 s.gain.hi, .int .i64 s.off.lo, .int .i64 s.off.hi, .slice p s.trials.length cap] 84)).ext X).heap.size, 2, none⟩ = false) (fun _ x _ => (s.off.hi + 1 - intOf x).toNat)
      case atStart =>
        exact ⟨s.off.lo, 0, 0, by omega, by omega, rfl, by rw [someB_start], Lib.hid (fun h => by rw [someB_start] at h; cases h), exq, lays_new _ _, by simp, by simp, by simp, by simp, by simp⟩
      case round =>
        obtain ⟨y, lo, hi, hy1, hy2, rfl, rfl, HB, hE, hl, c0, c1, c2, f1, f2⟩ := hrel
        obtain ⟨X1, rfl⟩ := hE
        by_cases hy : y ≤ s.off.hi
        · have hB : ((w.alloc (.cells #[.int .i64 s.id, .int .i64 s.step, .int .i64 s.gain.lo, .int .i64 s.gain.hi, .int .i64 s.off.lo, .int .i64 s.off.hi, .slice p s.trials.length cap] 84)).ext X).heap.size ≤ ((w.alloc (.cells #[.int .i64 s.id, .int .i64 s.step, .int .i64 s.gain.lo, .int .i64 s.gain.hi, .int .i64 s.off.lo, .int .i64 s.off.hi, .slice p s.trials.length cap] 84)).ext X).heap.size := Nat.le_refl _
          cases ht : trueB s (s.gain.lo + k) y
          · have HT := Lib.hid ht
            clear ht
            go_wp2_with (go_at_call 183; refine (r04_True_any s _ _ _ _ (HR.out.mono exq) HOK.out (by omega) (by omega)).mono ?_; rintro e w' ⟨rfl, X2, rfl⟩; rw [HT.out])
            go_roundw
            case rel => exact ⟨y + 1, lo, hi, by omega, by omega, congrArg (Value.int .i64) (by omega), by rw [someB_miss' (by omega) HT.out], Lib.hid (books_miss (by omega) HT.out HB.out), exq, inferInstance, by simp [go_sem, c0], by simp [go_sem, c1], by simp [go_sem, c2], by simp [go_sem, f1], by simp [go_sem, f2]⟩
            case measure => simp [intOf]; omega
          cases hs : someB s (s.gain.lo + k) y
          · have HT := Lib.hid ht
            clear ht
            have HS := Lib.hid hs
            clear hs
            go_wp2_with (go_at_call 183; refine (r04_True_any s _ _ _ _ (HR.out.mono exq) HOK.out (by omega) (by omega)).mono ?_; rintro e w' ⟨rfl, X2, rfl⟩; rw [HT.out])
            go_roundw
            case rel => exact ⟨y + 1, y, y, by omega, by omega, congrArg (Value.int .i64) (by omega), by rw [someB_hit HT.out], Lib.hid (books_first HT.out HS.out), exq, inferInstance, by simp [go_sem, c0], by simp [go_sem, c1], by simp [go_sem, c2], by simp [go_sem, f1], by simp [go_sem, f2]⟩
            case measure => simp [intOf]; omega
          · have HT := Lib.hid ht
            clear ht
            have HS := Lib.hid hs
            clear hs
            go_wp2_with (go_at_call 183; refine (r04_True_any s _ _ _ _ (HR.out.mono exq) HOK.out (by omega) (by omega)).mono ?_; rintro e w' ⟨rfl, X2, rfl⟩; rw [HT.out])
            go_roundw
            case rel => exact ⟨y + 1, lo, y, by omega, by omega, congrArg (Value.int .i64) (by omega), by rw [someB_hit HT.out], Lib.hid (books_next HT.out HS.out HB.out), exq, inferInstance, by simp [go_sem, c0], by simp [go_sem, c1], by simp [go_sem, c2], by simp [go_sem, f1], by simp [go_sem, f2]⟩
            case measure => simp [intOf]; omega
        · obtain rfl : y = s.off.hi + 1 := by omega
          have hend := books_end HB.out
          cases hs : someB s (s.gain.lo + k) (s.off.hi + 1)
          · rw [hs] at hend
            have hnext : tunesN s s.gain.lo (k + 1) = tunesN s s.gain.lo k := by rw [tunesN, hend]; simp
            have HS := Lib.hid hs
            clear hs
            have HN := Lib.hid hnext
            clear hnext
            clear hend
            go_wp2_with fail
            go_roundw
            case rel => exact ⟨k + 1, by unfold gainN; omega, congrArg (Value.int .i64) (by omega), Lib.hid (by rw [HN.out]; exact ownsRow_exts HO.out exq), exq⟩
            case measure => simp [intOf]; omega
          · rw [hs] at hend
            have hnext : tunesN s s.gain.lo (k + 1) = tunesN s s.gain.lo k ++ [⟨s.gain.lo + k, ⟨lo, hi⟩⟩] := by rw [tunesN, hend]; rfl
            have hlen := tunesN_len s s.gain.lo k
            have hown := ownsRow_exts (W := ((w.alloc (.cells #[.int .i64 s.id, .int .i64 s.step, .int .i64 s.gain.lo, .int .i64 s.gain.hi, .int .i64 s.off.lo, .int .i64 s.off.hi, .slice p s.trials.length cap] 84)).ext X).ext X1) HO.out exq
            have HOW := Lib.hid hown
            clear hown
            have HS := Lib.hid hs
            clear hs
            have HN := Lib.hid hnext
            clear hnext
            clear hend
            go_wp2_with (at_builtin; refine wpList_append1 (.tmp 44) (.tmp 46) elem_Tune rfl rfl rfl HOW.out [.int .i64 (s.gain.lo + k), .int .i64 lo, .int .i64 hi] _ rfl rfl rfl ?h1 ?h2 ?h3 ?_)
            case h1 => exact ⟨rfl, rfl, rfl⟩
            case h2 => unfold gainN at hk; omega
            case h3 => exact Nat.le_trans (Nat.le_of_eq (World.size_alloc w _).symm) (World.Exts.size exq)
            intro v' w' hown' happ
            have hE := happ.exts (w.alloc (.cells #[.int .i64 s.id, .int .i64 s.step, .int .i64 s.gain.lo, .int .i64 s.gain.hi, .int .i64 s.off.lo, .int .i64 s.off.hi, .slice p s.trials.length cap] 84)) exq (by simp)
            have HO2 := Lib.hid hown'
            clear hown'
            have HE := Lib.hid hE
            clear hE
            clear happ
            go_wp2_with fail
            go_roundw
            case rel => exact ⟨k + 1, by unfold gainN; omega, congrArg (Value.int .i64) (by omega), Lib.hid (by rw [HN.out]; simpa [tuneCs] using HO2.out), HE.out⟩
            case measure => simp [intOf]; omega
    · have hkn : k = gainN s := by unfold gainN at hk ⊢; omega
      have HK := Lib.hid hkn
      clear hkn
      go_wp2_with fail
      go_ret
      exact ⟨_, rfl, by have h := HO.out; rw [HK.out] at h; exact ownsRow_exts h exq, exq⟩

theorem row_tunes {w : World} {base : Nat} {v : Value} {l : List Tune} (h : w.ownsRow base 241 3 v l.length (tuneCs l)) : IsRow (fun t : Kr.Tune => [.int .i64 t.gain, .int .i64 t.off.lo, .int .i64 t.off.hi]) 3 w v l :=
  IsRow.of_owns h (fun _ _ => rfl)

end Go.Proofs.YtihkmkocgmkcjaaGreatDoor
