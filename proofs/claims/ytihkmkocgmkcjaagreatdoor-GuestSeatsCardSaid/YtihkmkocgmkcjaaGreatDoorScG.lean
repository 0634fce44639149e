/-
  Walks of package scale: Tunes, by slices.Collect over the iterator.
-/
import Derived.Test.YtihkmkocgmkcjaaGreatDoorScF
import Derived.RangeFuncBox
import Derived.Maps.AppendAt
import Derived.Test.YtihkmkocgmkcjaaGreatDoorRe
namespace Go.Proofs.YtihkmkocgmkcjaaGreatDoor
open Go.RowKit Go.Shelf Kr

attribute [local go_sem] Oper.semAt_some

set_option maxHeartbeats 400000 in
theorem scale_tunes_any (s : Scale) (tv : Value) (w : World) (hrow : IsRow (fun t : Kr.Trial => [.int .i64 t.weight, .int .i64 t.shown]) 2 w tv s.trials) :
    Calls Tryz.prog 144 #[.agg #[.int .i64 s.id, .int .i64 s.step, .int .i64 s.gain.lo, .int .i64 s.gain.hi, .int .i64 s.off.lo, .int .i64 s.off.hi, tv]] w fun e w' => e = .returned (.func (.func 180) #[] #[.pointer (some ⟨w.heap.size, 0, none⟩)]) ∧ w' = w.alloc (.cells #[.int .i64 s.id, .int .i64 s.step, .int .i64 s.gain.lo, .int .i64 s.gain.hi, .int .i64 s.off.lo, .int .i64 s.off.hi, tv] 84) := by
  obtain ⟨p, cap, rfl⟩ := hrow.len
  go_enter Tryz.func144, Tryz.ntmps144
  go_wp2_with fail
  go_ret
  exact ⟨rfl, rfl⟩

/-- The iterator's contract, where it was just made. -/
theorem tunes_seq (n : Nat) (s : Scale) (tv : Value) (w : World) (hr : right s = true) (hrow : IsRow (fun t : Kr.Trial => [.int .i64 t.weight, .int .i64 t.shown]) 2 w tv s.trials) :
    SeqStopsK Fence.wide n Tryz.prog 180 #[.pointer (some ⟨w.heap.size, 0, none⟩)] encT (Below (w.alloc (.cells #[.int .i64 s.id, .int .i64 s.step, .int .i64 s.gain.lo, .int .i64 s.gain.hi, .int .i64 s.off.lo, .int .i64 s.off.hi, tv] 84)).heap.size) (fun xs => xs.map Subtype.val = tunes s) (fun _ => True) 21 (w.alloc (.cells #[.int .i64 s.id, .int .i64 s.step, .int .i64 s.gain.lo, .int .i64 s.gain.hi, .int .i64 s.off.lo, .int .i64 s.off.hi, tv] 84)) :=
  seqStopsK_mono (fun _ _ h => KeepsScale.of_below (by simp) (by simp) h) (scale_tunes_1_stops n s tv w.heap.size w _ hr ((World.Exts.refl w).alloc _) (World.alloc_heap_new w _) hrow)

end Go.Proofs.YtihkmkocgmkcjaaGreatDoor
