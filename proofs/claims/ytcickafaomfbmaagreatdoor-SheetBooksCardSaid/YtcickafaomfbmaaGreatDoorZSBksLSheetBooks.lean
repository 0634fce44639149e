/-
  'Rows.SheetBooksSaid': for every input SheetBooks returns true, and the input reads as it read.
-/
import Derived.Test.YtcickafaomfbmaaGreatDoorZSBksIbR
import Derived.Test.YtcickafaomfbmaaGreatDoorZSBksUw
import Derived.Test.YtcickafaomfbmaaGreatDoorZSBksLaidB
import Derived.Test.YtcickafaomfbmaaGreatDoorTie
import Derived.Test.YtcickafaomfbmaaGreatDoorCards
import Derived.LaidMore
import Derived.Stop.Joined
import Derived.SevenTiedAt
import Derived.ProofKit
import Derived.OpenShut
import Derived.ChangeOld
import Derived.Below
import Derived.Test.YtcickafaomfbmaaGreatDoorZSBksLSBooksf
namespace Go.Proofs.YtcickafaomfbmaaGreatDoor.lawSheetBooks
open Go.ChangeShapes Go.WideShapes Go.ChangeAt Go.RowKit Kr
set_option linter.unusedVariables false

theorem own : ownKnob (Tryz.prog).godebug = none := by kernel_rfl
theorem laidOut : laidOutB Tryz.prog = true := by kernel_rfl

set_option maxRecDepth 100000 in
theorem lifted (os : Os) (started : os.Started) (H : Type) (enc : TypeId × Value → H) :
    ReturnsInHanded {} Tryz.checked os 3 .any (fun w args => (Rows.sheetBooksSpec.pre enc Tryz.prog Tryz.f3 [] false w args ∧ laidMetH Tryz.prog laidBooks w) ∧ sizedMet enc Tryz.prog Tryz.f3 (OpenSpec.ofChange Rows.sheetBooksSpec) false w args)
      (Rows.sheetBooksSpec.post enc Tryz.prog Tryz.f3 false true false false) := by
  refine handed_and_shape (C := Tryz.checked) (X := fun w _ => laidMetH Tryz.prog laidBooks w) (fun _ _ _ hh h => h.of_heap hh) own started (by kernel_rfl) Tryz.func3
    (ChangeSpec.witness_shaped (enc := enc) (C := Tryz.checked) (os := os) (X := fun w _ => laidMetH Tryz.prog laidBooks w) false (pinnedWorld os) #[.agg #[.slice none 0 0, .slice none 0 0, .slice none 0 0, .int .i64 0, .int .i64 0, .int .i64 0, .int .i64 0, .int .i64 0, .int .i64 0, .int .i64 0], .slice none 0 0] 8 rfl (World.shaped_of_RefB (by kernel_rfl) (by kernel_rfl)) (by kernel_rfl) (by kernel_rfl) (by kernel_rfl) (door_met7 os _)) ?_
  intro W base args ds gs before hval0 hW hL hsh
  have hval : ∀ (j : Nat) t v, (Tryz.f3).params[j]? = some t → args[j]? = some v → Value.okWide Tryz.prog W .any base t v := hval0
  have hW' := hW
  obtain ⟨p, q, hA0, hV, rfl, hfz, hnd⟩ := hW
  have hA : DataW.TrodAll enc Tryz.prog W 0 (fun _ => true) true (Tryz.f3).params.toList args.toList ds p := hA0
  rw [Tryz.params3] at hA hval
  obtain ⟨v0, vs0, d0, ds0, p0, q0, hargs, rfl, rfl, h0, r0⟩ := trodAll_cons hA
  obtain ⟨v1, vs1, d1, ds1, p1, q1, rfl, rfl, rfl, h1, r1⟩ := trodAll_cons r0
  obtain ⟨rfl, rfl, rfl⟩ := trodAll_nil r1
  obtain rfl : args = #[v0, v1] := by cases args; simp_all
  obtain ⟨rfl, rfl⟩ := trodVars_none hV
  have k0 := h0
  have lt0 : ∀ x ∈ p0, x.block < W.heap.size := by obtain ⟨m, hm⟩ := k0; exact DataW.trod_lt m _ _ _ hm
  have k1 := h1
  have lt1 : ∀ x ∈ p1, x.block < W.heap.size := by obtain ⟨m, hm⟩ := k1; exact DataW.trod_lt m _ _ _ hm
  obtain ⟨c, rfl, hc1, hc2⟩ : ∃ y : Kr.Cover × CoverV, v0 = .agg #[y.2.t, y.2.b, y.2.h, .int .i64 y.1.wear.lo, .int .i64 y.1.wear.hi, .int .i64 y.1.layer.lo, .int .i64 y.1.layer.hi, .int .i64 y.1.rate, .int .i64 y.1.limit, .int .i64 y.1.base] ∧ CoverAt W y.1 y.2 ∧ ∀ s ∈ y.1.track, 0 ≤ s.side ∧ s.side ≤ 255 := by
    obtain ⟨fuel, hf⟩ := h0
    obtain ⟨y, e, hy⟩ := reads_Cover fuel _ _ hf
    obtain ⟨cs, rfl⟩ := okWide_struct Tryz.underlying30 (hval 0 30 v0 rfl rfl)
    exact ⟨y, congrArg Value.agg (Array.toList_inj.1 (by simpa [Value.cells] using e)), hy⟩
  obtain ⟨plan, rfl, hplan⟩ : ∃ x : Value × List (List Int × Value), v1 = x.1 ∧ ListsAt W x.1 x.2 := by
    obtain ⟨fuel, hf⟩ := h1
    obtain ⟨y, e, hy⟩ := reads_Lists fuel _ _ hf
    obtain ⟨a, len, cap, rfl⟩ := okWide_slice Tryz.underlying31 (hval 1 31 v1 rfl rfl)
    exact ⟨y, by simpa [Value.cells] using e, hy⟩
  clear hA0 hval0
  refine (l11_SheetBooks_any c.1 c.2 plan.2 plan.1 W hc1 hc2 hplan (lib_of_laidBooks hL hsh) (lims_of_laidB hL)).mono fun e W' ⟨he, bel⟩ => ?_
  subst he
  have bel := bel.below
  exact ⟨_, rfl, _, _, _, [], _, [], hW', trodAll_mk1 (shut_bool Tryz.underlying4 _), (trodAll_cons_mk (Below.trod laidOut (by kernel_rfl) (of_decide_eq_true (by kernel_rfl)) k0 bel lt0) (trodAll_cons_mk (Below.trod laidOut (by kernel_rfl) (of_decide_eq_true (by kernel_rfl)) k1 bel lt1) trodAll_mk0)), rfl, bel.frame _, fun h => by cases h⟩

theorem over : Rows.sheetBooksRow.holds Tryz.pinned (OpenSpec.ofChange Rows.sheetBooksSpec) :=
  OpenClaim.holds_of_wide 3 Tryz.f3 rfl rfl rfl rfl rfl rfl rfl ⟨rfl, rfl, rfl, rfl, rfl⟩ rfl rfl rfl rfl rfl (by kernel_rfl) Tryz.func3 facts
    (of_decide_eq_true (by kernel_rfl)) (by unfold Func.isWrapper; first | (rw [if_pos (by decide +kernel)]; kernel_rfl) | (rw [if_neg (by decide +kernel)]; exact ⟨rfl, rfl⟩))
    (fun os started H enc _ => lifted os started H enc)

theorem proved : Rows.SheetBooksCardSaid :=
  Claim7.holds_tied_plain_at .later [] [.data, .data, .data, .data, .sentinel, .sentinel, .funcs, .pinned] true Rows.sheetBooksCard.stood.harness Rows.sheetBooksCard.stood.looks
    over (fun _ h => by cases h) (by kernel_rfl) (fun _ h => by cases h) sheetBooks_row_tie rfl ⟨rfl, rfl⟩ (by kernel_rfl) rfl
    (fun f fn hf hfn => by
      obtain rfl : f = 3 := Option.some.inj ((show (Tryz.prog).funcNamed "kreisel/kreisellaw11.SheetBooks" = some 3 by kernel_rfl).symm.trans hf) |>.symm
      obtain rfl : fn = Tryz.f3 := (Option.some.inj ((Tryz.func3).symm.trans hfn)).symm
      exact ⟨by kernel_rfl, fun j t ht => by
        rw [Tryz.params3] at ht
        have hm : t ∈ [30, 31] := by simpa using Array.mem_of_getElem? ht
        have hall : ([30, 31].all fun u => !(Tryz.prog).wantsStandIn u) = true := by kernel_rfl
        exact (show (Tryz.prog).wantsStandIn t = false by simpa using List.all_eq_true.1 hall t hm)⟩)
    (by kernel_rfl)
#print axioms proved
end Go.Proofs.YtcickafaomfbmaaGreatDoor.lawSheetBooks
