/-
  'Rows.SheetJudgesSaid': for every input SheetJudges returns true, and the input reads as it read.
-/
import Derived.Test.YtcickafaomfbmaaGreatDoorZSJesIbR
import Derived.Test.YtcickafaomfbmaaGreatDoorZSJesUv
import Derived.Test.YtcickafaomfbmaaGreatDoorZSJesLaidJ
import Derived.Test.YtcickafaomfbmaaGreatDoorTie
import Derived.Test.YtcickafaomfbmaaGreatDoorCards
import Derived.LaidMore
import Derived.Stop.Joined
import Derived.SevenTiedAt
import Derived.ProofKit
import Derived.OpenShut
import Derived.ChangeOld
import Derived.Below
import Derived.Test.YtcickafaomfbmaaGreatDoorZSJesLSJudgesf
namespace Go.Proofs.YtcickafaomfbmaaGreatDoor.lawSheetJudges
open Go.ChangeShapes Go.WideShapes Go.ChangeAt Go.RowKit Kr
set_option linter.unusedVariables false

theorem own : ownKnob (Tryz.prog).godebug = none := by kernel_rfl
theorem laidOut : laidOutB Tryz.prog = true := by kernel_rfl

set_option maxRecDepth 100000 in
theorem lifted (os : Os) (started : os.Started) (H : Type) (enc : TypeId × Value → H) :
    ReturnsInHanded {} Tryz.checked os 4 .any (fun w args => (Rows.sheetJudgesSpec.pre enc Tryz.prog Tryz.f4 [] false w args ∧ laidMetH Tryz.prog laidJudges w) ∧ sizedMet enc Tryz.prog Tryz.f4 (OpenSpec.ofChange Rows.sheetJudgesSpec) false w args)
      (Rows.sheetJudgesSpec.post enc Tryz.prog Tryz.f4 false true false false) := by
  refine handed_and_shape (C := Tryz.checked) (X := fun w _ => laidMetH Tryz.prog laidJudges w) (fun _ _ _ hh h => h.of_heap hh) own started (by kernel_rfl) Tryz.func4
    (ChangeSpec.witness_shaped (enc := enc) (C := Tryz.checked) (os := os) (X := fun w _ => laidMetH Tryz.prog laidJudges w) false (pinnedWorld os) #[.agg #[.slice none 0 0], .agg #[.slice none 0 0, .int .i64 0, .int .i64 0, .int .i64 0, .slice none 0 0, .slice none 0 0, .int .i64 0, .bool false], .agg #[.int .i64 0, .int .i64 0, .int .i64 0, .int .i64 0, .int .i64 0, .int .i64 0, .bool false]] 8 rfl (World.shaped_of_RefB (by kernel_rfl) (by kernel_rfl)) (by kernel_rfl) (by kernel_rfl) (by kernel_rfl) (door_met6 os _)) ?_
  intro W base args ds gs before hval0 hW hL hsh
  have hval : ∀ (j : Nat) t v, (Tryz.f4).params[j]? = some t → args[j]? = some v → Value.okWide Tryz.prog W .any base t v := hval0
  have hW' := hW
  obtain ⟨p, q, hA0, hV, rfl, hfz, hnd⟩ := hW
  have hA : DataW.TrodAll enc Tryz.prog W 0 (fun _ => true) true (Tryz.f4).params.toList args.toList ds p := hA0
  rw [Tryz.params4] at hA hval
  obtain ⟨v0, vs0, d0, ds0, p0, q0, hargs, rfl, rfl, h0, r0⟩ := trodAll_cons hA
  obtain ⟨v1, vs1, d1, ds1, p1, q1, rfl, rfl, rfl, h1, r1⟩ := trodAll_cons r0
  obtain ⟨v2, vs2, d2, ds2, p2, q2, rfl, rfl, rfl, h2, r2⟩ := trodAll_cons r1
  obtain ⟨rfl, rfl, rfl⟩ := trodAll_nil r2
  obtain rfl : args = #[v0, v1, v2] := by cases args; simp_all
  obtain ⟨rfl, rfl⟩ := trodVars_none hV
  have k0 := h0
  have lt0 : ∀ x ∈ p0, x.block < W.heap.size := by obtain ⟨m, hm⟩ := k0; exact DataW.trod_lt m _ _ _ hm
  have k1 := h1
  have lt1 : ∀ x ∈ p1, x.block < W.heap.size := by obtain ⟨m, hm⟩ := k1; exact DataW.trod_lt m _ _ _ hm
  have k2 := h2
  have lt2 : ∀ x ∈ p2, x.block < W.heap.size := by obtain ⟨m, hm⟩ := k2; exact DataW.trod_lt m _ _ _ hm
  obtain ⟨b, rfl, hb⟩ : ∃ y : Value × List (Scale × Value), v0 = .agg #[y.1] ∧ BayAt W y.1 y.2 := by
    obtain ⟨fuel, hf⟩ := h0
    obtain ⟨y, e, hy⟩ := reads_Bay fuel _ _ hf
    obtain ⟨cs, rfl⟩ := okWide_struct Tryz.underlying52 (hval 0 52 v0 rfl rfl)
    exact ⟨y, congrArg Value.agg (Array.toList_inj.1 (by simpa [Value.cells] using e)), hy⟩
  obtain ⟨g, rfl, hg1, hg2, hg3, hg4⟩ : ∃ x : Gear × Value × Value × Value, v1 = .agg #[x.2.1, .int .i64 x.1.added, .int .i64 x.1.base, .int .i64 x.1.jitter, x.2.2.1, x.2.2.2, .int .i64 x.1.spread, .bool x.1.stamp] ∧ IsRow (fun t : Kr.Load => [.int .i64 t.scale, .int .i64 t.shown]) 2 W x.2.1 x.1.loads ∧ IsRow (fun x : Int => [.int .i64 x]) 1 W x.2.2.1 x.1.runners ∧ IsRow (fun x : Int => [.int .i64 x]) 1 W x.2.2.2 x.1.strokes ∧ ∀ l ∈ x.1.loads, (Lit.int .i64 l.scale).wf = true := by
    obtain ⟨fuel, hf⟩ := h1
    obtain ⟨y, e, hy⟩ := reads_Gear fuel _ _ hf
    obtain ⟨cs, rfl⟩ := okWide_struct Tryz.underlying55 (hval 1 55 v1 rfl rfl)
    exact ⟨y, congrArg Value.agg (Array.toList_inj.1 (by simpa [Value.cells] using e)), hy⟩
  obtain ⟨n, rfl, hn⟩ : ∃ x : Norm, v2 = .agg #[.int .i64 x.total.lo, .int .i64 x.total.hi, .int .i64 x.added, .int .i64 x.warm, .int .i64 x.hard.lo, .int .i64 x.hard.hi, .bool x.stamp] ∧ NormWf x := by
    obtain ⟨fuel, hf⟩ := h2
    obtain ⟨y, e, hy⟩ := reads_Norm fuel _ _ hf
    obtain ⟨cs, rfl⟩ := okWide_struct Tryz.underlying57 (hval 2 57 v2 rfl rfl)
    exact ⟨y, congrArg Value.agg (Array.toList_inj.1 (by simpa [Value.cells] using e)), hy⟩
  clear hA0 hval0
  refine (l11_SheetJudges_any b.2 b.1 g.1 g.2.1 g.2.2.1 g.2.2.2 n W hb hg1 hg2 hg3 hg4 (lib_of_laidJudges hL hsh) (conds_of_laidJ hL)).mono fun e W' ⟨he, bel⟩ => ?_
  subst he
  have bel := bel.below
  exact ⟨_, rfl, _, _, _, [], _, [], hW', trodAll_mk1 (shut_bool Tryz.underlying4 _), (trodAll_cons_mk (Below.trod laidOut (by kernel_rfl) (of_decide_eq_true (by kernel_rfl)) k0 bel lt0) (trodAll_cons_mk (Below.trod laidOut (by kernel_rfl) (of_decide_eq_true (by kernel_rfl)) k1 bel lt1) (trodAll_cons_mk (Below.trod laidOut (by kernel_rfl) (of_decide_eq_true (by kernel_rfl)) k2 bel lt2) trodAll_mk0))), rfl, bel.frame _, fun h => by cases h⟩

theorem over : Rows.sheetJudgesRow.holds Tryz.pinned (OpenSpec.ofChange Rows.sheetJudgesSpec) :=
  OpenClaim.holds_of_wide 4 Tryz.f4 rfl rfl rfl rfl rfl rfl rfl ⟨rfl, rfl, rfl, rfl, rfl⟩ rfl rfl rfl rfl rfl (by kernel_rfl) Tryz.func4 facts
    (of_decide_eq_true (by kernel_rfl)) (by unfold Func.isWrapper; first | (rw [if_pos (by decide +kernel)]; kernel_rfl) | (rw [if_neg (by decide +kernel)]; exact ⟨rfl, rfl⟩))
    (fun os started H enc _ => lifted os started H enc)

theorem proved : Rows.SheetJudgesCardSaid :=
  Claim7.holds_tied_plain_at .later [] [.data, .data, .data, .data, .sentinel, .sentinel, .funcs, .pinned] true Rows.sheetJudgesCard.stood.harness Rows.sheetJudgesCard.stood.looks
    over (fun _ h => by cases h) (by kernel_rfl) (fun _ h => by cases h) sheetJudges_row_tie rfl ⟨rfl, rfl⟩ (by kernel_rfl) rfl
    (fun f fn hf hfn => by
      obtain rfl : f = 4 := Option.some.inj ((show (Tryz.prog).funcNamed "kreisel/kreisellaw11.SheetJudges" = some 4 by kernel_rfl).symm.trans hf) |>.symm
      obtain rfl : fn = Tryz.f4 := (Option.some.inj ((Tryz.func4).symm.trans hfn)).symm
      exact ⟨by kernel_rfl, fun j t ht => by
        rw [Tryz.params4] at ht
        have hm : t ∈ [52, 55, 57] := by simpa using Array.mem_of_getElem? ht
        have hall : ([52, 55, 57].all fun u => !(Tryz.prog).wantsStandIn u) = true := by kernel_rfl
        exact (show (Tryz.prog).wantsStandIn t = false by simpa using List.all_eq_true.1 hall t hm)⟩)
    (by kernel_rfl)
#print axioms proved
end Go.Proofs.YtcickafaomfbmaaGreatDoor.lawSheetJudges
