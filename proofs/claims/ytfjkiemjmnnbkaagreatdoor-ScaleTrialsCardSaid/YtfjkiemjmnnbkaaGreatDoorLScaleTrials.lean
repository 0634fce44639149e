/-
  'Rows.ScaleTrialsSaid': for every input ScaleTrials returns true, and the input reads as it read.
-/
import Derived.Test.YtfjkiemjmnnbkaaGreatDoorRow
import Derived.Test.YtfjkiemjmnnbkaaGreatDoorLTr5
import Derived.Test.YtfjkiemjmnnbkaaGreatDoorLaid
import Derived.Test.YtfjkiemjmnnbkaaGreatDoorTie
import Derived.Test.YtfjkiemjmnnbkaaGreatDoorCards
import Derived.LaidMore
import Derived.Stop.Joined
import Derived.SevenTiedAt
import Derived.ProofKit
import Derived.OpenShut
import Derived.ChangeOld
import Derived.Below
namespace Go.Proofs.YtfjkiemjmnnbkaaGreatDoor.lawScaleTrials
open Go.ChangeShapes Go.WideShapes Go.ChangeAt Go.RowKit Kr
set_option linter.unusedVariables false

theorem own : ownKnob (Tryz.prog).godebug = none := by kernel_rfl
theorem laidOut : laidOutB Tryz.prog = true := by kernel_rfl

set_option maxRecDepth 100000 in
theorem lifted (os : Os) (started : os.Started) (H : Type) (enc : TypeId × Value → H) :
    ReturnsInHanded {} Tryz.checked os 8 .any (fun w args => (Rows.scaleTrialsSpec.pre enc Tryz.prog Tryz.f8 [] false w args ∧ laidMetH Tryz.prog laidOnes w) ∧ sizedMet enc Tryz.prog Tryz.f8 (OpenSpec.ofChange Rows.scaleTrialsSpec) false w args)
      (Rows.scaleTrialsSpec.post enc Tryz.prog Tryz.f8 false true false false) := by
  refine returnsInHanded_of_change_and (C := Tryz.checked) (X := fun w _ => laidMetH Tryz.prog laidOnes w) (fun _ _ _ hh h => h.of_heap hh) own started (by kernel_rfl) Tryz.func8
    (ChangeSpec.witness_shaped (enc := enc) (C := Tryz.checked) (os := os) (X := fun w _ => laidMetH Tryz.prog laidOnes w) false (World.doorLaid Tryz.prog 600 os) #[.agg #[.int .i64 0, .int .i64 0, .int .i64 0, .int .i64 0, .int .i64 0, .int .i64 0, .slice none 0 0], .int .u8 0, .int .u8 0, .int .u32 0, .agg #[.int .i64 0, .int .i64 0]] 8 rfl (World.shaped_of_RefB (by kernel_rfl) (by kernel_rfl)) (by kernel_rfl) (by kernel_rfl) (by kernel_rfl) (door_met os _)) ?_
  intro W base args ds gs before hval0 hW _ _ hL _
  have hval : ∀ (j : Nat) t v, (Tryz.f8).params[j]? = some t → args[j]? = some v → Value.okWide Tryz.prog W .any base t v := hval0
  have hW' := hW
  obtain ⟨p, q, hA0, hV, rfl, hfz, hnd⟩ := hW
  have hA : DataW.TrodAll enc Tryz.prog W 0 (fun _ => true) true (Tryz.f8).params.toList args.toList ds p := hA0
  rw [Tryz.params8] at hA hval
  obtain ⟨v0, vs0, d0, ds0, p0, q0, hargs, rfl, rfl, h0, r0⟩ := trodAll_cons hA
  obtain ⟨v1, vs1, d1, ds1, p1, q1, rfl, rfl, rfl, h1, r1⟩ := trodAll_cons r0
  obtain ⟨v2, vs2, d2, ds2, p2, q2, rfl, rfl, rfl, h2, r2⟩ := trodAll_cons r1
  obtain ⟨v3, vs3, d3, ds3, p3, q3, rfl, rfl, rfl, h3, r3⟩ := trodAll_cons r2
  obtain ⟨v4, vs4, d4, ds4, p4, q4, rfl, rfl, rfl, h4, r4⟩ := trodAll_cons r3
  obtain ⟨rfl, rfl, rfl⟩ := trodAll_nil r4
  obtain rfl : args = #[v0, v1, v2, v3, v4] := by cases args; simp_all
  obtain ⟨rfl, rfl⟩ := trodVars_none hV
  have k0 := h0
  have lt0 : ∀ x ∈ p0, x.block < W.heap.size := by obtain ⟨m, hm⟩ := k0; exact DataW.trod_lt m _ _ _ hm
  have k4 := h4
  have lt4 : ∀ x ∈ p4, x.block < W.heap.size := by obtain ⟨m, hm⟩ := k4; exact DataW.trod_lt m _ _ _ hm
  obtain ⟨s, rfl, hs⟩ : ∃ x : Scale × Value, v0 = .agg #[.int .i64 x.1.id, .int .i64 x.1.step, .int .i64 x.1.gain.lo, .int .i64 x.1.gain.hi, .int .i64 x.1.off.lo, .int .i64 x.1.off.hi, x.2] ∧ IsRow (fun t : Kr.Trial => [.int .i64 t.weight, .int .i64 t.shown]) 2 W x.2 x.1.trials := by
    obtain ⟨fuel, hf⟩ := h0
    obtain ⟨y, e, hy⟩ := reads_Scale fuel _ _ hf
    obtain ⟨cs, rfl⟩ := okWide_struct Tryz.underlying59 (hval 0 59 v0 rfl rfl)
    exact ⟨y, congrArg Value.agg (Array.toList_inj.1 (by simpa [Value.cells] using e)), hy⟩
  obtain ⟨gain, rfl, rfl, rfl, w1⟩ := open_int Tryz.underlying5 (hval 1 5 v1 rfl rfl) h1
  obtain ⟨off, rfl, rfl, rfl, w2⟩ := open_int Tryz.underlying5 (hval 2 5 v2 rfl rfl) h2
  obtain ⟨weight, rfl, rfl, rfl, w3⟩ := open_int Tryz.underlying56 (hval 3 56 v3 rfl rfl) h3
  obtain ⟨more, rfl, hmore⟩ : ∃ x : Trial, v4 = .agg #[.int .i64 x.weight, .int .i64 x.shown] ∧ True := by
    obtain ⟨fuel, hf⟩ := h4
    obtain ⟨y, e, hy⟩ := reads_Trial fuel _ _ hf
    obtain ⟨cs, rfl⟩ := okWide_struct Tryz.underlying95 (hval 4 95 v4 rfl rfl)
    exact ⟨y, congrArg Value.agg (Array.toList_inj.1 (by simpa [Value.cells] using e)), hy⟩
  clear hA0 hval0
  refine (l04t_any s.1 s.2 gain off weight more W hs w1 w2 w3 (conds_of_laid hL)).mono fun e W' ⟨he, bel⟩ => ?_
  subst he
  have bel := bel.below
  exact ⟨_, rfl, _, _, _, [], _, [], hW', trodAll_mk1 (shut_bool Tryz.underlying4 _), (trodAll_cons_mk (Below.trod laidOut (by kernel_rfl) (of_decide_eq_true (by kernel_rfl)) k0 bel lt0) (trodAll_cons_mk (shut_int Tryz.underlying5 w1) (trodAll_cons_mk (shut_int Tryz.underlying5 w2) (trodAll_cons_mk (shut_int Tryz.underlying56 w3) (trodAll_cons_mk (Below.trod laidOut (by kernel_rfl) (of_decide_eq_true (by kernel_rfl)) k4 bel lt4) trodAll_mk0))))), rfl, bel.frame _, fun h => by cases h⟩

theorem over : Rows.scaleTrialsRow.holds Tryz.pinned (OpenSpec.ofChange Rows.scaleTrialsSpec) :=
  OpenClaim.holds_of_wide 8 Tryz.f8 rfl rfl rfl rfl rfl rfl rfl ⟨rfl, rfl, rfl, rfl, rfl⟩ rfl rfl rfl rfl rfl (by kernel_rfl) Tryz.func8 (by kernel_rfl)
    (of_decide_eq_true (by kernel_rfl)) (by unfold Func.isWrapper; first | (rw [if_pos (by decide +kernel)]; kernel_rfl) | (rw [if_neg (by decide +kernel)]; exact ⟨rfl, rfl⟩))
    (fun os started H enc _ => lifted os started H enc)

theorem proved : Rows.ScaleTrialsCardSaid :=
  Claim7.holds_tied_plain_at .later [] [.funcs] true Rows.scaleTrialsCard.stood.harness false
    over (fun _ h => by cases h) (by kernel_rfl) (fun _ h => by cases h) scaleTrials_row_tie rfl ⟨rfl, rfl⟩ (by kernel_rfl) rfl
    (fun f fn hf hfn => by
      obtain rfl : f = 8 := Option.some.inj ((show (Tryz.prog).funcNamed "kreisel/kreisellaw04.ScaleTrials" = some 8 by kernel_rfl).symm.trans hf) |>.symm
      obtain rfl : fn = Tryz.f8 := (Option.some.inj ((Tryz.func8).symm.trans hfn)).symm
      exact ⟨by kernel_rfl, fun j t ht => by
        rw [Tryz.params8] at ht
        have hm : t ∈ [59, 5, 5, 56, 95] := by simpa using Array.mem_of_getElem? ht
        have hall : ([59, 5, 5, 56, 95].all fun u => !(Tryz.prog).wantsStandIn u) = true := by kernel_rfl
        exact (show (Tryz.prog).wantsStandIn t = false by simpa using List.all_eq_true.1 hall t hm)⟩)
    (by kernel_rfl)
#print axioms proved
end Go.Proofs.YtfjkiemjmnnbkaaGreatDoor.lawScaleTrials
