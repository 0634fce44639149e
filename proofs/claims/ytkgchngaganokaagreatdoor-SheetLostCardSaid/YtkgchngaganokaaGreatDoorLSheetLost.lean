/-
  'Rows.SheetLostSaid': for every input SheetLost returns true, and the input reads as it read.
-/
import Derived.Test.YtkgchngaganokaaGreatDoorVdT
import Derived.Test.YtkgchngaganokaaGreatDoorUk
import Derived.Test.YtkgchngaganokaaGreatDoorLaidW
import Derived.Test.YtkgchngaganokaaGreatDoorTie
import Derived.Test.YtkgchngaganokaaGreatDoorCards
import Derived.LaidMore
import Derived.Stop.Joined
import Derived.SevenTiedAt
import Derived.ProofKit
import Derived.OpenShut
import Derived.ChangeOld
import Derived.Below
import Derived.Test.YtkgchngaganokaaGreatDoorLSLostf
namespace Go.Proofs.YtkgchngaganokaaGreatDoor.lawSheetLost
open Go.ChangeShapes Go.WideShapes Go.ChangeAt Go.RowKit Kr
set_option linter.unusedVariables false

theorem own : ownKnob (Tryz.prog).godebug = none := by kernel_rfl
theorem laidOut : laidOutB Tryz.prog = true := by kernel_rfl

set_option maxRecDepth 100000 in
theorem lifted (os : Os) (started : os.Started) (H : Type) (enc : TypeId × Value → H) :
    ReturnsInHanded {} Tryz.checked os 5 .any (fun w args => (Rows.sheetLostSpec.pre enc Tryz.prog Tryz.f5 [] false w args ∧ laidMetH Tryz.prog laidWritten w) ∧ sizedMet enc Tryz.prog Tryz.f5 (OpenSpec.ofChange Rows.sheetLostSpec) false w args)
      (Rows.sheetLostSpec.post enc Tryz.prog Tryz.f5 false true false false) := by
  refine handed_and_shape (C := Tryz.checked) (X := fun w _ => laidMetH Tryz.prog laidWritten w) (fun _ _ _ hh h => h.of_heap hh) own started (by kernel_rfl) Tryz.func5
    (ChangeSpec.witness_shaped (enc := enc) (C := Tryz.checked) (os := os) (X := fun w _ => laidMetH Tryz.prog laidWritten w) false (pinnedWorld os) #[.agg #[.int .u8 0, .slice none 0 0], .slice none 0 0] 8 rfl (World.shaped_of_RefB (by kernel_rfl) (by kernel_rfl)) (by kernel_rfl) (by kernel_rfl) (by kernel_rfl) (door_met4 os _)) ?_
  intro W base args ds gs before hval0 hW hL hsh
  have hval : ∀ (j : Nat) t v, (Tryz.f5).params[j]? = some t → args[j]? = some v → Value.okWide Tryz.prog W .any base t v := hval0
  have hW' := hW
  obtain ⟨p, q, hA0, hV, rfl, hfz, hnd⟩ := hW
  have hA : DataW.TrodAll enc Tryz.prog W 0 (fun _ => true) true (Tryz.f5).params.toList args.toList ds p := hA0
  rw [Tryz.params5] at hA hval
  obtain ⟨v0, vs0, d0, ds0, p0, q0, hargs, rfl, rfl, h0, r0⟩ := trodAll_cons hA
  obtain ⟨v1, vs1, d1, ds1, p1, q1, rfl, rfl, rfl, h1, r1⟩ := trodAll_cons r0
  obtain ⟨rfl, rfl, rfl⟩ := trodAll_nil r1
  obtain rfl : args = #[v0, v1] := by cases args; simp_all
  obtain ⟨rfl, rfl⟩ := trodVars_none hV
  have k0 := h0
  have lt0 : ∀ x ∈ p0, x.block < W.heap.size := by obtain ⟨m, hm⟩ := k0; exact DataW.trod_lt m _ _ _ hm
  have k1 := h1
  have lt1 : ∀ x ∈ p1, x.block < W.heap.size := by obtain ⟨m, hm⟩ := k1; exact DataW.trod_lt m _ _ _ hm
  obtain ⟨s, rfl, hs1, hs2⟩ : ∃ y : Int × Value × List (List Int × Value), v0 = .agg #[.int .u8 y.1, y.2.1] ∧ (0 ≤ y.1 ∧ y.1 ≤ 255) ∧ ListsAt W y.2.1 y.2.2 := by
    obtain ⟨fuel, hf⟩ := h0
    obtain ⟨y, e, hy⟩ := reads_Sheet fuel _ _ hf
    obtain ⟨cs, rfl⟩ := okWide_struct Tryz.underlying24 (hval 0 24 v0 rfl rfl)
    exact ⟨y, congrArg Value.agg (Array.toList_inj.1 (by simpa [Value.cells] using e)), hy⟩
  obtain ⟨bl, rfl, hbl, hblb⟩ : ∃ x : Value × List Int, v1 = x.1 ∧ IsRow (fun x : Int => [.int .u32 x]) 1 W x.1 x.2 ∧ ∀ y ∈ x.2, 0 ≤ y ∧ y ≤ 4294967295 := by
    obtain ⟨fuel, hf⟩ := h1
    obtain ⟨y, e, hy⟩ := reads_U32s fuel _ _ hf
    obtain ⟨a, len, cap, rfl⟩ := okWide_slice Tryz.underlying41 (hval 1 41 v1 rfl rfl)
    exact ⟨y, by simpa [Value.cells] using e, hy⟩
  clear hA0 hval0
  refine (l11_SheetLost_any s.1 s.2.2 s.2.1 bl.2 bl.1 W hs1 hs2 hbl hblb (lib_of_laidW hL hsh) (cols_of_laidW hL)).mono fun e W' ⟨he, bel⟩ => ?_
  subst he
  have bel := bel.below
  exact ⟨_, rfl, _, _, _, [], _, [], hW', trodAll_mk1 (shut_bool Tryz.underlying4 _), (trodAll_cons_mk (Below.trod laidOut (by kernel_rfl) (of_decide_eq_true (by kernel_rfl)) k0 bel lt0) (trodAll_cons_mk (Below.trod laidOut (by kernel_rfl) (of_decide_eq_true (by kernel_rfl)) k1 bel lt1) trodAll_mk0)), rfl, bel.frame _, fun h => by cases h⟩

theorem over : Rows.sheetLostRow.holds Tryz.pinned (OpenSpec.ofChange Rows.sheetLostSpec) :=
  OpenClaim.holds_of_wide 5 Tryz.f5 rfl rfl rfl rfl rfl rfl rfl ⟨rfl, rfl, rfl, rfl, rfl⟩ rfl rfl rfl rfl rfl (by kernel_rfl) Tryz.func5 facts
    (of_decide_eq_true (by kernel_rfl)) (by unfold Func.isWrapper; first | (rw [if_pos (by decide +kernel)]; kernel_rfl) | (rw [if_neg (by decide +kernel)]; exact ⟨rfl, rfl⟩))
    (fun os started H enc _ => lifted os started H enc)

theorem proved : Rows.SheetLostCardSaid :=
  Claim7.holds_tied_plain_at .later [] [.data, .data, .data, .data, .sentinel, .sentinel, .data, .pinned] true Rows.sheetLostCard.stood.harness Rows.sheetLostCard.stood.looks
    over (fun _ h => by cases h) (by kernel_rfl) (fun _ h => by cases h) sheetLost_row_tie rfl ⟨rfl, rfl⟩ (by kernel_rfl) rfl
    (fun f fn hf hfn => by
      obtain rfl : f = 5 := Option.some.inj ((show (Tryz.prog).funcNamed "kreisel/kreisellaw11.SheetLost" = some 5 by kernel_rfl).symm.trans hf) |>.symm
      obtain rfl : fn = Tryz.f5 := (Option.some.inj ((Tryz.func5).symm.trans hfn)).symm
      exact ⟨by kernel_rfl, fun j t ht => by
        rw [Tryz.params5] at ht
        have hm : t ∈ [24, 41] := by simpa using Array.mem_of_getElem? ht
        have hall : ([24, 41].all fun u => !(Tryz.prog).wantsStandIn u) = true := by kernel_rfl
        exact (show (Tryz.prog).wantsStandIn t = false by simpa using List.all_eq_true.1 hall t hm)⟩)
    (by kernel_rfl)
#print axioms proved
end Go.Proofs.YtkgchngaganokaaGreatDoor.lawSheetLost
