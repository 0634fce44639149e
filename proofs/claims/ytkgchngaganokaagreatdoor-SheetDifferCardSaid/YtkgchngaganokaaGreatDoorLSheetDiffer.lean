/-
  'Rows.SheetDifferSaid': for every input SheetDiffer returns true, and the input reads as it read.
-/
import Derived.Test.YtkgchngaganokaaGreatDoorVdT
import Derived.Test.YtkgchngaganokaaGreatDoorUq
import Derived.Test.YtkgchngaganokaaGreatDoorLaidW
import Derived.Test.YtkgchngaganokaaGreatDoorTie
import Derived.Test.YtkgchngaganokaaGreatDoorCards
import Derived.LaidMore
import Derived.Stop.Joined
import Derived.SevenTiedAt
import Derived.ProofKit
import Derived.OpenShut
import Derived.ChangeOld
import Derived.Below
import Derived.Test.YtkgchngaganokaaGreatDoorLSDifferf
namespace Go.Proofs.YtkgchngaganokaaGreatDoor.lawSheetDiffer
open Go.ChangeShapes Go.WideShapes Go.ChangeAt Go.RowKit Kr
set_option linter.unusedVariables false

theorem own : ownKnob (Tryz.prog).godebug = none := by kernel_rfl
theorem laidOut : laidOutB Tryz.prog = true := by kernel_rfl

set_option maxRecDepth 100000 in
theorem lifted (os : Os) (started : os.Started) (H : Type) (enc : TypeId × Value → H) :
    ReturnsInHanded {} Tryz.checked os 8 .any (fun w args => (Rows.sheetDifferSpec.pre enc Tryz.prog Tryz.f8 [] false w args ∧ laidMetH Tryz.prog laidWritten w) ∧ sizedMet enc Tryz.prog Tryz.f8 (OpenSpec.ofChange Rows.sheetDifferSpec) false w args)
      (Rows.sheetDifferSpec.post enc Tryz.prog Tryz.f8 false true false false) := by
  refine handed_and_shape (C := Tryz.checked) (X := fun w _ => laidMetH Tryz.prog laidWritten w) (fun _ _ _ hh h => h.of_heap hh) own started (by kernel_rfl) Tryz.func8
    (ChangeSpec.witness_shaped (enc := enc) (C := Tryz.checked) (os := os) (X := fun w _ => laidMetH Tryz.prog laidWritten w) false (pinnedWorld os) #[.agg #[.int .u8 0, .slice none 0 0], .agg #[.int .u8 0, .slice none 0 0], .int .u8 0, .int .u8 0, .int .i64 0] 8 rfl (World.shaped_of_RefB (by kernel_rfl) (by kernel_rfl)) (by kernel_rfl) (by kernel_rfl) (by kernel_rfl) (door_met4 os _)) ?_
  intro W base args ds gs before hval0 hW hL hsh
  have hval : ∀ (j : Nat) t v, (Tryz.f8).params[j]? = some t → args[j]? = some v → Value.okWide Tryz.prog W .any base t v := hval0
  have hW' := hW
  obtain ⟨p, q, hA0, hV, rfl, hfz, hnd⟩ := hW
  have hA : DataW.TrodAll enc Tryz.prog W 0 (fun _ => true) true (Tryz.f8).params.toList args.toList ds p := hA0
  rw [Tryz.params8] at hA hval
  obtain ⟨v0, vs0, d0, ds0, p0, q0, hargs, rfl, rfl, h0, r0⟩ := trodAll_cons hA
  obtain ⟨v1, vs1, d1, ds1, p1, q1, rfl, rfl, rfl, h1, r1⟩ := trodAll_cons r0
  obtain ⟨v2, vs2, d2, ds2, p2, q2, rfl, rfl, rfl, h2, r2⟩ := trodAll_cons r1
  obtain ⟨v3, vs3, d3, ds3, p3, q3, rfl, rfl, rfl, h3, r3⟩ := trodAll_cons r2
  obtain ⟨v4, vs4, d4, ds4, p4, q4, rfl, rfl, rfl, h4, r4⟩ := trodAll_cons r3
  obtain ⟨rfl, rfl, rfl⟩ := trodAll_nil r4
  obtain rfl : args = #[v0, v1, v2, v3, v4] := by cases args; simp_all
  obtain ⟨rfl, rfl⟩ := trodVars_none hV
  have k0 := h0
  have lt0 : ∀ x ∈ p0, x.block < W.heap.size := by obtain ⟨m, hm⟩ := k0; exact DataW.trod_lt m _ _ _ hm
  have k1 := h1
  have lt1 : ∀ x ∈ p1, x.block < W.heap.size := by obtain ⟨m, hm⟩ := k1; exact DataW.trod_lt m _ _ _ hm
  obtain ⟨a, rfl, ha1, ha2⟩ : ∃ y : Int × Value × List (List Int × Value), v0 = .agg #[.int .u8 y.1, y.2.1] ∧ (0 ≤ y.1 ∧ y.1 ≤ 255) ∧ ListsAt W y.2.1 y.2.2 := by
    obtain ⟨fuel, hf⟩ := h0
    obtain ⟨y, e, hy⟩ := reads_Sheet fuel _ _ hf
    obtain ⟨cs, rfl⟩ := okWide_struct Tryz.underlying24 (hval 0 24 v0 rfl rfl)
    exact ⟨y, congrArg Value.agg (Array.toList_inj.1 (by simpa [Value.cells] using e)), hy⟩
  obtain ⟨b, rfl, hb1, hb2⟩ : ∃ y : Int × Value × List (List Int × Value), v1 = .agg #[.int .u8 y.1, y.2.1] ∧ (0 ≤ y.1 ∧ y.1 ≤ 255) ∧ ListsAt W y.2.1 y.2.2 := by
    obtain ⟨fuel, hf⟩ := h1
    obtain ⟨y, e, hy⟩ := reads_Sheet fuel _ _ hf
    obtain ⟨cs, rfl⟩ := okWide_struct Tryz.underlying24 (hval 1 24 v1 rfl rfl)
    exact ⟨y, congrArg Value.agg (Array.toList_inj.1 (by simpa [Value.cells] using e)), hy⟩
  obtain ⟨row, rfl, rfl, rfl, w2⟩ := open_int Tryz.underlying5 (hval 2 5 v2 rfl rfl) h2
  obtain ⟨col, rfl, rfl, rfl, w3⟩ := open_int Tryz.underlying5 (hval 3 5 v3 rfl rfl) h3
  obtain ⟨tt, rfl, rfl, rfl, w4⟩ := open_int Tryz.underlying3 (hval 4 3 v4 rfl rfl) h4
  clear hA0 hval0
  refine (l11_SheetDiffer_any a.1 a.2.2 a.2.1 b.1 b.2.2 b.2.1 row col tt W ha1 ha2 hb1 hb2 w2 w3 (lib_of_laidW hL hsh) (cols_of_laidW hL)).mono fun e W' ⟨he, bel⟩ => ?_
  subst he
  have bel := bel.below
  exact ⟨_, rfl, _, _, _, [], _, [], hW', trodAll_mk1 (shut_bool Tryz.underlying4 _), (trodAll_cons_mk (Below.trod laidOut (by kernel_rfl) (of_decide_eq_true (by kernel_rfl)) k0 bel lt0) (trodAll_cons_mk (Below.trod laidOut (by kernel_rfl) (of_decide_eq_true (by kernel_rfl)) k1 bel lt1) (trodAll_cons_mk (shut_int Tryz.underlying5 w2) (trodAll_cons_mk (shut_int Tryz.underlying5 w3) (trodAll_cons_mk (shut_int Tryz.underlying3 w4) trodAll_mk0))))), rfl, bel.frame _, fun h => by cases h⟩

theorem over : Rows.sheetDifferRow.holds Tryz.pinned (OpenSpec.ofChange Rows.sheetDifferSpec) :=
  OpenClaim.holds_of_wide 8 Tryz.f8 rfl rfl rfl rfl rfl rfl rfl ⟨rfl, rfl, rfl, rfl, rfl⟩ rfl rfl rfl rfl rfl (by kernel_rfl) Tryz.func8 facts
    (of_decide_eq_true (by kernel_rfl)) (by unfold Func.isWrapper; first | (rw [if_pos (by decide +kernel)]; kernel_rfl) | (rw [if_neg (by decide +kernel)]; exact ⟨rfl, rfl⟩))
    (fun os started H enc _ => lifted os started H enc)

theorem proved : Rows.SheetDifferCardSaid :=
  Claim7.holds_tied_plain_at .later [] [.data, .data, .data, .data, .sentinel, .sentinel, .data, .pinned] true Rows.sheetDifferCard.stood.harness Rows.sheetDifferCard.stood.looks
    over (fun _ h => by cases h) (by kernel_rfl) (fun _ h => by cases h) sheetDiffer_row_tie rfl ⟨rfl, rfl⟩ (by kernel_rfl) rfl
    (fun f fn hf hfn => by
      obtain rfl : f = 8 := Option.some.inj ((show (Tryz.prog).funcNamed "kreisel/kreisellaw11.SheetDiffer" = some 8 by kernel_rfl).symm.trans hf) |>.symm
      obtain rfl : fn = Tryz.f8 := (Option.some.inj ((Tryz.func8).symm.trans hfn)).symm
      exact ⟨by kernel_rfl, fun j t ht => by
        rw [Tryz.params8] at ht
        have hm : t ∈ [24, 24, 5, 5, 3] := by simpa using Array.mem_of_getElem? ht
        have hall : ([24, 24, 5, 5, 3].all fun u => !(Tryz.prog).wantsStandIn u) = true := by kernel_rfl
        exact (show (Tryz.prog).wantsStandIn t = false by simpa using List.all_eq_true.1 hall t hm)⟩)
    (by kernel_rfl)
#print axioms proved
end Go.Proofs.YtkgchngaganokaaGreatDoor.lawSheetDiffer
