/-
  'Rows.GuestSeatsSaid': for every input GuestSeats returns true, and the input reads as it read.
-/
import Derived.Test.YtihkmkocgmkcjaaGreatDoorRow
import Derived.Test.YtihkmkocgmkcjaaGreatDoorHz
import Derived.Test.YtihkmkocgmkcjaaGreatDoorHz
import Derived.Test.YtihkmkocgmkcjaaGreatDoorTie
import Derived.Test.YtihkmkocgmkcjaaGreatDoorCards
import Derived.LaidMore
import Derived.Stop.Joined
import Derived.SevenTiedAt
import Derived.ProofKit
import Derived.OpenShut
import Derived.ChangeOld
import Derived.Below
namespace Go.Proofs.YtihkmkocgmkcjaaGreatDoor.lawGuestSeats
open Go.ChangeShapes Go.WideShapes Go.ChangeAt Go.RowKit Kr
set_option linter.unusedVariables false

theorem own : ownKnob (Tryz.prog).godebug = none := by kernel_rfl
theorem laidOut : laidOutB Tryz.prog = true := by kernel_rfl

set_option maxRecDepth 100000 in
theorem lifted (os : Os) (started : os.Started) (H : Type) (enc : TypeId × Value → H) :
    ReturnsInHanded {} Tryz.checked os 4 .any (fun w args => (Rows.guestSeatsSpec.pre enc Tryz.prog Tryz.f4 [] false w args ∧ laidMetH Tryz.prog laidOnes w) ∧ sizedMet enc Tryz.prog Tryz.f4 (OpenSpec.ofChange Rows.guestSeatsSpec) false w args)
      (Rows.guestSeatsSpec.post enc Tryz.prog Tryz.f4 false true false false) := by
  refine returnsInHanded_of_change_and (C := Tryz.checked) (X := fun w _ => laidMetH Tryz.prog laidOnes w) (fun _ _ _ hh h => h.of_heap hh) own started (by kernel_rfl) Tryz.func4
    (ChangeSpec.witness_shaped (enc := enc) (C := Tryz.checked) (os := os) (X := fun w _ => laidMetH Tryz.prog laidOnes w) false (World.doorLaid Tryz.prog 600 os) #[.agg #[.slice none 0 0, .slice none 0 0, .slice none 0 0, .slice none 0 0, .int .i64 0, .slice none 0 0], .int .i64 0, .slice none 0 0] 8 rfl (World.shaped_of_RefB (by kernel_rfl) (by kernel_rfl)) (by kernel_rfl) (by kernel_rfl) (by kernel_rfl) (door_met os _)) ?_
  intro W base args ds gs before hval0 hW _ _ hL _
  have hval : ∀ (j : Nat) t v, (Tryz.f4).params[j]? = some t → args[j]? = some v → Value.okWide Tryz.prog W .any base t v := hval0
  have hW' := hW
  obtain ⟨p, q, hA0, hV, rfl, hfz, hnd⟩ := hW
  have hA : DataW.TrodAll enc Tryz.prog W 0 (fun _ => true) true (Tryz.f4).params.toList args.toList ds p := hA0
  rw [Tryz.params4] at hA hval
  obtain ⟨v0, vs0, d0, ds0, p0, q0, hargs, rfl, rfl, h0, r0⟩ := trodAll_cons hA
  obtain ⟨v1, vs1, d1, ds1, p1, q1, rfl, rfl, rfl, h1, r1⟩ := trodAll_cons r0
  obtain ⟨v2, vs2, d2, ds2, p2, q2, rfl, rfl, rfl, h2, r2⟩ := trodAll_cons r1
  obtain ⟨rfl, rfl, rfl⟩ := trodAll_nil r2
  obtain rfl : args = #[v0, v1, v2] := by cases args; simp_all
  obtain ⟨rfl, rfl⟩ := trodVars_none hV
  have k0 := h0
  have lt0 : ∀ x ∈ p0, x.block < W.heap.size := by obtain ⟨m, hm⟩ := k0; exact DataW.trod_lt m _ _ _ hm
  have k2 := h2
  have lt2 : ∀ x ∈ p2, x.block < W.heap.size := by obtain ⟨m, hm⟩ := k2; exact DataW.trod_lt m _ _ _ hm
  obtain ⟨b, rfl, hb1, hb2⟩ : ∃ y : Kr.Books × BookV × List (Scale × Value) × List OutV, v0 = .agg #[y.2.1.bay, y.2.1.cash, y.2.1.outs, y.2.1.rfds, .int .i64 y.1.fee, y.2.1.pleas] ∧ BooksAt W y.1 y.2.1 y.2.2.1 y.2.2.2 ∧ ∀ x ∈ y.2.2.2, OutWf x := by
    obtain ⟨fuel, hf⟩ := h0
    obtain ⟨y, e, hy⟩ := reads_Books fuel _ _ hf
    obtain ⟨cs, rfl⟩ := okWide_struct Tryz.underlying65 (hval 0 65 v0 rfl rfl)
    exact ⟨y, congrArg Value.agg (Array.toList_inj.1 (by simpa [Value.cells] using e)), hy⟩
  obtain ⟨outing, rfl, rfl, rfl, w1⟩ := open_int Tryz.underlying3 (hval 1 3 v1 rfl rfl) h1
  obtain ⟨pieces, rfl, hpieces⟩ : ∃ x : Value × List Int, v2 = x.1 ∧ IsRow (fun x : Int => [.int .i64 x]) 1 W x.1 x.2 := by
    obtain ⟨fuel, hf⟩ := h2
    obtain ⟨y, e, hy⟩ := reads_Ints fuel _ _ hf
    obtain ⟨a, len, cap, rfl⟩ := okWide_slice Tryz.underlying36 (hval 2 36 v2 rfl rfl)
    exact ⟨y, by simpa [Value.cells] using e, hy⟩
  clear hA0 hval0
  refine (l10_GuestSeats_any b.1 b.2.1 b.2.2.1 b.2.2.2 outing pieces.2 pieces.1 W hb1 hb2 hpieces (conds_of_laid hL)).mono fun e W' ⟨he, bel⟩ => ?_
  subst he
  have bel := bel.below
  exact ⟨_, rfl, _, _, _, [], _, [], hW', trodAll_mk1 (shut_bool Tryz.underlying4 _), (trodAll_cons_mk (Below.trod laidOut (by kernel_rfl) (of_decide_eq_true (by kernel_rfl)) k0 bel lt0) (trodAll_cons_mk (shut_int Tryz.underlying3 w1) (trodAll_cons_mk (Below.trod laidOut (by kernel_rfl) (of_decide_eq_true (by kernel_rfl)) k2 bel lt2) trodAll_mk0))), rfl, bel.frame _, fun h => by cases h⟩

theorem over : Rows.guestSeatsRow.holds Tryz.pinned (OpenSpec.ofChange Rows.guestSeatsSpec) :=
  OpenClaim.holds_of_wide 4 Tryz.f4 rfl rfl rfl rfl rfl rfl rfl ⟨rfl, rfl, rfl, rfl, rfl⟩ rfl rfl rfl rfl rfl (by kernel_rfl) Tryz.func4 (by kernel_rfl)
    (of_decide_eq_true (by kernel_rfl)) (by unfold Func.isWrapper; first | (rw [if_pos (by decide +kernel)]; kernel_rfl) | (rw [if_neg (by decide +kernel)]; exact ⟨rfl, rfl⟩))
    (fun os started H enc _ => lifted os started H enc)

theorem proved : Rows.GuestSeatsCardSaid :=
  Claim7.holds_tied_plain_at .later [] [.funcs] true Rows.guestSeatsCard.stood.harness false
    over (fun _ h => by cases h) (by kernel_rfl) (fun _ h => by cases h) guestSeats_row_tie rfl ⟨rfl, rfl⟩ (by kernel_rfl) rfl
    (fun f fn hf hfn => by
      obtain rfl : f = 4 := Option.some.inj ((show (Tryz.prog).funcNamed "kreisel/kreisellaw10.GuestSeats" = some 4 by kernel_rfl).symm.trans hf) |>.symm
      obtain rfl : fn = Tryz.f4 := (Option.some.inj ((Tryz.func4).symm.trans hfn)).symm
      exact ⟨by kernel_rfl, fun j t ht => by
        rw [Tryz.params4] at ht
        have hm : t ∈ [65, 3, 36] := by simpa using Array.mem_of_getElem? ht
        have hall : ([65, 3, 36].all fun u => !(Tryz.prog).wantsStandIn u) = true := by kernel_rfl
        exact (show (Tryz.prog).wantsStandIn t = false by simpa using List.all_eq_true.1 hall t hm)⟩)
    (by kernel_rfl)
#print axioms proved
end Go.Proofs.YtihkmkocgmkcjaaGreatDoor.lawGuestSeats
