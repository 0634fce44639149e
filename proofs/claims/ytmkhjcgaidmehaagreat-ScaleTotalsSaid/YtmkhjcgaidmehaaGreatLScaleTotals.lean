/-
  'Rows.ScaleTotalsSaid': for every input ScaleTotals returns true, and the input reads as it read.
-/
import Derived.Test.YtmkhjcgaidmehaaGreatRow
import Derived.Test.YtmkhjcgaidmehaaGreatLB
import Derived.ProofKit
import Derived.OpenShut
import Derived.ChangeOld
import Derived.Below
namespace Go.Proofs.YtmkhjcgaidmehaaGreat.lawScaleTotals
open Go.ChangeShapes Go.WideShapes Go.ChangeAt Go.RowKit Kr
set_option linter.unusedVariables false

theorem own : ownKnob (Tryz.prog).godebug = none := by kernel_rfl
theorem laidOut : laidOutB Tryz.prog = true := by kernel_rfl

set_option maxRecDepth 100000 in
theorem lifted (os : Os) (started : os.Started) (H : Type) (enc : TypeId × Value → H) :
    ReturnsInHanded {} Tryz.checked os 3 .any (Rows.scaleTotalsSpec.pre6 enc Tryz.prog Tryz.f3 Rows.scaleTotalsRow.domain false) (Rows.scaleTotalsSpec.post enc Tryz.prog Tryz.f3 false true false false) := by
  refine returnsInHanded_of_change (C := Tryz.checked) own started (by kernel_rfl) Tryz.func3
    (ChangeSpec.witness6 (enc := enc) (C := Tryz.checked) false ⟨#[], #[.agg #[.slice none 0 0], .agg #[.slice none 0 0, .int .i64 0, .int .i64 0, .int .i64 0, .slice none 0 0, .slice none 0 0, .int .i64 0, .bool false], .int .i64 0], []⟩ 8 (by kernel_rfl) (by kernel_rfl) (by kernel_rfl) (by kernel_rfl)) ?_
  intro W base args ds gs before hval0 hW hcnd _
  have hval : ∀ (j : Nat) t v, (Tryz.f3).params[j]? = some t → args[j]? = some v → Value.okWide Tryz.prog W .any base t v := hval0
  have hW' := hW
  obtain ⟨p, q, hA0, hV, rfl, hfz, hnd⟩ := hW
  have hA : DataW.TrodAll enc Tryz.prog W 0 (fun _ => true) true (Tryz.f3).params.toList args.toList ds p := hA0
  rw [Tryz.params3] at hA hval
  obtain ⟨v0, vs0, d0, ds0, p0, q0, hargs, rfl, rfl, h0, r0⟩ := trodAll_cons hA
  obtain ⟨v1, vs1, d1, ds1, p1, q1, rfl, rfl, rfl, h1, r1⟩ := trodAll_cons r0
  obtain ⟨v2, vs2, d2, ds2, p2, q2, rfl, rfl, rfl, h2, r2⟩ := trodAll_cons r1
  obtain ⟨rfl, rfl, rfl⟩ := trodAll_nil r2
  obtain rfl : args = #[v0, v1, v2] := by cases args; simp_all
  obtain ⟨rfl, rfl⟩ := trodVars_none hV
  have k0 := h0
  have k1 := h1
  have lt0 : ∀ x ∈ p0, x.block < W.heap.size := by obtain ⟨m, hm⟩ := k0; exact DataW.trod_lt m _ _ _ hm
  have lt1 : ∀ x ∈ p1, x.block < W.heap.size := by obtain ⟨m, hm⟩ := k1; exact DataW.trod_lt m _ _ _ hm
  obtain ⟨b, rfl, hb⟩ : ∃ y : Value × List (Scale × Value), v0 = .agg #[y.1] ∧ BayAt W y.1 y.2 := by
    obtain ⟨fuel, hf⟩ := h0
    obtain ⟨y, e, hy⟩ := reads_Bay fuel _ _ hf
    obtain ⟨cs, rfl⟩ := okWide_struct Tryz.underlying24 (hval 0 24 v0 rfl rfl)
    exact ⟨y, congrArg Value.agg (Array.toList_inj.1 (by simpa [Value.cells] using e)), hy⟩
  obtain ⟨g, rfl, hg1, hg2, hg3, hg4⟩ : ∃ x : Gear × Value × Value × Value, v1 = .agg #[x.2.1, .int .i64 x.1.added, .int .i64 x.1.base, .int .i64 x.1.jitter, x.2.2.1, x.2.2.2, .int .i64 x.1.spread, .bool x.1.stamp] ∧ IsRow (fun t : Kr.Load => [.int .i64 t.scale, .int .i64 t.shown]) 2 W x.2.1 x.1.loads ∧ IsRow (fun x : Int => [.int .i64 x]) 1 W x.2.2.1 x.1.runners ∧ IsRow (fun x : Int => [.int .i64 x]) 1 W x.2.2.2 x.1.strokes ∧ ∀ l ∈ x.1.loads, (Lit.int .i64 l.scale).wf = true := by
    obtain ⟨fuel, hf⟩ := h1
    obtain ⟨y, e, hy⟩ := reads_Gear fuel _ _ hf
    obtain ⟨cs, rfl⟩ := okWide_struct Tryz.underlying28 (hval 1 28 v1 rfl rfl)
    exact ⟨y, congrArg Value.agg (Array.toList_inj.1 (by simpa [Value.cells] using e)), hy⟩
  obtain ⟨total, rfl, rfl, rfl, w2⟩ := open_int Tryz.underlying3 (hval 2 3 v2 rfl rfl) h2
  clear hA0 hval0
  refine (l04b_any b.2 b.1 g.1 g.2.1 g.2.2.1 g.2.2.2 total W hb hg1 hg2 hg3 hg4).mono fun e W' ⟨he, bel⟩ => ?_
  subst he
  have bel := bel.below
  exact ⟨_, rfl, _, _, _, [], _, [], hW', trodAll_mk1 (shut_bool Tryz.underlying4 _), (trodAll_cons_mk (Below.trod laidOut (by kernel_rfl) (of_decide_eq_true (by kernel_rfl)) k0 bel lt0) (trodAll_cons_mk (Below.trod laidOut (by kernel_rfl) (of_decide_eq_true (by kernel_rfl)) k1 bel lt1) (trodAll_cons_mk (shut_int Tryz.underlying3 w2) trodAll_mk0))), rfl, bel.frame _, fun h => by cases h⟩

theorem over : Rows.scaleTotalsRow.holds Tryz.pinned (OpenSpec.ofChange Rows.scaleTotalsSpec) :=
  OpenClaim.holds_of_wide 3 Tryz.f3 rfl rfl rfl rfl rfl rfl rfl ⟨rfl, rfl, rfl, rfl, rfl⟩ rfl rfl rfl rfl rfl (by kernel_rfl) Tryz.func3 (by kernel_rfl)
    (of_decide_eq_true (by kernel_rfl)) (by unfold Func.isWrapper; first | (rw [if_pos (by decide +kernel)]; kernel_rfl) | (rw [if_neg (by decide +kernel)]; exact ⟨rfl, rfl⟩))
    (fun os started H enc _ => lifted os started H enc)

theorem proved : Rows.ScaleTotalsSaid := over
#print axioms proved
end Go.Proofs.YtmkhjcgaidmehaaGreat.lawScaleTotals
