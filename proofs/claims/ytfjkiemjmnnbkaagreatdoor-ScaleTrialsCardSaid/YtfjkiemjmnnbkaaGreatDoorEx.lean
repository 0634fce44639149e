/-
  The chapter's examples: what the plain laws answer at them, by the kernel's reckoning.
-/
import Derived.Test.YtfjkiemjmnnbkaaGreatDoorPl
import Derived.Test.YtfjkiemjmnnbkaaGreatDoorTsA
import Derived.Test.YtfjkiemjmnnbkaaGreatDoorTq
import Derived.Test.YtfjkiemjmnnbkaaGreatDoorPl
namespace Kr
/-- The bay of the examples. -/
def exBay : List Scale := [⟨3, 10, ⟨-10, 10⟩, ⟨-20, 20⟩, [⟨100000, 100000⟩]⟩, ⟨5, 100, ⟨-1, 1⟩, ⟨0, 0⟩, []⟩]
/-- The gear of the examples. -/
def exGear : Gear := ⟨[⟨3, 95000⟩, ⟨5, 210000⟩], 2000, 50, 2, [85, 88], [410, 414], 5, true⟩
/-- The norm of the examples. -/
def exNorm (hi warm : Int) : Norm := ⟨⟨300000, hi⟩, 6000, warm, ⟨405, 415⟩, true⟩
theorem ex_tunes0 : (right exBay[0] = true) ∧ tunes exBay[0] = [⟨0, ⟨0, 9⟩⟩] := by decide +kernel
theorem ex_reads : reads exBay[1] 210000 = (⟨209700, 210200⟩, 0) := by decide +kernel
theorem ex_warm : warm exGear = ([⟨31, 39⟩, ⟨34, 42⟩], 0) := by decide +kernel
theorem ex_hard : hard exGear = (⟨409, 415⟩, 0) := by decide +kernel
theorem ex_tot : totals exBay exGear = [⟨306782, 306899⟩, ⟨306991, 307108⟩, ⟨307202, 307319⟩] := by rw [totalsI_eq]; decide +kernel
theorem ex_tot0 : totals exBay { exGear with added := 0 } = [⟨304782, 304899⟩, ⟨304991, 305108⟩, ⟨305202, 305319⟩] := by rw [totalsI_eq]; decide +kernel
theorem ex_totals : Go.Proofs.YtfjkiemjmnnbkaaGreatDoor.totalsR exBay exGear = ([⟨306782, 306899⟩, ⟨306991, 307108⟩, ⟨307202, 307319⟩], 0) := by unfold Go.Proofs.YtfjkiemjmnnbkaaGreatDoor.totalsR; rw [ex_tot]; decide +kernel
theorem ex_judge (hi warm : Int) (ps : List Int) (w : Int) (h : (if check exBay exGear ≠ 0 then (([], 0), check exBay exGear) else if normB (exNorm hi warm) = false then (([], 0), 42)
  else if (hard exGear).2 ≠ 0 then (([], 0), (hard exGear).2)
  else (([knownR [⟨306782, 306899⟩, ⟨306991, 307108⟩, ⟨307202, 307319⟩] (exNorm hi warm).total, sureR (decide (exGear.added ≤ (exNorm hi warm).added)), warmOf exGear (exNorm hi warm).warm, knownR [(hard exGear).1] (exNorm hi warm).hard, sureR (exGear.stamp || !(exNorm hi warm).stamp)],
    minOf [knownR [⟨306782, 306899⟩, ⟨306991, 307108⟩, ⟨307202, 307319⟩] (exNorm hi warm).total, sureR (decide (exGear.added ≤ (exNorm hi warm).added)), warmOf exGear (exNorm hi warm).warm, knownR [(hard exGear).1] (exNorm hi warm).hard, sureR (exGear.stamp || !(exNorm hi warm).stamp)]), 0)) = ((ps, w), 0)) :
    judgeR exBay exGear (exNorm hi warm) = ((ps, w), 0) := by
  unfold judgeR partsJ
  rw [ex_tot, if_neg (show ¬ ([⟨306782, 306899⟩, ⟨306991, 307108⟩, ⟨307202, 307319⟩] : List Span) = [] by simp)]
  exact h
theorem ex_judged : judgeR exBay exGear (exNorm 307150 40) = (([1, 2, 1, 2, 2], 1), 0) := ex_judge _ _ _ _ (by decide +kernel)
theorem ex_again : againR exBay exGear exGear (exNorm 307319 40) = (2, 0) := by unfold againR; rw [ex_tot]; decide +kernel
theorem ex_ballast : ballastR exBay exGear ⟨⟨306000, 310000⟩, 6000, 40, ⟨405, 415⟩, true⟩ [5000, 2000, 1000] = ([1], 0) := by unfold ballastR; rw [ex_tot0]; decide +kernel
theorem ex_truth : (Go.Proofs.YtfjkiemjmnnbkaaGreatDoor.truthR exBay exGear 306782).1.1.map (fun q => (q.gain, q.off)) = [(0, 9), (1, 0)] ∧ (Go.Proofs.YtfjkiemjmnnbkaaGreatDoor.truthR exBay exGear 306782).1.2 = [94991, 209791] ∧ (Go.Proofs.YtfjkiemjmnnbkaaGreatDoor.truthR exBay exGear 306782).2 = 0 := by
  unfold Go.Proofs.YtfjkiemjmnnbkaaGreatDoor.truthR
  rw [truthI_eq]
  decide +kernel
end Kr
