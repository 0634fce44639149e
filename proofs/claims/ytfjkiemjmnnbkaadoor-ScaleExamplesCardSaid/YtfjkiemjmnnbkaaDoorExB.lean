/-
  The values of the chapter's other examples.
-/
import Derived.Test.YtfjkiemjmnnbkaaDoorAl
namespace Kr
def exTorn : List Scale := [⟨3, 0, ⟨-10, 10⟩, ⟨-20, 20⟩, [⟨100000, 100000⟩]⟩, ⟨5, 100, ⟨-1, 1⟩, ⟨0, 0⟩, []⟩]
def exOdd : Gear := ⟨[⟨3, 95005⟩, ⟨5, 210000⟩], 2000, 50, 2, [85, 88], [410, 414], 5, true⟩
def exDeaf : Gear := ⟨[⟨3, 95000⟩, ⟨5, 210000⟩], 2000, 50, 2, [85, 88], [400, 411], 5, true⟩
def exLost : List Scale := [⟨3, 10, ⟨-10, 10⟩, ⟨-20, 20⟩, [⟨100000, 100000⟩, ⟨100000, 100100⟩]⟩, ⟨5, 100, ⟨-1, 1⟩, ⟨0, 0⟩, []⟩]
theorem ex_tunes1 : right exBay[1] = true ∧ tunes exBay[1] = [⟨-1, ⟨0, 0⟩⟩, ⟨0, ⟨0, 0⟩⟩, ⟨1, ⟨0, 0⟩⟩] := by decide +kernel
theorem ex_judged2 : judgeR exBay exGear (exNorm 307319 42) = (([2, 2, 2, 2, 2], 2), 0) := ex_judge _ _ _ _ (by decide +kernel)
theorem ex_judged3 : judgeR exBay exGear (exNorm 306781 40) = (([0, 2, 1, 2, 2], 0), 0) := ex_judge _ _ _ _ (by decide +kernel)
theorem ex_reads0 : reads exBay[0] 95000 = (⟨95000, 95000⟩, 0) := by decide +kernel
theorem ex_readsArg : (reads exBay[0] (-1)).2 = 2 := by decide +kernel
theorem ex_torn : Go.Proofs.YtfjkiemjmnnbkaaDoor.totalsR exTorn exOdd = ([], 40) := by unfold Go.Proofs.YtfjkiemjmnnbkaaDoor.totalsR; rw [if_neg (by decide +kernel), show check exTorn exOdd = 40 by decide +kernel]
theorem ex_odd : Go.Proofs.YtfjkiemjmnnbkaaDoor.totalsR exBay exOdd = ([], 41) := by unfold Go.Proofs.YtfjkiemjmnnbkaaDoor.totalsR; rw [if_neg (by decide +kernel), show check exBay exOdd = 41 by decide +kernel]
theorem ex_bad : judgeR exBay exGear ⟨⟨0, 0⟩, 0, 1001, ⟨0, 0⟩, false⟩ = (([], 0), 42) := by unfold judgeR; rw [if_neg (by decide +kernel), if_pos (by decide +kernel)]
theorem ex_deaf : judgeR exBay exDeaf (exNorm 310000 40) = (([], 0), 8) := by
  have e : totals exBay exDeaf = totals exBay exGear := rfl
  unfold judgeR
  rw [e, ex_tot, if_neg (by decide +kernel), if_neg (by decide +kernel), if_neg (by simp), if_pos (by decide +kernel), show (hard exDeaf).2 = 8 by decide +kernel]
theorem ex_deafHard : (hard exDeaf).2 = 8 := by decide +kernel
theorem ex_lost : Go.Proofs.YtfjkiemjmnnbkaaDoor.totalsR exLost exGear = ([], 6) := by
  have e : totals exLost exGear = [] := by rw [totalsI_eq]; decide +kernel
  unfold Go.Proofs.YtfjkiemjmnnbkaaDoor.totalsR
  rw [e, if_pos (by decide +kernel)]
  rfl
theorem ex_lostTunes : right exLost[0] = true ∧ tunes exLost[0] = [] := by decide +kernel
theorem ex_none : Go.Proofs.YtfjkiemjmnnbkaaDoor.truthR exBay exGear 306900 = (([], []), 6) := by
  unfold Go.Proofs.YtfjkiemjmnnbkaaDoor.truthR
  rw [truthI_eq]
  decide +kernel
theorem ex_ballArg : ballastR exBay exGear (exNorm 310000 40) [-1] = ([], 2) := by unfold ballastR; rw [if_neg (by decide +kernel), if_neg (by decide +kernel), if_pos (by decide +kernel)]
theorem ex_ballBad : ballastR exBay exGear (exNorm 305000 40) [] = ([], 8) := by unfold ballastR; rw [ex_tot0]; decide +kernel
end Kr
