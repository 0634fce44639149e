/-
  Walks of the reference: which pieces are added.
-/
import Derived.Test.YtomcenfikdmmkaaGreatDoorJi
import Derived.Test.YtomcenfikdmmkaaGreatDoorJg
namespace Go.Proofs.YtomcenfikdmmkaaGreatDoor
open Go.RowKit Kr
set_option linter.unusedSimpArgs false

theorem check_added0 {b : List Scale} {g : Gear} (h : check b g = 0) : check b { g with added := 0 } = 0 := by
  obtain ⟨h1, h2⟩ := check_zero h
  have h3 : gearOk b { g with added := 0 } = true := by
    unfold gearOk bare at h2 ⊢
    simp [inb] at h2 ⊢
    obtain ⟨⟨h4, h5⟩, h6⟩ := h2
    exact ⟨⟨h4, h5⟩, by simp_all⟩
  unfold check
  rw [h1, h3]
  rfl
theorem ballast_err {b : List Scale} {g : Gear} {n : Norm} {pieces : List Int} (h : check b g ≠ 0) : ballastR b g n pieces = ([], check b g) := by unfold ballastR; rw [if_pos h]
theorem ballast_norm {b : List Scale} {g : Gear} {n : Norm} {pieces : List Int} (h : check b g = 0) (h1 : normB n = false) : ballastR b g n pieces = ([], 42) := by unfold ballastR; rw [if_neg (by simp [h]), if_pos h1]
theorem ballast_arg {b : List Scale} {g : Gear} {n : Norm} {pieces : List Int} (h : check b g = 0) (h1 : normB n = true) (h2 : (inAll 0 1000000 pieces && decide (pieces.length ≤ 8)) = false) : ballastR b g n pieces = ([], 2) := by unfold ballastR; rw [if_neg (by simp [h]), if_neg (by simp [h1]), if_pos h2]
theorem ballast_none {b : List Scale} {g : Gear} {n : Norm} {pieces : List Int} (h : check b g = 0) (h1 : normB n = true) (h2 : (inAll 0 1000000 pieces && decide (pieces.length ≤ 8)) = true) (h3 : totals b { g with added := 0 } = []) : ballastR b g n pieces = ([], 6) := by unfold ballastR; rw [if_neg (by simp [h]), if_neg (by simp [h1]), if_neg (by simp [h2]), if_pos h3]
def outC : Option Choice → List Nat × Int
  | none => ([], 8)
  | some c => (c.pieces, 0)
theorem ballast_all {b : List Scale} {g : Gear} {n : Norm} {pieces : List Int} (h : check b g = 0) (h1 : normB n = true) (h2 : (inAll 0 1000000 pieces && decide (pieces.length ≤ 8)) = true) (h3 : totals b { g with added := 0 } ≠ []) : ballastR b g n pieces = outC (bestOf n (totals b { g with added := 0 }) pieces (2 ^ pieces.length)) := by
  unfold ballastR
  rw [if_neg (by simp [h]), if_neg (by simp [h1]), if_neg (by simp [h2]), if_neg h3]
  cases bestOf n (totals b { g with added := 0 }) pieces (2 ^ pieces.length) <;> rfl
theorem norm_bounds {n : Norm} (h : normB n = true) : (0 ≤ n.total.lo ∧ n.total.lo ≤ n.total.hi ∧ n.total.hi ≤ 10000000) ∧ 0 ≤ n.added ∧ n.added ≤ 1000000 := by
  unfold normB ordered inb at h
  simp at h
  omega

theorem wrap_pow : ∀ l : Fin 9, wrap64 ((2 : Int) ^ l.1) = ((2 ^ l.1 : Nat) : Int) := by decide +kernel
/-- The best choice of the first sets: its pieces, and what it weighs. -/
def BestIs (n : Norm) (T : List Span) (pieces : List Int) (k : Nat) (P : List Nat) (W : Int) : Prop :=
  (bestOf n T pieces k = none ∧ P = [] ∧ W = -1) ∨ (∃ c, bestOf n T pieces k = some c ∧ P = c.pieces ∧ W = c.weight ∧ 0 ≤ c.weight)

set_option maxRecDepth 4000 in
set_option maxHeartbeats 4000000 in
theorem r04_Ballast_any (ts : List (Kr.Scale × Value)) (v : Value) (g : Gear) (lv rv sv : Value) (n : Norm) (pieces : List Int) (pv : Value) (w : World) (hb : BayAt w v ts) (hg : GearAt w (g, lv, rv, sv)) (hp : IsRow (fun x : Int => [.int .i64 x]) 1 w pv pieces) :
    Calls Tryz.prog 14 #[.agg #[v], .agg #[lv, .int .i64 g.added, .int .i64 g.base, .int .i64 g.jitter, rv, sv, .int .i64 g.spread, .bool g.stamp], .agg #[.int .i64 n.total.lo, .int .i64 n.total.hi, .int .i64 n.added, .int .i64 n.warm, .int .i64 n.hard.lo, .int .i64 n.hard.hi, .bool n.stamp], pv] w fun e w' => ∃ vp, e = .returned (.tuple #[vp, .int .i64 (ballastR (ts.map Prod.fst) g n pieces).2]) ∧ IsRow (fun x : Nat => [.int .i64 (x : Int)]) 1 w' vp (ballastR (ts.map Prod.fst) g n pieces).1 ∧ w.Exts w' := by
  obtain ⟨p, cap, hv⟩ := hb.row.len
  subst hv
  obtain ⟨qp, cp, rfl⟩ := hp.len
  have hl1 := hg.l
  have hl2 := hg.r
  have hl3 := hg.s
  dsimp only at hl1 hl2 hl3
  obtain ⟨p1, cap1, rfl⟩ := hl1.len
  obtain ⟨p2, cap2, rfl⟩ := hl2.len
  obtain ⟨p3, cap3, rfl⟩ := hl3.len
  have HG := Lib.hid hg
  clear hg
  have e8 : decide ((pieces.length : Int) ≤ 8) = decide (pieces.length ≤ 8) := by rw [decide_eq_decide]; omega
  have HE8 := Lib.hid e8
  clear e8
  have HB := Lib.hid hb
  clear hb
  have HP := Lib.hid hp
  clear hp
  clear hl1 hl2 hl3
  by_cases hz : check (ts.map Prod.fst) g = 0
  · obtain ⟨hga, hn, hrt⟩ := gearAsk (check_added0 hz)
    cases hnb : normB n
    · rw [ballast_norm hz hnb]
      have HN := Lib.hid hnb
      clear hnb
      have HE := Lib.hid hz
      clear hz
      clear hga hrt
      go_enter Tryz.func14, Tryz.ntmps14
      go_wp2_with (first
        | (go_at_call 32; refine (r04_Check_any ts _ g _ _ _ _ (HB.out.mono (by repeat' (first | with_reducible exact World.Exts.refl _ | with_reducible refine World.Exts.alloc ?_ _ | with_reducible refine World.Exts.drew ?_ | with_reducible refine World.Exts.drewN ?_ _ | with_reducible refine World.Exts.ext ?_ _ | with_reducible refine World.Exts.setCell ?_ ?_ _ | (simp; done) | exact World.size_ext_le _ _ | (simp; omega)))) (HG.out.l.mono (by repeat' (first | with_reducible exact World.Exts.refl _ | with_reducible refine World.Exts.alloc ?_ _ | with_reducible refine World.Exts.drew ?_ | with_reducible refine World.Exts.drewN ?_ _ | with_reducible refine World.Exts.ext ?_ _ | with_reducible refine World.Exts.setCell ?_ ?_ _ | (simp; done) | exact World.size_ext_le _ _ | (simp; omega)))) (HG.out.r.mono (by repeat' (first | with_reducible exact World.Exts.refl _ | with_reducible refine World.Exts.alloc ?_ _ | with_reducible refine World.Exts.drew ?_ | with_reducible refine World.Exts.drewN ?_ _ | with_reducible refine World.Exts.ext ?_ _ | with_reducible refine World.Exts.setCell ?_ ?_ _ | (simp; done) | exact World.size_ext_le _ _ | (simp; omega)))) (HG.out.s.mono (by repeat' (first | with_reducible exact World.Exts.refl _ | with_reducible refine World.Exts.alloc ?_ _ | with_reducible refine World.Exts.drew ?_ | with_reducible refine World.Exts.drewN ?_ _ | with_reducible refine World.Exts.ext ?_ _ | with_reducible refine World.Exts.setCell ?_ ?_ _ | (simp; done) | exact World.size_ext_le _ _ | (simp; omega))))).mono ?_; rintro e w' ⟨rfl, X2, rfl⟩; rw [HE.out])
        | (go_at_call 21; refine (r04_Norm_any n _).mono ?_; rintro e w' ⟨rfl, X3, rfl⟩; rw [HN.out])
        | (go_at_call 44; refine (r04_numbers_any pieces _ 8 0 1000000 _ (HP.out.mono (by repeat' (first | with_reducible exact World.Exts.refl _ | with_reducible refine World.Exts.alloc ?_ _ | with_reducible refine World.Exts.drew ?_ | with_reducible refine World.Exts.drewN ?_ _ | with_reducible refine World.Exts.ext ?_ _ | with_reducible refine World.Exts.setCell ?_ ?_ _ | (simp; done) | exact World.size_ext_le _ _ | (simp; omega))))).mono ?_; rintro e w' ⟨rfl, X4, rfl⟩; rw [HE8.out, HPC.out])
        | (go_at_call 33; refine (r04_totals_any ts _ { g with added := 0 } _ _ _ _ (HB.out.mono (by repeat' (first | with_reducible exact World.Exts.refl _ | with_reducible refine World.Exts.alloc ?_ _ | with_reducible refine World.Exts.drew ?_ | with_reducible refine World.Exts.drewN ?_ _ | with_reducible refine World.Exts.ext ?_ _ | with_reducible refine World.Exts.setCell ?_ ?_ _ | (simp; done) | exact World.size_ext_le _ _ | (simp; omega)))) (HG0.out.mono (by repeat' (first | with_reducible exact World.Exts.refl _ | with_reducible refine World.Exts.alloc ?_ _ | with_reducible refine World.Exts.drew ?_ | with_reducible refine World.Exts.drewN ?_ _ | with_reducible refine World.Exts.ext ?_ _ | with_reducible refine World.Exts.setCell ?_ ?_ _ | (simp; done) | exact World.size_ext_le _ _ | (simp; omega)))) hn HRT.out h6 HSH.out ad).mono ?_; rw [HD.out]; rintro e w' ⟨vt, rfl, ht, X5, rfl⟩; obtain ⟨qt, ct, rfl⟩ := ht.len; have HT := Lib.hid ht; clear ht))
      go_ret2
      exact ⟨_, rfl, IsRow.nil _, (by repeat' (first | with_reducible exact World.Exts.refl _ | with_reducible refine World.Exts.alloc ?_ _ | with_reducible refine World.Exts.drew ?_ | with_reducible refine World.Exts.drewN ?_ _ | with_reducible refine World.Exts.ext ?_ _ | with_reducible refine World.Exts.setCell ?_ ?_ _ | (simp; done) | exact World.size_ext_le _ _ | (simp; omega)))⟩
    cases hpc : (inAll 0 1000000 pieces && decide (pieces.length ≤ 8))
    · rw [ballast_arg hz hnb hpc]
      have HN := Lib.hid hnb
      clear hnb
      have HE := Lib.hid hz
      clear hz
      have HPC := Lib.hid hpc
      clear hpc
      clear hga hrt
      go_enter Tryz.func14, Tryz.ntmps14
      go_wp2_with (first
        | (go_at_call 32; refine (r04_Check_any ts _ g _ _ _ _ (HB.out.mono (by repeat' (first | with_reducible exact World.Exts.refl _ | with_reducible refine World.Exts.alloc ?_ _ | with_reducible refine World.Exts.drew ?_ | with_reducible refine World.Exts.drewN ?_ _ | with_reducible refine World.Exts.ext ?_ _ | with_reducible refine World.Exts.setCell ?_ ?_ _ | (simp; done) | exact World.size_ext_le _ _ | (simp; omega)))) (HG.out.l.mono (by repeat' (first | with_reducible exact World.Exts.refl _ | with_reducible refine World.Exts.alloc ?_ _ | with_reducible refine World.Exts.drew ?_ | with_reducible refine World.Exts.drewN ?_ _ | with_reducible refine World.Exts.ext ?_ _ | with_reducible refine World.Exts.setCell ?_ ?_ _ | (simp; done) | exact World.size_ext_le _ _ | (simp; omega)))) (HG.out.r.mono (by repeat' (first | with_reducible exact World.Exts.refl _ | with_reducible refine World.Exts.alloc ?_ _ | with_reducible refine World.Exts.drew ?_ | with_reducible refine World.Exts.drewN ?_ _ | with_reducible refine World.Exts.ext ?_ _ | with_reducible refine World.Exts.setCell ?_ ?_ _ | (simp; done) | exact World.size_ext_le _ _ | (simp; omega)))) (HG.out.s.mono (by repeat' (first | with_reducible exact World.Exts.refl _ | with_reducible refine World.Exts.alloc ?_ _ | with_reducible refine World.Exts.drew ?_ | with_reducible refine World.Exts.drewN ?_ _ | with_reducible refine World.Exts.ext ?_ _ | with_reducible refine World.Exts.setCell ?_ ?_ _ | (simp; done) | exact World.size_ext_le _ _ | (simp; omega))))).mono ?_; rintro e w' ⟨rfl, X2, rfl⟩; rw [HE.out])
        | (go_at_call 21; refine (r04_Norm_any n _).mono ?_; rintro e w' ⟨rfl, X3, rfl⟩; rw [HN.out])
        | (go_at_call 44; refine (r04_numbers_any pieces _ 8 0 1000000 _ (HP.out.mono (by repeat' (first | with_reducible exact World.Exts.refl _ | with_reducible refine World.Exts.alloc ?_ _ | with_reducible refine World.Exts.drew ?_ | with_reducible refine World.Exts.drewN ?_ _ | with_reducible refine World.Exts.ext ?_ _ | with_reducible refine World.Exts.setCell ?_ ?_ _ | (simp; done) | exact World.size_ext_le _ _ | (simp; omega))))).mono ?_; rintro e w' ⟨rfl, X4, rfl⟩; rw [HE8.out, HPC.out])
        | (go_at_call 33; refine (r04_totals_any ts _ { g with added := 0 } _ _ _ _ (HB.out.mono (by repeat' (first | with_reducible exact World.Exts.refl _ | with_reducible refine World.Exts.alloc ?_ _ | with_reducible refine World.Exts.drew ?_ | with_reducible refine World.Exts.drewN ?_ _ | with_reducible refine World.Exts.ext ?_ _ | with_reducible refine World.Exts.setCell ?_ ?_ _ | (simp; done) | exact World.size_ext_le _ _ | (simp; omega)))) (HG0.out.mono (by repeat' (first | with_reducible exact World.Exts.refl _ | with_reducible refine World.Exts.alloc ?_ _ | with_reducible refine World.Exts.drew ?_ | with_reducible refine World.Exts.drewN ?_ _ | with_reducible refine World.Exts.ext ?_ _ | with_reducible refine World.Exts.setCell ?_ ?_ _ | (simp; done) | exact World.size_ext_le _ _ | (simp; omega)))) hn HRT.out h6 HSH.out ad).mono ?_; rw [HD.out]; rintro e w' ⟨vt, rfl, ht, X5, rfl⟩; obtain ⟨qt, ct, rfl⟩ := ht.len; have HT := Lib.hid ht; clear ht))
      go_ret2
      exact ⟨_, rfl, IsRow.nil _, (by repeat' (first | with_reducible exact World.Exts.refl _ | with_reducible refine World.Exts.alloc ?_ _ | with_reducible refine World.Exts.drew ?_ | with_reducible refine World.Exts.drewN ?_ _ | with_reducible refine World.Exts.ext ?_ _ | with_reducible refine World.Exts.setCell ?_ ?_ _ | (simp; done) | exact World.size_ext_le _ _ | (simp; omega)))⟩
    obtain ⟨h6, sh, ad, neat, win, _⟩ := hga
    generalize hd : totals (ts.map Prod.fst) { g with added := 0 } = T at neat win
    have hg0 : GearAt w ({ g with added := 0 }, .slice p1 g.loads.length cap1, .slice p2 g.runners.length cap2, .slice p3 g.strokes.length cap3) := ⟨HG.out.l, HG.out.r, HG.out.s, HG.out.len, HG.out.wf⟩
    rcases T with _ | ⟨s0, sr⟩
    · rw [ballast_none hz hnb hpc hd]
      have HN := Lib.hid hnb
      clear hnb
      have HE := Lib.hid hz
      clear hz
      have HPC := Lib.hid hpc
      clear hpc
      have HD := Lib.hid hd
      clear hd
      have HG0 := Lib.hid hg0
      clear hg0
      have HRT := Lib.hid hrt
      clear hrt
      have HSH := Lib.hid sh
      clear sh
      go_enter Tryz.func14, Tryz.ntmps14
      go_wp2_with (first
        | (go_at_call 32; refine (r04_Check_any ts _ g _ _ _ _ (HB.out.mono (by repeat' (first | with_reducible exact World.Exts.refl _ | with_reducible refine World.Exts.alloc ?_ _ | with_reducible refine World.Exts.drew ?_ | with_reducible refine World.Exts.drewN ?_ _ | with_reducible refine World.Exts.ext ?_ _ | with_reducible refine World.Exts.setCell ?_ ?_ _ | (simp; done) | exact World.size_ext_le _ _ | (simp; omega)))) (HG.out.l.mono (by repeat' (first | with_reducible exact World.Exts.refl _ | with_reducible refine World.Exts.alloc ?_ _ | with_reducible refine World.Exts.drew ?_ | with_reducible refine World.Exts.drewN ?_ _ | with_reducible refine World.Exts.ext ?_ _ | with_reducible refine World.Exts.setCell ?_ ?_ _ | (simp; done) | exact World.size_ext_le _ _ | (simp; omega)))) (HG.out.r.mono (by repeat' (first | with_reducible exact World.Exts.refl _ | with_reducible refine World.Exts.alloc ?_ _ | with_reducible refine World.Exts.drew ?_ | with_reducible refine World.Exts.drewN ?_ _ | with_reducible refine World.Exts.ext ?_ _ | with_reducible refine World.Exts.setCell ?_ ?_ _ | (simp; done) | exact World.size_ext_le _ _ | (simp; omega)))) (HG.out.s.mono (by repeat' (first | with_reducible exact World.Exts.refl _ | with_reducible refine World.Exts.alloc ?_ _ | with_reducible refine World.Exts.drew ?_ | with_reducible refine World.Exts.drewN ?_ _ | with_reducible refine World.Exts.ext ?_ _ | with_reducible refine World.Exts.setCell ?_ ?_ _ | (simp; done) | exact World.size_ext_le _ _ | (simp; omega))))).mono ?_; rintro e w' ⟨rfl, X2, rfl⟩; rw [HE.out])
        | (go_at_call 21; refine (r04_Norm_any n _).mono ?_; rintro e w' ⟨rfl, X3, rfl⟩; rw [HN.out])
        | (go_at_call 44; refine (r04_numbers_any pieces _ 8 0 1000000 _ (HP.out.mono (by repeat' (first | with_reducible exact World.Exts.refl _ | with_reducible refine World.Exts.alloc ?_ _ | with_reducible refine World.Exts.drew ?_ | with_reducible refine World.Exts.drewN ?_ _ | with_reducible refine World.Exts.ext ?_ _ | with_reducible refine World.Exts.setCell ?_ ?_ _ | (simp; done) | exact World.size_ext_le _ _ | (simp; omega))))).mono ?_; rintro e w' ⟨rfl, X4, rfl⟩; rw [HE8.out, HPC.out])
        | (go_at_call 33; refine (r04_totals_any ts _ { g with added := 0 } _ _ _ _ (HB.out.mono (by repeat' (first | with_reducible exact World.Exts.refl _ | with_reducible refine World.Exts.alloc ?_ _ | with_reducible refine World.Exts.drew ?_ | with_reducible refine World.Exts.drewN ?_ _ | with_reducible refine World.Exts.ext ?_ _ | with_reducible refine World.Exts.setCell ?_ ?_ _ | (simp; done) | exact World.size_ext_le _ _ | (simp; omega)))) (HG0.out.mono (by repeat' (first | with_reducible exact World.Exts.refl _ | with_reducible refine World.Exts.alloc ?_ _ | with_reducible refine World.Exts.drew ?_ | with_reducible refine World.Exts.drewN ?_ _ | with_reducible refine World.Exts.ext ?_ _ | with_reducible refine World.Exts.setCell ?_ ?_ _ | (simp; done) | exact World.size_ext_le _ _ | (simp; omega)))) hn HRT.out h6 HSH.out ad).mono ?_; rw [HD.out]; rintro e w' ⟨vt, rfl, ht, X5, rfl⟩; obtain ⟨qt, ct, rfl⟩ := ht.len; have HT := Lib.hid ht; clear ht))
      go_ret2
      exact ⟨_, rfl, IsRow.nil _, (by repeat' (first | with_reducible exact World.Exts.refl _ | with_reducible refine World.Exts.alloc ?_ _ | with_reducible refine World.Exts.drew ?_ | with_reducible refine World.Exts.drewN ?_ _ | with_reducible refine World.Exts.ext ?_ _ | with_reducible refine World.Exts.setCell ?_ ?_ _ | (simp; done) | exact World.size_ext_le _ _ | (simp; omega)))⟩
    rw [ballast_all hz hnb hpc (by rw [hd]; simp), hd]
    obtain ⟨hnb1, hnb2⟩ := norm_bounds hnb
    simp only [Bool.and_eq_true, decide_eq_true_eq] at hpc
    have hpb : ∀ x ∈ pieces, 0 ≤ x ∧ x ≤ 1000000 := fun x hx => by
      have := List.all_eq_true.1 hpc.1 x hx
      simpa [inb] using this
    have hpl := hpc.2
    have hpw := wrap_pow ⟨pieces.length, by omega⟩
    dsimp only at hpw
    have hN8 : 2 ^ pieces.length ≤ 256 := Nat.le_trans (Nat.pow_le_pow_right (by omega) hpl) (by decide : 2 ^ 8 ≤ 256)
    generalize 2 ^ pieces.length = N at hpw hN8 ⊢
    have hpc' : (inAll 0 1000000 pieces && decide (pieces.length ≤ 8)) = true := by simp [hpc]
    clear hpc
    have HN := Lib.hid hnb
    clear hnb
    have HE := Lib.hid hz
    clear hz
    have HPC := Lib.hid hpc'
    clear hpc'
    have HD := Lib.hid hd
    clear hd
    have HG0 := Lib.hid hg0
    clear hg0
    have HRT := Lib.hid hrt
    clear hrt
    have HSH := Lib.hid sh
    clear sh
    have HPB := Lib.hid hpb
    clear hpb
    have hz9 : (((sr.length : Int) + 1) == 0) = false := by rw [beq_eq_false_iff_ne]; omega
    go_enter Tryz.func14, Tryz.ntmps14
    go_wp2_with (first
      | (go_at_call 32; refine (r04_Check_any ts _ g _ _ _ _ (HB.out.mono (by repeat' (first | with_reducible exact World.Exts.refl _ | with_reducible refine World.Exts.alloc ?_ _ | with_reducible refine World.Exts.drew ?_ | with_reducible refine World.Exts.drewN ?_ _ | with_reducible refine World.Exts.ext ?_ _ | with_reducible refine World.Exts.setCell ?_ ?_ _ | (simp; done) | exact World.size_ext_le _ _ | (simp; omega)))) (HG.out.l.mono (by repeat' (first | with_reducible exact World.Exts.refl _ | with_reducible refine World.Exts.alloc ?_ _ | with_reducible refine World.Exts.drew ?_ | with_reducible refine World.Exts.drewN ?_ _ | with_reducible refine World.Exts.ext ?_ _ | with_reducible refine World.Exts.setCell ?_ ?_ _ | (simp; done) | exact World.size_ext_le _ _ | (simp; omega)))) (HG.out.r.mono (by repeat' (first | with_reducible exact World.Exts.refl _ | with_reducible refine World.Exts.alloc ?_ _ | with_reducible refine World.Exts.drew ?_ | with_reducible refine World.Exts.drewN ?_ _ | with_reducible refine World.Exts.ext ?_ _ | with_reducible refine World.Exts.setCell ?_ ?_ _ | (simp; done) | exact World.size_ext_le _ _ | (simp; omega)))) (HG.out.s.mono (by repeat' (first | with_reducible exact World.Exts.refl _ | with_reducible refine World.Exts.alloc ?_ _ | with_reducible refine World.Exts.drew ?_ | with_reducible refine World.Exts.drewN ?_ _ | with_reducible refine World.Exts.ext ?_ _ | with_reducible refine World.Exts.setCell ?_ ?_ _ | (simp; done) | exact World.size_ext_le _ _ | (simp; omega))))).mono ?_; rintro e w' ⟨rfl, X2, rfl⟩; rw [HE.out])
      | (go_at_call 21; refine (r04_Norm_any n _).mono ?_; rintro e w' ⟨rfl, X3, rfl⟩; rw [HN.out])
      | (go_at_call 44; refine (r04_numbers_any pieces _ 8 0 1000000 _ (HP.out.mono (by repeat' (first | with_reducible exact World.Exts.refl _ | with_reducible refine World.Exts.alloc ?_ _ | with_reducible refine World.Exts.drew ?_ | with_reducible refine World.Exts.drewN ?_ _ | with_reducible refine World.Exts.ext ?_ _ | with_reducible refine World.Exts.setCell ?_ ?_ _ | (simp; done) | exact World.size_ext_le _ _ | (simp; omega))))).mono ?_; rintro e w' ⟨rfl, X4, rfl⟩; rw [HE8.out, HPC.out])
      | (go_at_call 33; refine (r04_totals_any ts _ { g with added := 0 } _ _ _ _ (HB.out.mono (by repeat' (first | with_reducible exact World.Exts.refl _ | with_reducible refine World.Exts.alloc ?_ _ | with_reducible refine World.Exts.drew ?_ | with_reducible refine World.Exts.drewN ?_ _ | with_reducible refine World.Exts.ext ?_ _ | with_reducible refine World.Exts.setCell ?_ ?_ _ | (simp; done) | exact World.size_ext_le _ _ | (simp; omega)))) (HG0.out.mono (by repeat' (first | with_reducible exact World.Exts.refl _ | with_reducible refine World.Exts.alloc ?_ _ | with_reducible refine World.Exts.drew ?_ | with_reducible refine World.Exts.drewN ?_ _ | with_reducible refine World.Exts.ext ?_ _ | with_reducible refine World.Exts.setCell ?_ ?_ _ | (simp; done) | exact World.size_ext_le _ _ | (simp; omega)))) hn HRT.out h6 HSH.out ad).mono ?_; rw [HD.out]; rintro e w' ⟨vt, rfl, ht, X5, rfl⟩; obtain ⟨qt, ct, rfl⟩ := ht.len; have HT := Lib.hid ht; clear ht))
    have hwW : w.Exts (World.ext _ X5) := (by repeat' (first | with_reducible exact World.Exts.refl _ | with_reducible refine World.Exts.alloc ?_ _ | with_reducible refine World.Exts.drew ?_ | with_reducible refine World.Exts.drewN ?_ _ | with_reducible refine World.Exts.ext ?_ _ | with_reducible refine World.Exts.setCell ?_ ?_ _ | (simp; done) | exact World.size_ext_le _ _ | (simp; omega)))
    have hPV : IsRow (fun x : Int => [.int .i64 x]) 1 (World.ext _ X5) (.slice qp pieces.length cp) pieces := HP.out.mono (by repeat' (first | with_reducible exact World.Exts.refl _ | with_reducible refine World.Exts.alloc ?_ _ | with_reducible refine World.Exts.drew ?_ | with_reducible refine World.Exts.drewN ?_ _ | with_reducible refine World.Exts.ext ?_ _ | with_reducible refine World.Exts.setCell ?_ ?_ _ | (simp; done) | exact World.size_ext_le _ _ | (simp; omega)))
    have hTV := HT.out
    have b60 : (World.ext _ X5).cell? ⟨w.heap.size + 1 + 1, 0, none⟩ = some (.int .i64 n.total.lo) := by simp [go_sem]
    have b61 : (World.ext _ X5).cell? ⟨w.heap.size + 1 + 1, 1, none⟩ = some (.int .i64 n.total.hi) := by simp [go_sem]
    have b62 : (World.ext _ X5).cell? ⟨w.heap.size + 1 + 1, 2, none⟩ = some (.int .i64 n.added) := by simp [go_sem]
    clear HT
    generalize World.ext _ X5 = V at *
    have n6 := Lays.of_cell b60
    obtain ⟨pt, bt, ot, ct', et, hmt, hpt, hct⟩ := hTV.ex
    simp only [List.length_cons] at et hmt
    cases et
    obtain ⟨rfl, hlt9⟩ := hpt (by simp)
    have c00 := hct 0 s0 rfl 0 _ rfl
    obtain ⟨sl, hsl⟩ := some_of_lt (xs := s0 :: sr) (k := sr.length) (by simp)
    have cl1 := hct sr.length sl hsl 1 _ rfl
    simp only [Nat.zero_mul, Nat.add_zero] at c00
    have hfc : ∀ c, fitsC n (s0 :: sr) c = inb (n.total.lo - s0.lo) (min n.added (n.total.hi - sl.hi)) c.weight := fun c => by rw [fitsC_eq neat (by simp) c, getLastD_at hsl (by simp)]; rfl
    have hs1 := win s0 (List.mem_cons_self ..)
    have hs2 := win sl (List.mem_of_getElem? hsl)
    have hs3 := neat.1 s0 (List.mem_cons_self ..)
    have hs4 := neat.1 sl (List.mem_of_getElem? hsl)
    have HFC := Lib.hid hfc
    clear hfc
    have HPV := Lib.hid hPV
    clear hPV
    clear hTV hpt hct hsl neat win
    refine wp_region_ext (by kernel_rfl) (by kernel_rfl) ?_
    repeat (go_big_quiet_step (fail))
    refine wpQuiet_nil ?_
    rintro _ ⟨X, rfl⟩
    go_wp2_with fail
    go_loopw [14, 15, 16] (fun be le i wr => ∃ (k : Nat) (P : List Nat) (W : Int) (q : Option Addr) (c : Nat), k ≤ N ∧ i = .int .i64 k ∧ be = .slice q P.length c ∧ le = .int .i64 W ∧ Hid (BestIs n (s0 :: sr) pieces k P W) ∧ Hid (IsRow (fun x : Nat => [.int .i64 (x : Int)]) 1 wr be P) ∧ V.Exts wr) (fun _ _ i _ => N - (intOf i).toNat)
    case atStart => exact ⟨0, [], -1, none, 0, Nat.zero_le _, rfl, rfl, rfl, Lib.hid (.inl ⟨rfl, rfl, rfl⟩), Lib.hid (IsRow.nil _), (by repeat' (first | with_reducible exact World.Exts.refl _ | with_reducible refine World.Exts.alloc ?_ _ | with_reducible refine World.Exts.drew ?_ | with_reducible refine World.Exts.drewN ?_ _ | with_reducible refine World.Exts.ext ?_ _ | with_reducible refine World.Exts.setCell ?_ ?_ _ | (simp; done) | exact World.size_ext_le _ _ | (simp; omega)))⟩
    case round =>
      obtain ⟨k, P, W, q, c, hk, rfl, rfl, rfl, HBI, HRP, hE⟩ := hrel
      obtain ⟨X, rfl⟩ := hE
      by_cases hlt : k < N
      · have hmem : ∀ x ∈ membersN k pieces.length, x < pieces.length := fun x hx => membersN_lt hx
        have hmlen := membersN_len k pieces.length
        have hbs := bestOf_succ n (s0 :: sr) pieces k
        have hch : choiceOf pieces k = ⟨weighN pieces (membersN k pieces.length), membersN k pieces.length⟩ := rfl
        rw [hch] at hbs
        have hwb := weighN_bound HPB.out (membersN k pieces.length)
        have HBS := Lib.hid hbs
        clear hbs
        clear hch
        go_wp2_with (go_at_call 45; refine (r04_members_any k pieces.length (by omega) hpl _).mono ?_; rintro e w' ⟨vm, rfl, hm9, X6, rfl⟩; obtain ⟨qm, cm, rfl⟩ := hm9.len; have HM := Lib.hid hm9; clear hm9)
        generalize membersN k pieces.length = M at hmem hmlen hwb HBS HM ⊢
        obtain ⟨pm, bm, om, cm', em, hmm, hpm, hcm⟩ := HM.out.ex
        cases em
        obtain ⟨pp9, bp, op, cp', ep, hmp, hpp9, hcp⟩ := HPV.out.ex
        cases ep
        have HPM := Lib.hid hpm
        clear hpm
        have HCM := Lib.hid hcm
        clear hcm
        have HPP := Lib.hid hpp9
        clear hpp9
        have HCP := Lib.hid hcp
        clear hcp
        have HMEM := Lib.hid hmem
        clear hmem
        go_loopw [18, 19] (fun su j wr => ∃ m : Nat, m ≤ M.length ∧ j = .int .i64 m ∧ su = .int .i64 (weighN pieces (M.take m)) ∧ World.Exts (World.ext _ X6) wr) (fun _ j _ => M.length - (intOf j).toNat)
        case atStart => exact ⟨0, Nat.zero_le _, rfl, rfl, World.Exts.refl _⟩
        case round =>
          obtain ⟨m, hm, rfl, rfl, hE9⟩ := hrel
          obtain ⟨X7, rfl⟩ := hE9
          by_cases hlt2 : m < M.length
          · obtain ⟨rfl, hl9⟩ := HPM.out (by omega)
            obtain ⟨x, hx⟩ := some_of_lt hlt2
            have hcs := HCM.out m x hx
            have c0 := hcs 0 _ rfl
            simp only [Nat.mul_one, Nat.add_zero] at c0
            have hxl := HMEM.out x (List.mem_of_getElem? hx)
            obtain ⟨rfl, hl8⟩ := HPP.out (by omega)
            obtain ⟨y, hy⟩ := some_of_lt (xs := pieces) (k := x) hxl
            have hds := HCP.out x y hy 0 _ rfl
            simp only [Nat.mul_one, Nat.add_zero] at hds
            have hnx : weighN pieces (M.take (m + 1)) = weighN pieces (M.take m) + y := by
              rw [take_snoc hx, weighN_append]
              congr 1
              unfold weighN
              simp [List.getD_eq_getElem?_getD, hy]
            have hb1 := weighN_bound HPB.out (M.take m)
            have hb2 := HPB.out y (List.mem_of_getElem? hy)
            rw [List.length_take, Nat.min_eq_left (by omega)] at hb1
            generalize weighN pieces (M.take m) = S at hnx hb1 ⊢
            have HNX := Lib.hid hnx
            clear hnx
            clear hx hy hcs
            go_wp2_with fail
            go_roundw
            case rel => exact ⟨m + 1, by omega, by go_num, by rw [HNX.out], (by repeat' (first | with_reducible exact World.Exts.refl _ | with_reducible refine World.Exts.alloc ?_ _ | with_reducible refine World.Exts.drew ?_ | with_reducible refine World.Exts.drewN ?_ _ | with_reducible refine World.Exts.ext ?_ _ | with_reducible refine World.Exts.setCell ?_ ?_ _ | (simp; done) | exact World.size_ext_le _ _ | (simp; omega)))⟩
            case measure => simp [intOf]; omega
          · have hmn : M.take m = M := by rw [List.take_of_length_le (by omega)]
            rw [hmn]
            clear hmn
            have hM9 : IsRow (fun x : Nat => [.int .i64 (x : Int)]) 1 _ _ M := HM.out
            have HM9 := Lib.hid hM9
            clear hM9
            have hfit := HFC.out ⟨weighN pieces M, M⟩
            dsimp only at hfit
            have hS0 := hwb.1
            generalize weighN pieces M = S at HBS hwb hfit hS0 ⊢
            have hbs := HBS.out
            rw [hfit] at hbs
            clear hfit
            cases hin : inb (n.total.lo - s0.lo) (min n.added (n.total.hi - sl.hi)) S
            · rw [hin] at hbs
              simp only [Bool.false_eq_true, if_false] at hbs
              have hbi : BestIs n (s0 :: sr) pieces (k + 1) P W := by unfold BestIs; rw [hbs]; exact HBI.out
              have HIN := Lib.hid hin
              clear hin
              have HBI2 := Lib.hid hbi
              clear hbi
              clear hbs
              go_wp2_with (first
                | (go_at_call 46; refine (r04_within_any S _ _ _).mono ?_; rintro e w' ⟨rfl, X8, rfl⟩; rw [HIN.out])
                | (go_at_call 47; refine (r04_before_any M P _ _ _ (HM9.out.mono (by repeat' (first | with_reducible exact World.Exts.refl _ | with_reducible refine World.Exts.alloc ?_ _ | with_reducible refine World.Exts.drew ?_ | with_reducible refine World.Exts.drewN ?_ _ | with_reducible refine World.Exts.ext ?_ _ | with_reducible refine World.Exts.setCell ?_ ?_ _ | (simp; done) | exact World.size_ext_le _ _ | (simp; omega)))) (HRP.out.mono (by repeat' (first | with_reducible exact World.Exts.refl _ | with_reducible refine World.Exts.alloc ?_ _ | with_reducible refine World.Exts.drew ?_ | with_reducible refine World.Exts.drewN ?_ _ | with_reducible refine World.Exts.ext ?_ _ | with_reducible refine World.Exts.setCell ?_ ?_ _ | (simp; done) | exact World.size_ext_le _ _ | (simp; omega))))).mono ?_; rintro e w' ⟨rfl, X9, rfl⟩; rw [HBF.out]))
              go_roundw
              case rel => exact ⟨k + 1, P, W, q, c, by omega, by go_num, rfl, rfl, HBI2, Lib.hid (HRP.out.mono (by repeat' (first | with_reducible exact World.Exts.refl _ | with_reducible refine World.Exts.alloc ?_ _ | with_reducible refine World.Exts.drew ?_ | with_reducible refine World.Exts.drewN ?_ _ | with_reducible refine World.Exts.ext ?_ _ | with_reducible refine World.Exts.setCell ?_ ?_ _ | (simp; done) | exact World.size_ext_le _ _ | (simp; omega)))), (by repeat' (first | with_reducible exact World.Exts.refl _ | with_reducible refine World.Exts.alloc ?_ _ | with_reducible refine World.Exts.drew ?_ | with_reducible refine World.Exts.drewN ?_ _ | with_reducible refine World.Exts.ext ?_ _ | with_reducible refine World.Exts.setCell ?_ ?_ _ | (simp; done) | exact World.size_ext_le _ _ | (simp; omega)))⟩
              case measure => simp [intOf]; omega
            · rw [hin] at hbs
              simp only [if_true] at hbs
              have HIN := Lib.hid hin
              clear hin
              rcases HBI.out with ⟨hb, hP, hW⟩ | ⟨ch, hb, hP, hW, hw0⟩
              · subst hP hW
                have hbi : BestIs n (s0 :: sr) pieces (k + 1) M S := by
                  unfold BestIs
                  rw [hbs, hb]
                  exact .inr ⟨_, rfl, rfl, rfl, hS0⟩
                have HBI2 := Lib.hid hbi
                clear hbi
                clear hbs hb
                go_wp2_with (first
                  | (go_at_call 46; refine (r04_within_any S _ _ _).mono ?_; rintro e w' ⟨rfl, X8, rfl⟩; rw [HIN.out])
                  | (go_at_call 47; refine (r04_before_any M P _ _ _ (HM9.out.mono (by repeat' (first | with_reducible exact World.Exts.refl _ | with_reducible refine World.Exts.alloc ?_ _ | with_reducible refine World.Exts.drew ?_ | with_reducible refine World.Exts.drewN ?_ _ | with_reducible refine World.Exts.ext ?_ _ | with_reducible refine World.Exts.setCell ?_ ?_ _ | (simp; done) | exact World.size_ext_le _ _ | (simp; omega)))) (HRP.out.mono (by repeat' (first | with_reducible exact World.Exts.refl _ | with_reducible refine World.Exts.alloc ?_ _ | with_reducible refine World.Exts.drew ?_ | with_reducible refine World.Exts.drewN ?_ _ | with_reducible refine World.Exts.ext ?_ _ | with_reducible refine World.Exts.setCell ?_ ?_ _ | (simp; done) | exact World.size_ext_le _ _ | (simp; omega))))).mono ?_; rintro e w' ⟨rfl, X9, rfl⟩; rw [HBF.out]))
                go_roundw
                case rel => exact ⟨k + 1, M, S, _, _, by omega, by go_num, rfl, rfl, HBI2, Lib.hid (HM9.out.mono (by repeat' (first | with_reducible exact World.Exts.refl _ | with_reducible refine World.Exts.alloc ?_ _ | with_reducible refine World.Exts.drew ?_ | with_reducible refine World.Exts.drewN ?_ _ | with_reducible refine World.Exts.ext ?_ _ | with_reducible refine World.Exts.setCell ?_ ?_ _ | (simp; done) | exact World.size_ext_le _ _ | (simp; omega)))), (by repeat' (first | with_reducible exact World.Exts.refl _ | with_reducible refine World.Exts.alloc ?_ _ | with_reducible refine World.Exts.drew ?_ | with_reducible refine World.Exts.drewN ?_ _ | with_reducible refine World.Exts.ext ?_ _ | with_reducible refine World.Exts.setCell ?_ ?_ _ | (simp; done) | exact World.size_ext_le _ _ | (simp; omega)))⟩
                case measure => simp [intOf]; omega
              · rw [hb] at hbs
                have hkeep : lessC ⟨S, M⟩ ch = false → BestIs n (s0 :: sr) pieces (k + 1) P W := fun h => by
                  unfold BestIs
                  rw [hbs]
                  unfold better
                  dsimp only
                  rw [h]
                  exact .inr ⟨ch, rfl, hP, hW, hw0⟩
                have htake : lessC ⟨S, M⟩ ch = true → BestIs n (s0 :: sr) pieces (k + 1) M S := fun h => by
                  unfold BestIs
                  rw [hbs]
                  unfold better
                  dsimp only
                  rw [h]
                  exact .inr ⟨_, rfl, rfl, rfl, hS0⟩
                have hl1 : S < W → lessC ⟨S, M⟩ ch = true := fun h => by unfold lessC; rw [if_pos (by dsimp only; omega)]; simp; omega
                have hl2 : W < S → lessC ⟨S, M⟩ ch = false := fun h => by unfold lessC; rw [if_pos (by dsimp only; omega)]; simp; omega
                have hl3 : S = W → lessC ⟨S, M⟩ ch = beforeB M P := fun h => by unfold lessC; rw [if_neg (by simp; omega), hP]
                rw [← hW] at hw0
                clear hbs hb hP hW
                have hn1 : decide (W < 0) = false := by simp; omega
                rcases Int.lt_trichotomy S W with hc | hc | hc
                · have hbi := htake (hl1 hc)
                  have hd1 : decide (S < W) = true := by simp; omega
                  have HBI2 := Lib.hid hbi
                  clear hbi
                  clear htake hkeep hl1 hl2 hl3
                  go_wp2_with (first
                    | (go_at_call 46; refine (r04_within_any S _ _ _).mono ?_; rintro e w' ⟨rfl, X8, rfl⟩; rw [HIN.out])
                    | (go_at_call 47; refine (r04_before_any M P _ _ _ (HM9.out.mono (by repeat' (first | with_reducible exact World.Exts.refl _ | with_reducible refine World.Exts.alloc ?_ _ | with_reducible refine World.Exts.drew ?_ | with_reducible refine World.Exts.drewN ?_ _ | with_reducible refine World.Exts.ext ?_ _ | with_reducible refine World.Exts.setCell ?_ ?_ _ | (simp; done) | exact World.size_ext_le _ _ | (simp; omega)))) (HRP.out.mono (by repeat' (first | with_reducible exact World.Exts.refl _ | with_reducible refine World.Exts.alloc ?_ _ | with_reducible refine World.Exts.drew ?_ | with_reducible refine World.Exts.drewN ?_ _ | with_reducible refine World.Exts.ext ?_ _ | with_reducible refine World.Exts.setCell ?_ ?_ _ | (simp; done) | exact World.size_ext_le _ _ | (simp; omega))))).mono ?_; rintro e w' ⟨rfl, X9, rfl⟩; rw [HBF.out]))
                  go_roundw
                  case rel => exact ⟨k + 1, M, S, _, _, by omega, by go_num, rfl, rfl, HBI2, Lib.hid (HM9.out.mono (by repeat' (first | with_reducible exact World.Exts.refl _ | with_reducible refine World.Exts.alloc ?_ _ | with_reducible refine World.Exts.drew ?_ | with_reducible refine World.Exts.drewN ?_ _ | with_reducible refine World.Exts.ext ?_ _ | with_reducible refine World.Exts.setCell ?_ ?_ _ | (simp; done) | exact World.size_ext_le _ _ | (simp; omega)))), (by repeat' (first | with_reducible exact World.Exts.refl _ | with_reducible refine World.Exts.alloc ?_ _ | with_reducible refine World.Exts.drew ?_ | with_reducible refine World.Exts.drewN ?_ _ | with_reducible refine World.Exts.ext ?_ _ | with_reducible refine World.Exts.setCell ?_ ?_ _ | (simp; done) | exact World.size_ext_le _ _ | (simp; omega)))⟩
                  case measure => simp [intOf]; omega
                · have hd1 : decide (S < W) = false := by simp; omega
                  have hd2 : (S == W) = true := by simp; omega
                  cases hbf : beforeB M P
                  · have hbi := hkeep (by rw [hl3 hc, hbf])
                    have HBI2 := Lib.hid hbi
                    clear hbi
                    have HBF := Lib.hid hbf
                    clear hbf
                    clear htake hkeep hl1 hl2 hl3 hc
                    go_wp2_with (first
                      | (go_at_call 46; refine (r04_within_any S _ _ _).mono ?_; rintro e w' ⟨rfl, X8, rfl⟩; rw [HIN.out])
                      | (go_at_call 47; refine (r04_before_any M P _ _ _ (HM9.out.mono (by repeat' (first | with_reducible exact World.Exts.refl _ | with_reducible refine World.Exts.alloc ?_ _ | with_reducible refine World.Exts.drew ?_ | with_reducible refine World.Exts.drewN ?_ _ | with_reducible refine World.Exts.ext ?_ _ | with_reducible refine World.Exts.setCell ?_ ?_ _ | (simp; done) | exact World.size_ext_le _ _ | (simp; omega)))) (HRP.out.mono (by repeat' (first | with_reducible exact World.Exts.refl _ | with_reducible refine World.Exts.alloc ?_ _ | with_reducible refine World.Exts.drew ?_ | with_reducible refine World.Exts.drewN ?_ _ | with_reducible refine World.Exts.ext ?_ _ | with_reducible refine World.Exts.setCell ?_ ?_ _ | (simp; done) | exact World.size_ext_le _ _ | (simp; omega))))).mono ?_; rintro e w' ⟨rfl, X9, rfl⟩; rw [HBF.out]))
                    go_roundw
                    case rel => exact ⟨k + 1, P, W, q, c, by omega, by go_num, rfl, rfl, HBI2, Lib.hid (HRP.out.mono (by repeat' (first | with_reducible exact World.Exts.refl _ | with_reducible refine World.Exts.alloc ?_ _ | with_reducible refine World.Exts.drew ?_ | with_reducible refine World.Exts.drewN ?_ _ | with_reducible refine World.Exts.ext ?_ _ | with_reducible refine World.Exts.setCell ?_ ?_ _ | (simp; done) | exact World.size_ext_le _ _ | (simp; omega)))), (by repeat' (first | with_reducible exact World.Exts.refl _ | with_reducible refine World.Exts.alloc ?_ _ | with_reducible refine World.Exts.drew ?_ | with_reducible refine World.Exts.drewN ?_ _ | with_reducible refine World.Exts.ext ?_ _ | with_reducible refine World.Exts.setCell ?_ ?_ _ | (simp; done) | exact World.size_ext_le _ _ | (simp; omega)))⟩
                    case measure => simp [intOf]; omega
                  · have hbi := htake (by rw [hl3 hc, hbf])
                    have HBI2 := Lib.hid hbi
                    clear hbi
                    have HBF := Lib.hid hbf
                    clear hbf
                    clear htake hkeep hl1 hl2 hl3 hc
                    go_wp2_with (first
                      | (go_at_call 46; refine (r04_within_any S _ _ _).mono ?_; rintro e w' ⟨rfl, X8, rfl⟩; rw [HIN.out])
                      | (go_at_call 47; refine (r04_before_any M P _ _ _ (HM9.out.mono (by repeat' (first | with_reducible exact World.Exts.refl _ | with_reducible refine World.Exts.alloc ?_ _ | with_reducible refine World.Exts.drew ?_ | with_reducible refine World.Exts.drewN ?_ _ | with_reducible refine World.Exts.ext ?_ _ | with_reducible refine World.Exts.setCell ?_ ?_ _ | (simp; done) | exact World.size_ext_le _ _ | (simp; omega)))) (HRP.out.mono (by repeat' (first | with_reducible exact World.Exts.refl _ | with_reducible refine World.Exts.alloc ?_ _ | with_reducible refine World.Exts.drew ?_ | with_reducible refine World.Exts.drewN ?_ _ | with_reducible refine World.Exts.ext ?_ _ | with_reducible refine World.Exts.setCell ?_ ?_ _ | (simp; done) | exact World.size_ext_le _ _ | (simp; omega))))).mono ?_; rintro e w' ⟨rfl, X9, rfl⟩; rw [HBF.out]))
                    go_roundw
                    case rel => exact ⟨k + 1, M, S, _, _, by omega, by go_num, rfl, rfl, HBI2, Lib.hid (HM9.out.mono (by repeat' (first | with_reducible exact World.Exts.refl _ | with_reducible refine World.Exts.alloc ?_ _ | with_reducible refine World.Exts.drew ?_ | with_reducible refine World.Exts.drewN ?_ _ | with_reducible refine World.Exts.ext ?_ _ | with_reducible refine World.Exts.setCell ?_ ?_ _ | (simp; done) | exact World.size_ext_le _ _ | (simp; omega)))), (by repeat' (first | with_reducible exact World.Exts.refl _ | with_reducible refine World.Exts.alloc ?_ _ | with_reducible refine World.Exts.drew ?_ | with_reducible refine World.Exts.drewN ?_ _ | with_reducible refine World.Exts.ext ?_ _ | with_reducible refine World.Exts.setCell ?_ ?_ _ | (simp; done) | exact World.size_ext_le _ _ | (simp; omega)))⟩
                    case measure => simp [intOf]; omega
                · have hbi := hkeep (hl2 hc)
                  have hd1 : decide (S < W) = false := by simp; omega
                  have hd2 : (S == W) = false := by simp; omega
                  have HBI2 := Lib.hid hbi
                  clear hbi
                  clear htake hkeep hl1 hl2 hl3
                  go_wp2_with (first
                    | (go_at_call 46; refine (r04_within_any S _ _ _).mono ?_; rintro e w' ⟨rfl, X8, rfl⟩; rw [HIN.out])
                    | (go_at_call 47; refine (r04_before_any M P _ _ _ (HM9.out.mono (by repeat' (first | with_reducible exact World.Exts.refl _ | with_reducible refine World.Exts.alloc ?_ _ | with_reducible refine World.Exts.drew ?_ | with_reducible refine World.Exts.drewN ?_ _ | with_reducible refine World.Exts.ext ?_ _ | with_reducible refine World.Exts.setCell ?_ ?_ _ | (simp; done) | exact World.size_ext_le _ _ | (simp; omega)))) (HRP.out.mono (by repeat' (first | with_reducible exact World.Exts.refl _ | with_reducible refine World.Exts.alloc ?_ _ | with_reducible refine World.Exts.drew ?_ | with_reducible refine World.Exts.drewN ?_ _ | with_reducible refine World.Exts.ext ?_ _ | with_reducible refine World.Exts.setCell ?_ ?_ _ | (simp; done) | exact World.size_ext_le _ _ | (simp; omega))))).mono ?_; rintro e w' ⟨rfl, X9, rfl⟩; rw [HBF.out]))
                  go_roundw
                  case rel => exact ⟨k + 1, P, W, q, c, by omega, by go_num, rfl, rfl, HBI2, Lib.hid (HRP.out.mono (by repeat' (first | with_reducible exact World.Exts.refl _ | with_reducible refine World.Exts.alloc ?_ _ | with_reducible refine World.Exts.drew ?_ | with_reducible refine World.Exts.drewN ?_ _ | with_reducible refine World.Exts.ext ?_ _ | with_reducible refine World.Exts.setCell ?_ ?_ _ | (simp; done) | exact World.size_ext_le _ _ | (simp; omega)))), (by repeat' (first | with_reducible exact World.Exts.refl _ | with_reducible refine World.Exts.alloc ?_ _ | with_reducible refine World.Exts.drew ?_ | with_reducible refine World.Exts.drewN ?_ _ | with_reducible refine World.Exts.ext ?_ _ | with_reducible refine World.Exts.setCell ?_ ?_ _ | (simp; done) | exact World.size_ext_le _ _ | (simp; omega)))⟩
                  case measure => simp [intOf]; omega
      · have hkN : k = N := by omega
        rcases HBI.out with ⟨hb, hP, hW⟩ | ⟨ch, hb, hP, hW, hw0⟩
        · rw [hkN] at hb
          subst hP hW
          have HB9 := Lib.hid hb
          clear hb
          clear hkN
          go_wp2_with fail
          go_ret2
          rw [HB9.out]
          exact ⟨_, rfl, IsRow.nil _, (by repeat' (first | exact hwW | with_reducible exact World.Exts.refl _ | with_reducible refine World.Exts.alloc ?_ _ | with_reducible refine World.Exts.drew ?_ | with_reducible refine World.Exts.drewN ?_ _ | with_reducible refine World.Exts.ext ?_ _ | with_reducible refine World.Exts.setCell ?_ ?_ _ | (simp; done) | exact World.size_ext_le _ _ | (simp; omega)))⟩
        · rw [hkN] at hb
          rw [← hW] at hw0
          have hn1 : decide (W < 0) = false := by simp; omega
          have HB9 := Lib.hid hb
          clear hb
          have HP9 := Lib.hid hP
          clear hP
          clear hkN hW
          go_wp2_with fail
          go_ret2
          rw [HB9.out]
          exact ⟨_, rfl, by rw [show (outC (some ch)).1 = P from HP9.out.symm]; exact HRP.out.mono (by repeat' (first | with_reducible exact World.Exts.refl _ | with_reducible refine World.Exts.alloc ?_ _ | with_reducible refine World.Exts.drew ?_ | with_reducible refine World.Exts.drewN ?_ _ | with_reducible refine World.Exts.ext ?_ _ | with_reducible refine World.Exts.setCell ?_ ?_ _ | (simp; done) | exact World.size_ext_le _ _ | (simp; omega))), (by repeat' (first | exact hwW | with_reducible exact World.Exts.refl _ | with_reducible refine World.Exts.alloc ?_ _ | with_reducible refine World.Exts.drew ?_ | with_reducible refine World.Exts.drewN ?_ _ | with_reducible refine World.Exts.ext ?_ _ | with_reducible refine World.Exts.setCell ?_ ?_ _ | (simp; done) | exact World.size_ext_le _ _ | (simp; omega)))⟩
  · rw [ballast_err hz]
    have hc := check_three (ts.map Prod.fst) g
    rcases hc with hc | hc | hc
    · exact absurd hc hz
    all_goals
      rw [hc]
      have HE := Lib.hid hc
      clear hc
      clear hz
      go_enter Tryz.func14, Tryz.ntmps14
      go_wp2_with (go_at_call 32; refine (r04_Check_any ts _ g _ _ _ _ (HB.out.mono (by repeat' (first | with_reducible exact World.Exts.refl _ | with_reducible refine World.Exts.alloc ?_ _ | with_reducible refine World.Exts.drew ?_ | with_reducible refine World.Exts.drewN ?_ _ | with_reducible refine World.Exts.ext ?_ _ | with_reducible refine World.Exts.setCell ?_ ?_ _ | (simp; done) | exact World.size_ext_le _ _ | (simp; omega)))) (HG.out.l.mono (by repeat' (first | with_reducible exact World.Exts.refl _ | with_reducible refine World.Exts.alloc ?_ _ | with_reducible refine World.Exts.drew ?_ | with_reducible refine World.Exts.drewN ?_ _ | with_reducible refine World.Exts.ext ?_ _ | with_reducible refine World.Exts.setCell ?_ ?_ _ | (simp; done) | exact World.size_ext_le _ _ | (simp; omega)))) (HG.out.r.mono (by repeat' (first | with_reducible exact World.Exts.refl _ | with_reducible refine World.Exts.alloc ?_ _ | with_reducible refine World.Exts.drew ?_ | with_reducible refine World.Exts.drewN ?_ _ | with_reducible refine World.Exts.ext ?_ _ | with_reducible refine World.Exts.setCell ?_ ?_ _ | (simp; done) | exact World.size_ext_le _ _ | (simp; omega)))) (HG.out.s.mono (by repeat' (first | with_reducible exact World.Exts.refl _ | with_reducible refine World.Exts.alloc ?_ _ | with_reducible refine World.Exts.drew ?_ | with_reducible refine World.Exts.drewN ?_ _ | with_reducible refine World.Exts.ext ?_ _ | with_reducible refine World.Exts.setCell ?_ ?_ _ | (simp; done) | exact World.size_ext_le _ _ | (simp; omega))))).mono ?_; rintro e w' ⟨rfl, X2, rfl⟩; rw [HE.out])
      go_ret2
      exact ⟨_, rfl, IsRow.nil _, (by repeat' (first | with_reducible exact World.Exts.refl _ | with_reducible refine World.Exts.alloc ?_ _ | with_reducible refine World.Exts.drew ?_ | with_reducible refine World.Exts.drewN ?_ _ | with_reducible refine World.Exts.ext ?_ _ | with_reducible refine World.Exts.setCell ?_ ?_ _ | (simp; done) | exact World.size_ext_le _ _ | (simp; omega)))⟩
end Go.Proofs.YtomcenfikdmmkaaGreatDoor
