/-
  Walks: what is known of a total that was weighed twice.
-/
import Derived.Test.YtomcenfikdmmkaaGreatDoorJh
namespace Go.Proofs.YtomcenfikdmmkaaGreatDoor
open Go.RowKit Kr
set_option linter.unusedSimpArgs false

/-- What the region of the reference's totals leaves. -/
def AgainAt (A B : List Span) (c : Nat) (W : World) (v : Value) : Prop := (c = 2 → IsRow (fun t : Kr.Span => [.int .i64 t.lo, .int .i64 t.hi]) 2 W v A) ∧ (c = 5 → IsRow (fun t : Kr.Span => [.int .i64 t.lo, .int .i64 t.hi]) 2 W v B) ∧ (c = 6 → IsRow (fun t : Kr.Span => [.int .i64 t.lo, .int .i64 t.hi]) 2 W v (merged (commonL A B)))
theorem AgainAt.mono {A B : List Span} {c : Nat} {W W' : World} {v : Value} (h : AgainAt A B c W v) (hE : W.Exts W') : AgainAt A B c W' v := ⟨fun e => (h.1 e).mono hE, fun e => (h.2.1 e).mono hE, fun e => (h.2.2 e).mono hE⟩
/-- What holds of gear that is asked. -/
structure GearAsk (ts : List (Kr.Scale × Value)) (g : Gear) : Prop where
  h6 : g.loads.length ≤ 6
  sh : ∀ x ∈ ts, ∀ l ∈ g.loads, l.scale = x.1.id → -2000000 ≤ l.shown ∧ l.shown ≤ 2000000
  ad : 0 ≤ g.added ∧ g.added ≤ 1000000
  neat : Neat (totals (ts.map Prod.fst) g)
  win : Within 0 40000000000 (totals (ts.map Prod.fst) g)
  few : (totals (ts.map Prod.fst) g).length ≤ 100000000
theorem gearAsk {ts : List (Kr.Scale × Value)} {g : Gear} (h : check (ts.map Prod.fst) g = 0) : GearAsk ts g ∧ ts.length ≤ 4 ∧ ∀ x ∈ ts, right x.1 = true := by
  obtain ⟨hz1, hz2⟩ := check_zero h
  have hok := check_ok hz1 hz2
  have hn : ts.length ≤ 4 := by have := hok.few; rwa [List.length_map] at this
  have h6 := hok.l6
  have had := hok.ad
  have htk : Neat (totals (ts.map Prod.fst) g) ∧ Within g.added (g.added + 1000000 * g.loads.length * (used (ts.map Prod.fst) g.loads).length) (totals (ts.map Prod.fst) g) := by
    refine totalsL_ok g.loads _ [⟨g.added, g.added⟩] g.added g.added ⟨fun s hs => by rw [List.mem_singleton.1 hs]; exact Int.le_refl _, List.pairwise_singleton _ _⟩ (fun s hs => by rw [List.mem_singleton.1 hs]; simp)
  have hul : (used (ts.map Prod.fst) g.loads).length ≤ 4 := by
    have := List.length_filter_le (usedB g.loads) (ts.map Prod.fst)
    rw [List.length_map] at this
    unfold used
    omega
  have hprod : (1000000 * (g.loads.length : Int) * ((used (ts.map Prod.fst) g.loads).length : Int)) ≤ 24000000 := by
    have h1 : g.loads.length * (used (ts.map Prod.fst) g.loads).length ≤ 6 * 4 := Nat.mul_le_mul h6 hul
    have h2 : ((g.loads.length * (used (ts.map Prod.fst) g.loads).length : Nat) : Int) ≤ 24 := by omega
    rw [Int.natCast_mul] at h2
    rw [Int.mul_assoc]
    omega
  have hw : Within 0 25000000 (totals (ts.map Prod.fst) g) := fun s hs => by
    have := htk.2 s hs
    omega
  have hl := neat_len htk.1 hw (by omega)
  exact ⟨⟨h6, fun x hx => hok.sh _ (List.mem_map.2 ⟨x, hx, rfl⟩), had, htk.1, within_le hw (by omega), by omega⟩, hn, fun x hx => hok.rt _ (List.mem_map.2 ⟨x, hx, rfl⟩)⟩
theorem again_first {b : List Scale} {g l : Gear} {n : Norm} (h : check b g ≠ 0) : againR b g l n = (0, check b g) := by unfold againR; rw [if_pos h]
theorem again_later {b : List Scale} {g l : Gear} {n : Norm} (h0 : check b g = 0) (h : check b l ≠ 0) : againR b g l n = (0, check b l) := by unfold againR; rw [if_neg (by simp [h0]), if_pos h]
theorem again_norm {b : List Scale} {g l : Gear} {n : Norm} (h0 : check b g = 0) (h1 : check b l = 0) (h : normB n = false) : againR b g l n = (0, 42) := by unfold againR; rw [if_neg (by simp [h0]), if_neg (by simp [h1]), if_pos h]
theorem again_none {b : List Scale} {g l : Gear} {n : Norm} (h0 : check b g = 0) (h1 : check b l = 0) (h2 : normB n = true) (h : commonL (totals b g) (totals b l) = []) : againR b g l n = (0, 6) := by unfold againR; rw [if_neg (by simp [h0]), if_neg (by simp [h1]), if_neg (by simp [h2]), if_pos h]
theorem again_all {b : List Scale} {g l : Gear} {n : Norm} (h0 : check b g = 0) (h1 : check b l = 0) (h2 : normB n = true) (h : commonL (totals b g) (totals b l) ≠ []) : againR b g l n = (knownR (commonL (totals b g) (totals b l)) n.total, 0) := by unfold againR; rw [if_neg (by simp [h0]), if_neg (by simp [h1]), if_neg (by simp [h2]), if_neg h]
theorem norm_total {n : Norm} (h : normB n = true) : n.total.lo ≤ n.total.hi := by
  unfold normB ordered at h
  simp at h
  omega

set_option maxRecDepth 4000 in
set_option maxHeartbeats 4000000 in
theorem r04_Again_any (ts : List (Kr.Scale × Value)) (v : Value) (g : Gear) (lv rv sv : Value) (g2 : Gear) (lv2 rv2 sv2 : Value) (n : Norm) (w : World) (hb : BayAt w v ts) (hg : GearAt w (g, lv, rv, sv)) (hg2 : GearAt w (g2, lv2, rv2, sv2)) :
    Calls Tryz.prog 12 #[.agg #[v], .agg #[lv, .int .i64 g.added, .int .i64 g.base, .int .i64 g.jitter, rv, sv, .int .i64 g.spread, .bool g.stamp], .agg #[lv2, .int .i64 g2.added, .int .i64 g2.base, .int .i64 g2.jitter, rv2, sv2, .int .i64 g2.spread, .bool g2.stamp], .agg #[.int .i64 n.total.lo, .int .i64 n.total.hi, .int .i64 n.added, .int .i64 n.warm, .int .i64 n.hard.lo, .int .i64 n.hard.hi, .bool n.stamp]] w fun e w' => e = .returned (.tuple #[.int .u8 (againR (ts.map Prod.fst) g g2 n).1, .int .i64 (againR (ts.map Prod.fst) g g2 n).2]) ∧ w.Exts w' := by
  obtain ⟨p, cap, hv⟩ := hb.row.len
  subst hv
  have hl1 := hg.l
  have hl2 := hg.r
  have hl3 := hg.s
  dsimp only at hl1 hl2 hl3
  obtain ⟨p1, cap1, rfl⟩ := hl1.len
  obtain ⟨p2, cap2, rfl⟩ := hl2.len
  obtain ⟨p3, cap3, rfl⟩ := hl3.len
  have HG := Lib.hid hg
  clear hg
  obtain ⟨p4, cap4, rfl⟩ : ∃ p c, lv2 = .slice p g2.loads.length c := hg2.l.len
  obtain ⟨p5, cap5, rfl⟩ : ∃ p c, rv2 = .slice p g2.runners.length c := hg2.r.len
  obtain ⟨p6, cap6, rfl⟩ : ∃ p c, sv2 = .slice p g2.strokes.length c := hg2.s.len
  have HG2 := Lib.hid hg2
  clear hg2
  have HB := Lib.hid hb
  clear hb
  clear hl1 hl2 hl3
  by_cases hz : check (ts.map Prod.fst) g = 0
  · obtain ⟨hga, hn, hrt⟩ := gearAsk hz
    by_cases hz2 : check (ts.map Prod.fst) g2 = 0
    · obtain ⟨hga2, -, -⟩ := gearAsk hz2
      cases hnb : normB n
      · rw [again_norm hz hz2 hnb]
        have HN := Lib.hid hnb
        clear hnb
        have HE := Lib.hid hz
        clear hz
        have HE2 := Lib.hid hz2
        clear hz2
        clear hga hga2 hrt
        go_enter Tryz.func12, Tryz.ntmps12
        go_wp2_with (first
          | (go_at_call 32; ((with_reducible refine (r04_Check_any ts _ g _ _ _ _ ?hb ?hl ?hr ?hs).mono ?_); (case hb => exact HB.out.mono (by repeat' (first | with_reducible exact World.Exts.refl _ | with_reducible refine World.Exts.alloc ?_ _ | with_reducible refine World.Exts.drew ?_ | with_reducible refine World.Exts.drewN ?_ _ | with_reducible refine World.Exts.ext ?_ _ | with_reducible refine World.Exts.setCell ?_ ?_ _ | (simp; done) | exact World.size_ext_le _ _ | (simp; omega)))); (case hl => exact HG.out.l.mono (by repeat' (first | with_reducible exact World.Exts.refl _ | with_reducible refine World.Exts.alloc ?_ _ | with_reducible refine World.Exts.drew ?_ | with_reducible refine World.Exts.drewN ?_ _ | with_reducible refine World.Exts.ext ?_ _ | with_reducible refine World.Exts.setCell ?_ ?_ _ | (simp; done) | exact World.size_ext_le _ _ | (simp; omega)))); (case hr => exact HG.out.r.mono (by repeat' (first | with_reducible exact World.Exts.refl _ | with_reducible refine World.Exts.alloc ?_ _ | with_reducible refine World.Exts.drew ?_ | with_reducible refine World.Exts.drewN ?_ _ | with_reducible refine World.Exts.ext ?_ _ | with_reducible refine World.Exts.setCell ?_ ?_ _ | (simp; done) | exact World.size_ext_le _ _ | (simp; omega)))); (case hs => exact HG.out.s.mono (by repeat' (first | with_reducible exact World.Exts.refl _ | with_reducible refine World.Exts.alloc ?_ _ | with_reducible refine World.Exts.drew ?_ | with_reducible refine World.Exts.drewN ?_ _ | with_reducible refine World.Exts.ext ?_ _ | with_reducible refine World.Exts.setCell ?_ ?_ _ | (simp; done) | exact World.size_ext_le _ _ | (simp; omega)))); rintro e w' ⟨rfl, X2, rfl⟩; rw [HE.out]))
          | (go_at_call 32; ((with_reducible refine (r04_Check_any ts _ g2 _ _ _ _ ?hb ?hl ?hr ?hs).mono ?_); (case hb => exact HB.out.mono (by repeat' (first | with_reducible exact World.Exts.refl _ | with_reducible refine World.Exts.alloc ?_ _ | with_reducible refine World.Exts.drew ?_ | with_reducible refine World.Exts.drewN ?_ _ | with_reducible refine World.Exts.ext ?_ _ | with_reducible refine World.Exts.setCell ?_ ?_ _ | (simp; done) | exact World.size_ext_le _ _ | (simp; omega)))); (case hl => exact HG2.out.l.mono (by repeat' (first | with_reducible exact World.Exts.refl _ | with_reducible refine World.Exts.alloc ?_ _ | with_reducible refine World.Exts.drew ?_ | with_reducible refine World.Exts.drewN ?_ _ | with_reducible refine World.Exts.ext ?_ _ | with_reducible refine World.Exts.setCell ?_ ?_ _ | (simp; done) | exact World.size_ext_le _ _ | (simp; omega)))); (case hr => exact HG2.out.r.mono (by repeat' (first | with_reducible exact World.Exts.refl _ | with_reducible refine World.Exts.alloc ?_ _ | with_reducible refine World.Exts.drew ?_ | with_reducible refine World.Exts.drewN ?_ _ | with_reducible refine World.Exts.ext ?_ _ | with_reducible refine World.Exts.setCell ?_ ?_ _ | (simp; done) | exact World.size_ext_le _ _ | (simp; omega)))); (case hs => exact HG2.out.s.mono (by repeat' (first | with_reducible exact World.Exts.refl _ | with_reducible refine World.Exts.alloc ?_ _ | with_reducible refine World.Exts.drew ?_ | with_reducible refine World.Exts.drewN ?_ _ | with_reducible refine World.Exts.ext ?_ _ | with_reducible refine World.Exts.setCell ?_ ?_ _ | (simp; done) | exact World.size_ext_le _ _ | (simp; omega)))); rintro e w' ⟨rfl, X3, rfl⟩; rw [HE2.out]))
          | (go_at_call 21; refine (r04_Norm_any n _).mono ?_; rintro e w' ⟨rfl, X4, rfl⟩; rw [HN.out]))
        go_ret2
        exact ⟨rfl, (by repeat' (first | with_reducible exact World.Exts.refl _ | with_reducible refine World.Exts.alloc ?_ _ | with_reducible refine World.Exts.drew ?_ | with_reducible refine World.Exts.drewN ?_ _ | with_reducible refine World.Exts.ext ?_ _ | with_reducible refine World.Exts.setCell ?_ ?_ _ | (simp; done) | exact World.size_ext_le _ _ | (simp; omega)))⟩
      have htl := norm_total hnb
      have hkm : knownR (merged (commonL (totals (ts.map Prod.fst) g) (totals (ts.map Prod.fst) g2))) n.total = knownR (commonL (totals (ts.map Prod.fst) g) (totals (ts.map Prod.fst) g2)) n.total := known_merged (common_full _ _) htl
      have hfin : againR (ts.map Prod.fst) g g2 n = if (merged (commonL (totals (ts.map Prod.fst) g) (totals (ts.map Prod.fst) g2))).length = 0 then (0, 6) else (knownR (merged (commonL (totals (ts.map Prod.fst) g) (totals (ts.map Prod.fst) g2))) n.total, 0) := by
        rw [hkm]
        by_cases h : commonL (totals (ts.map Prod.fst) g) (totals (ts.map Prod.fst) g2) = []
        · rw [again_none hz hz2 hnb h, if_pos (by rw [h, merged_nil]; rfl)]
        · rw [again_all hz hz2 hnb h, if_neg (fun e => h (merged_eq_nil.1 (List.eq_nil_of_length_eq_zero e)))]
      obtain ⟨M, hM⟩ : ∃ M, M = merged (commonL (totals (ts.map Prod.fst) g) (totals (ts.map Prod.fst) g2)) := ⟨_, rfl⟩
      rw [hfin, ← hM]
      obtain ⟨h61, sh1, ad1, neat1, win1, _⟩ := hga
      obtain ⟨h62, sh2, ad2, neat2, _, _⟩ := hga2
      have HRT := Lib.hid hrt
      clear hrt
      have HSH1 := Lib.hid sh1
      clear sh1
      have HSH2 := Lib.hid sh2
      clear sh2
      have HN1 := Lib.hid neat1
      clear neat1
      have HN2 := Lib.hid neat2
      clear neat2
      have HW1 := Lib.hid win1
      clear win1
      have HN := Lib.hid hnb
      clear hnb
      have HE := Lib.hid hz
      clear hz
      have HE2 := Lib.hid hz2
      clear hz2
      have HM := Lib.hid hM
      clear hM
      clear hkm hfin htl
      rcases Nat.eq_zero_or_pos M.length with h0 | h0
      · rw [if_pos h0]
        have h0' : M.length ≤ 0 := by omega
        clear h0
        go_enter Tryz.func12, Tryz.ntmps12
        go_wp2_with (first
          | (go_at_call 32; ((with_reducible refine (r04_Check_any ts _ g _ _ _ _ ?hb ?hl ?hr ?hs).mono ?_); (case hb => exact HB.out.mono (by repeat' (first | with_reducible exact World.Exts.refl _ | with_reducible refine World.Exts.alloc ?_ _ | with_reducible refine World.Exts.drew ?_ | with_reducible refine World.Exts.drewN ?_ _ | with_reducible refine World.Exts.ext ?_ _ | with_reducible refine World.Exts.setCell ?_ ?_ _ | (simp; done) | exact World.size_ext_le _ _ | (simp; omega)))); (case hl => exact HG.out.l.mono (by repeat' (first | with_reducible exact World.Exts.refl _ | with_reducible refine World.Exts.alloc ?_ _ | with_reducible refine World.Exts.drew ?_ | with_reducible refine World.Exts.drewN ?_ _ | with_reducible refine World.Exts.ext ?_ _ | with_reducible refine World.Exts.setCell ?_ ?_ _ | (simp; done) | exact World.size_ext_le _ _ | (simp; omega)))); (case hr => exact HG.out.r.mono (by repeat' (first | with_reducible exact World.Exts.refl _ | with_reducible refine World.Exts.alloc ?_ _ | with_reducible refine World.Exts.drew ?_ | with_reducible refine World.Exts.drewN ?_ _ | with_reducible refine World.Exts.ext ?_ _ | with_reducible refine World.Exts.setCell ?_ ?_ _ | (simp; done) | exact World.size_ext_le _ _ | (simp; omega)))); (case hs => exact HG.out.s.mono (by repeat' (first | with_reducible exact World.Exts.refl _ | with_reducible refine World.Exts.alloc ?_ _ | with_reducible refine World.Exts.drew ?_ | with_reducible refine World.Exts.drewN ?_ _ | with_reducible refine World.Exts.ext ?_ _ | with_reducible refine World.Exts.setCell ?_ ?_ _ | (simp; done) | exact World.size_ext_le _ _ | (simp; omega)))); rintro e w' ⟨rfl, X2, rfl⟩; rw [HE.out]))
          | (go_at_call 32; ((with_reducible refine (r04_Check_any ts _ g2 _ _ _ _ ?hb ?hl ?hr ?hs).mono ?_); (case hb => exact HB.out.mono (by repeat' (first | with_reducible exact World.Exts.refl _ | with_reducible refine World.Exts.alloc ?_ _ | with_reducible refine World.Exts.drew ?_ | with_reducible refine World.Exts.drewN ?_ _ | with_reducible refine World.Exts.ext ?_ _ | with_reducible refine World.Exts.setCell ?_ ?_ _ | (simp; done) | exact World.size_ext_le _ _ | (simp; omega)))); (case hl => exact HG2.out.l.mono (by repeat' (first | with_reducible exact World.Exts.refl _ | with_reducible refine World.Exts.alloc ?_ _ | with_reducible refine World.Exts.drew ?_ | with_reducible refine World.Exts.drewN ?_ _ | with_reducible refine World.Exts.ext ?_ _ | with_reducible refine World.Exts.setCell ?_ ?_ _ | (simp; done) | exact World.size_ext_le _ _ | (simp; omega)))); (case hr => exact HG2.out.r.mono (by repeat' (first | with_reducible exact World.Exts.refl _ | with_reducible refine World.Exts.alloc ?_ _ | with_reducible refine World.Exts.drew ?_ | with_reducible refine World.Exts.drewN ?_ _ | with_reducible refine World.Exts.ext ?_ _ | with_reducible refine World.Exts.setCell ?_ ?_ _ | (simp; done) | exact World.size_ext_le _ _ | (simp; omega)))); (case hs => exact HG2.out.s.mono (by repeat' (first | with_reducible exact World.Exts.refl _ | with_reducible refine World.Exts.alloc ?_ _ | with_reducible refine World.Exts.drew ?_ | with_reducible refine World.Exts.drewN ?_ _ | with_reducible refine World.Exts.ext ?_ _ | with_reducible refine World.Exts.setCell ?_ ?_ _ | (simp; done) | exact World.size_ext_le _ _ | (simp; omega)))); rintro e w' ⟨rfl, X3, rfl⟩; rw [HE2.out]))
          | (go_at_call 21; refine (r04_Norm_any n _).mono ?_; rintro e w' ⟨rfl, X4, rfl⟩; rw [HN.out]))
        refine wp_region_calls 7 (fun i => i == 2 || i == 5 || i == 6) (fun c v W => AgainAt (totals (ts.map Prod.fst) g) (totals (ts.map Prod.fst) g2) c W v) (by kernel_rfl) (fun ν => by kernel_rfl) (by kernel_rfl) (by kernel_rfl) (by kernel_rfl) (by kernel_rfl) ?mono ?_
        rotate_left 1
        apply Exists.intro
        refine ⟨fun ν L hL => ?_, fun c oc hc hU ν W hE hΦ => ?_, fun ν W hE hΦ => ?_⟩
        · simp only [modU, cOp, List.mapIdx_cons, List.mapIdx_nil, Nat.zero_add, Nat.reduceAdd, Nat.reduceBEq, Bool.or_false, Bool.false_or, Bool.or_true, Bool.true_or, Bool.or_self, Bool.false_eq_true, if_false, if_true, List.take_succ_cons, List.take_zero]
          repeat (go_big_quiet_step (fail))
          exact wpQuiet_nil hL
        · simp at hU
          have hwW : w.Exts W := World.Exts.trans (by repeat' (first | with_reducible exact World.Exts.refl _ | with_reducible refine World.Exts.alloc ?_ _ | with_reducible refine World.Exts.drew ?_ | with_reducible refine World.Exts.drewN ?_ _ | with_reducible refine World.Exts.ext ?_ _ | with_reducible refine World.Exts.setCell ?_ ?_ _ | (simp; done) | exact World.size_ext_le _ _ | (simp; omega))) hE
          rcases hU with (rfl | rfl) | rfl
          · simp only [List.getElem?_cons_succ, List.getElem?_cons_zero, Option.some.injEq] at hc
            subst hc
            refine Oper.gives_fn rfl rfl rfl (enters_of Tryz.func33 (by kernel_rfl) rfl) ?_ rfl
            refine (r04_totals_any ts _ g _ _ _ W (HB.out.mono hwW) (HG.out.mono hwW) hn HRT.out h61 HSH1.out ad1).mono ?_
            rintro e W' ⟨v', rfl, h1, h2⟩
            exact ⟨v', rfl, h2, fun _ => h1, fun e => (by cases e), fun e => (by cases e)⟩
          · simp only [List.getElem?_cons_succ, List.getElem?_cons_zero, Option.some.injEq] at hc
            subst hc
            refine Oper.gives_fn rfl rfl rfl (enters_of Tryz.func33 (by kernel_rfl) rfl) ?_ rfl
            refine (r04_totals_any ts _ g2 _ _ _ W (HB.out.mono hwW) (HG2.out.mono hwW) hn HRT.out h62 HSH2.out ad2).mono ?_
            rintro e W' ⟨v', rfl, h1, h2⟩
            exact ⟨v', rfl, h2, fun e => (by cases e), fun _ => h1, fun e => (by cases e)⟩
          · simp only [List.getElem?_cons_succ, List.getElem?_cons_zero, Option.some.injEq] at hc
            subst hc
            have h2 := (hΦ 2 rfl ⟨⟨2, .data⟩, by simp, rfl, rfl⟩).1 rfl
            have h5 := (hΦ 5 rfl ⟨⟨5, .data⟩, by simp, rfl, rfl⟩).2.1 rfl
            refine Oper.gives_fn rfl rfl rfl (enters_of Tryz.func39 (by kernel_rfl) rfl) ?_ rfl
            refine (r04_common_any _ _ (ν 2) (ν 5) W h2 h5 HW1.out HN1.out HN2.out).mono ?_
            rintro e W' ⟨v', rfl, h1, h2⟩
            exact ⟨v', rfl, h2, fun e => (by cases e), fun e => (by cases e), fun _ => h1⟩
        rotate_left 1
        case mono => exact fun c v W W' h hE => h.mono hE
        have h6 := (hΦ 6 (by decide) rfl).2.2 rfl
        have hwW : w.Exts W := World.Exts.trans (by repeat' (first | with_reducible exact World.Exts.refl _ | with_reducible refine World.Exts.alloc ?_ _ | with_reducible refine World.Exts.drew ?_ | with_reducible refine World.Exts.drewN ?_ _ | with_reducible refine World.Exts.ext ?_ _ | with_reducible refine World.Exts.setCell ?_ ?_ _ | (simp; done) | exact World.size_ext_le _ _ | (simp; omega))) hE
        have t0 : W.cell? ⟨w.heap.size + 1 + 1 + 1, 0, none⟩ = some (.int .i64 n.total.lo) := by obtain ⟨XX, rfl⟩ := hE; simp [go_sem]
        have t1 : W.cell? ⟨w.heap.size + 1 + 1 + 1, 1, none⟩ = some (.int .i64 n.total.hi) := by obtain ⟨XX, rfl⟩ := hE; simp [go_sem]
        have lt0 := Lays.of_cell t0
        simp only [List.drop_succ_cons, List.drop_zero]
        rw [← HM.out] at h6
        obtain ⟨q6, c6, e6⟩ := h6.len
        rw [e6] at h6 ⊢
        have H6 := Lib.hid h6
        clear h6
        clear hΦ e6 hE X2 X3 X4
        go_wp2_with fail
        go_ret2
        exact ⟨rfl, (by repeat' (first | exact hwW | with_reducible exact World.Exts.refl _ | with_reducible refine World.Exts.alloc ?_ _ | with_reducible refine World.Exts.drew ?_ | with_reducible refine World.Exts.drewN ?_ _ | with_reducible refine World.Exts.ext ?_ _ | with_reducible refine World.Exts.setCell ?_ ?_ _ | (simp; done) | exact World.size_ext_le _ _ | (simp; omega)))⟩
      · rw [if_neg (by omega)]
        go_enter Tryz.func12, Tryz.ntmps12
        go_wp2_with (first
          | (go_at_call 32; ((with_reducible refine (r04_Check_any ts _ g _ _ _ _ ?hb ?hl ?hr ?hs).mono ?_); (case hb => exact HB.out.mono (by repeat' (first | with_reducible exact World.Exts.refl _ | with_reducible refine World.Exts.alloc ?_ _ | with_reducible refine World.Exts.drew ?_ | with_reducible refine World.Exts.drewN ?_ _ | with_reducible refine World.Exts.ext ?_ _ | with_reducible refine World.Exts.setCell ?_ ?_ _ | (simp; done) | exact World.size_ext_le _ _ | (simp; omega)))); (case hl => exact HG.out.l.mono (by repeat' (first | with_reducible exact World.Exts.refl _ | with_reducible refine World.Exts.alloc ?_ _ | with_reducible refine World.Exts.drew ?_ | with_reducible refine World.Exts.drewN ?_ _ | with_reducible refine World.Exts.ext ?_ _ | with_reducible refine World.Exts.setCell ?_ ?_ _ | (simp; done) | exact World.size_ext_le _ _ | (simp; omega)))); (case hr => exact HG.out.r.mono (by repeat' (first | with_reducible exact World.Exts.refl _ | with_reducible refine World.Exts.alloc ?_ _ | with_reducible refine World.Exts.drew ?_ | with_reducible refine World.Exts.drewN ?_ _ | with_reducible refine World.Exts.ext ?_ _ | with_reducible refine World.Exts.setCell ?_ ?_ _ | (simp; done) | exact World.size_ext_le _ _ | (simp; omega)))); (case hs => exact HG.out.s.mono (by repeat' (first | with_reducible exact World.Exts.refl _ | with_reducible refine World.Exts.alloc ?_ _ | with_reducible refine World.Exts.drew ?_ | with_reducible refine World.Exts.drewN ?_ _ | with_reducible refine World.Exts.ext ?_ _ | with_reducible refine World.Exts.setCell ?_ ?_ _ | (simp; done) | exact World.size_ext_le _ _ | (simp; omega)))); rintro e w' ⟨rfl, X2, rfl⟩; rw [HE.out]))
          | (go_at_call 32; ((with_reducible refine (r04_Check_any ts _ g2 _ _ _ _ ?hb ?hl ?hr ?hs).mono ?_); (case hb => exact HB.out.mono (by repeat' (first | with_reducible exact World.Exts.refl _ | with_reducible refine World.Exts.alloc ?_ _ | with_reducible refine World.Exts.drew ?_ | with_reducible refine World.Exts.drewN ?_ _ | with_reducible refine World.Exts.ext ?_ _ | with_reducible refine World.Exts.setCell ?_ ?_ _ | (simp; done) | exact World.size_ext_le _ _ | (simp; omega)))); (case hl => exact HG2.out.l.mono (by repeat' (first | with_reducible exact World.Exts.refl _ | with_reducible refine World.Exts.alloc ?_ _ | with_reducible refine World.Exts.drew ?_ | with_reducible refine World.Exts.drewN ?_ _ | with_reducible refine World.Exts.ext ?_ _ | with_reducible refine World.Exts.setCell ?_ ?_ _ | (simp; done) | exact World.size_ext_le _ _ | (simp; omega)))); (case hr => exact HG2.out.r.mono (by repeat' (first | with_reducible exact World.Exts.refl _ | with_reducible refine World.Exts.alloc ?_ _ | with_reducible refine World.Exts.drew ?_ | with_reducible refine World.Exts.drewN ?_ _ | with_reducible refine World.Exts.ext ?_ _ | with_reducible refine World.Exts.setCell ?_ ?_ _ | (simp; done) | exact World.size_ext_le _ _ | (simp; omega)))); (case hs => exact HG2.out.s.mono (by repeat' (first | with_reducible exact World.Exts.refl _ | with_reducible refine World.Exts.alloc ?_ _ | with_reducible refine World.Exts.drew ?_ | with_reducible refine World.Exts.drewN ?_ _ | with_reducible refine World.Exts.ext ?_ _ | with_reducible refine World.Exts.setCell ?_ ?_ _ | (simp; done) | exact World.size_ext_le _ _ | (simp; omega)))); rintro e w' ⟨rfl, X3, rfl⟩; rw [HE2.out]))
          | (go_at_call 21; refine (r04_Norm_any n _).mono ?_; rintro e w' ⟨rfl, X4, rfl⟩; rw [HN.out]))
        refine wp_region_calls 7 (fun i => i == 2 || i == 5 || i == 6) (fun c v W => AgainAt (totals (ts.map Prod.fst) g) (totals (ts.map Prod.fst) g2) c W v) (by kernel_rfl) (fun ν => by kernel_rfl) (by kernel_rfl) (by kernel_rfl) (by kernel_rfl) (by kernel_rfl) ?mono ?_
        rotate_left 1
        apply Exists.intro
        refine ⟨fun ν L hL => ?_, fun c oc hc hU ν W hE hΦ => ?_, fun ν W hE hΦ => ?_⟩
        · simp only [modU, cOp, List.mapIdx_cons, List.mapIdx_nil, Nat.zero_add, Nat.reduceAdd, Nat.reduceBEq, Bool.or_false, Bool.false_or, Bool.or_true, Bool.true_or, Bool.or_self, Bool.false_eq_true, if_false, if_true, List.take_succ_cons, List.take_zero]
          repeat (go_big_quiet_step (fail))
          exact wpQuiet_nil hL
        · simp at hU
          have hwW : w.Exts W := World.Exts.trans (by repeat' (first | with_reducible exact World.Exts.refl _ | with_reducible refine World.Exts.alloc ?_ _ | with_reducible refine World.Exts.drew ?_ | with_reducible refine World.Exts.drewN ?_ _ | with_reducible refine World.Exts.ext ?_ _ | with_reducible refine World.Exts.setCell ?_ ?_ _ | (simp; done) | exact World.size_ext_le _ _ | (simp; omega))) hE
          rcases hU with (rfl | rfl) | rfl
          · simp only [List.getElem?_cons_succ, List.getElem?_cons_zero, Option.some.injEq] at hc
            subst hc
            refine Oper.gives_fn rfl rfl rfl (enters_of Tryz.func33 (by kernel_rfl) rfl) ?_ rfl
            refine (r04_totals_any ts _ g _ _ _ W (HB.out.mono hwW) (HG.out.mono hwW) hn HRT.out h61 HSH1.out ad1).mono ?_
            rintro e W' ⟨v', rfl, h1, h2⟩
            exact ⟨v', rfl, h2, fun _ => h1, fun e => (by cases e), fun e => (by cases e)⟩
          · simp only [List.getElem?_cons_succ, List.getElem?_cons_zero, Option.some.injEq] at hc
            subst hc
            refine Oper.gives_fn rfl rfl rfl (enters_of Tryz.func33 (by kernel_rfl) rfl) ?_ rfl
            refine (r04_totals_any ts _ g2 _ _ _ W (HB.out.mono hwW) (HG2.out.mono hwW) hn HRT.out h62 HSH2.out ad2).mono ?_
            rintro e W' ⟨v', rfl, h1, h2⟩
            exact ⟨v', rfl, h2, fun e => (by cases e), fun _ => h1, fun e => (by cases e)⟩
          · simp only [List.getElem?_cons_succ, List.getElem?_cons_zero, Option.some.injEq] at hc
            subst hc
            have h2 := (hΦ 2 rfl ⟨⟨2, .data⟩, by simp, rfl, rfl⟩).1 rfl
            have h5 := (hΦ 5 rfl ⟨⟨5, .data⟩, by simp, rfl, rfl⟩).2.1 rfl
            refine Oper.gives_fn rfl rfl rfl (enters_of Tryz.func39 (by kernel_rfl) rfl) ?_ rfl
            refine (r04_common_any _ _ (ν 2) (ν 5) W h2 h5 HW1.out HN1.out HN2.out).mono ?_
            rintro e W' ⟨v', rfl, h1, h2⟩
            exact ⟨v', rfl, h2, fun e => (by cases e), fun e => (by cases e), fun _ => h1⟩
        rotate_left 1
        case mono => exact fun c v W W' h hE => h.mono hE
        have h6 := (hΦ 6 (by decide) rfl).2.2 rfl
        have hwW : w.Exts W := World.Exts.trans (by repeat' (first | with_reducible exact World.Exts.refl _ | with_reducible refine World.Exts.alloc ?_ _ | with_reducible refine World.Exts.drew ?_ | with_reducible refine World.Exts.drewN ?_ _ | with_reducible refine World.Exts.ext ?_ _ | with_reducible refine World.Exts.setCell ?_ ?_ _ | (simp; done) | exact World.size_ext_le _ _ | (simp; omega))) hE
        have t0 : W.cell? ⟨w.heap.size + 1 + 1 + 1, 0, none⟩ = some (.int .i64 n.total.lo) := by obtain ⟨XX, rfl⟩ := hE; simp [go_sem]
        have t1 : W.cell? ⟨w.heap.size + 1 + 1 + 1, 1, none⟩ = some (.int .i64 n.total.hi) := by obtain ⟨XX, rfl⟩ := hE; simp [go_sem]
        have lt0 := Lays.of_cell t0
        simp only [List.drop_succ_cons, List.drop_zero]
        rw [← HM.out] at h6
        obtain ⟨q6, c6, e6⟩ := h6.len
        rw [e6] at h6 ⊢
        have H6 := Lib.hid h6
        clear h6
        clear hΦ e6 hE X2 X3 X4
        go_wp2_with (go_at_call 36; refine (r04_known_any M n.total _ _ (H6.out.mono (by repeat' (first | with_reducible exact World.Exts.refl _ | with_reducible refine World.Exts.alloc ?_ _ | with_reducible refine World.Exts.drew ?_ | with_reducible refine World.Exts.drewN ?_ _ | with_reducible refine World.Exts.ext ?_ _ | with_reducible refine World.Exts.setCell ?_ ?_ _ | (simp; done) | exact World.size_ext_le _ _ | (simp; omega))))).mono ?_; rintro e w' ⟨rfl, X9, rfl⟩)
        go_ret2
        exact ⟨rfl, (by repeat' (first | exact hwW | with_reducible exact World.Exts.refl _ | with_reducible refine World.Exts.alloc ?_ _ | with_reducible refine World.Exts.drew ?_ | with_reducible refine World.Exts.drewN ?_ _ | with_reducible refine World.Exts.ext ?_ _ | with_reducible refine World.Exts.setCell ?_ ?_ _ | (simp; done) | exact World.size_ext_le _ _ | (simp; omega)))⟩
    · rw [again_later hz hz2]
      have hc := check_three (ts.map Prod.fst) g2
      rcases hc with hc | hc | hc
      · exact absurd hc hz2
      all_goals
        rw [hc]
        have HE := Lib.hid hz
        clear hz
        have HE2 := Lib.hid hc
        clear hc
        clear hz2 hga hrt
        go_enter Tryz.func12, Tryz.ntmps12
        go_wp2_with (first
          | (go_at_call 32; ((with_reducible refine (r04_Check_any ts _ g _ _ _ _ ?hb ?hl ?hr ?hs).mono ?_); (case hb => exact HB.out.mono (by repeat' (first | with_reducible exact World.Exts.refl _ | with_reducible refine World.Exts.alloc ?_ _ | with_reducible refine World.Exts.drew ?_ | with_reducible refine World.Exts.drewN ?_ _ | with_reducible refine World.Exts.ext ?_ _ | with_reducible refine World.Exts.setCell ?_ ?_ _ | (simp; done) | exact World.size_ext_le _ _ | (simp; omega)))); (case hl => exact HG.out.l.mono (by repeat' (first | with_reducible exact World.Exts.refl _ | with_reducible refine World.Exts.alloc ?_ _ | with_reducible refine World.Exts.drew ?_ | with_reducible refine World.Exts.drewN ?_ _ | with_reducible refine World.Exts.ext ?_ _ | with_reducible refine World.Exts.setCell ?_ ?_ _ | (simp; done) | exact World.size_ext_le _ _ | (simp; omega)))); (case hr => exact HG.out.r.mono (by repeat' (first | with_reducible exact World.Exts.refl _ | with_reducible refine World.Exts.alloc ?_ _ | with_reducible refine World.Exts.drew ?_ | with_reducible refine World.Exts.drewN ?_ _ | with_reducible refine World.Exts.ext ?_ _ | with_reducible refine World.Exts.setCell ?_ ?_ _ | (simp; done) | exact World.size_ext_le _ _ | (simp; omega)))); (case hs => exact HG.out.s.mono (by repeat' (first | with_reducible exact World.Exts.refl _ | with_reducible refine World.Exts.alloc ?_ _ | with_reducible refine World.Exts.drew ?_ | with_reducible refine World.Exts.drewN ?_ _ | with_reducible refine World.Exts.ext ?_ _ | with_reducible refine World.Exts.setCell ?_ ?_ _ | (simp; done) | exact World.size_ext_le _ _ | (simp; omega)))); rintro e w' ⟨rfl, X2, rfl⟩; rw [HE.out]))
          | (go_at_call 32; ((with_reducible refine (r04_Check_any ts _ g2 _ _ _ _ ?hb ?hl ?hr ?hs).mono ?_); (case hb => exact HB.out.mono (by repeat' (first | with_reducible exact World.Exts.refl _ | with_reducible refine World.Exts.alloc ?_ _ | with_reducible refine World.Exts.drew ?_ | with_reducible refine World.Exts.drewN ?_ _ | with_reducible refine World.Exts.ext ?_ _ | with_reducible refine World.Exts.setCell ?_ ?_ _ | (simp; done) | exact World.size_ext_le _ _ | (simp; omega)))); (case hl => exact HG2.out.l.mono (by repeat' (first | with_reducible exact World.Exts.refl _ | with_reducible refine World.Exts.alloc ?_ _ | with_reducible refine World.Exts.drew ?_ | with_reducible refine World.Exts.drewN ?_ _ | with_reducible refine World.Exts.ext ?_ _ | with_reducible refine World.Exts.setCell ?_ ?_ _ | (simp; done) | exact World.size_ext_le _ _ | (simp; omega)))); (case hr => exact HG2.out.r.mono (by repeat' (first | with_reducible exact World.Exts.refl _ | with_reducible refine World.Exts.alloc ?_ _ | with_reducible refine World.Exts.drew ?_ | with_reducible refine World.Exts.drewN ?_ _ | with_reducible refine World.Exts.ext ?_ _ | with_reducible refine World.Exts.setCell ?_ ?_ _ | (simp; done) | exact World.size_ext_le _ _ | (simp; omega)))); (case hs => exact HG2.out.s.mono (by repeat' (first | with_reducible exact World.Exts.refl _ | with_reducible refine World.Exts.alloc ?_ _ | with_reducible refine World.Exts.drew ?_ | with_reducible refine World.Exts.drewN ?_ _ | with_reducible refine World.Exts.ext ?_ _ | with_reducible refine World.Exts.setCell ?_ ?_ _ | (simp; done) | exact World.size_ext_le _ _ | (simp; omega)))); rintro e w' ⟨rfl, X3, rfl⟩; rw [HE2.out]))
          | (go_at_call 21; refine (r04_Norm_any n _).mono ?_; rintro e w' ⟨rfl, X4, rfl⟩; rw [HN.out]))
        go_ret2
        exact ⟨rfl, (by repeat' (first | with_reducible exact World.Exts.refl _ | with_reducible refine World.Exts.alloc ?_ _ | with_reducible refine World.Exts.drew ?_ | with_reducible refine World.Exts.drewN ?_ _ | with_reducible refine World.Exts.ext ?_ _ | with_reducible refine World.Exts.setCell ?_ ?_ _ | (simp; done) | exact World.size_ext_le _ _ | (simp; omega)))⟩
  · rw [again_first hz]
    have hc := check_three (ts.map Prod.fst) g
    rcases hc with hc | hc | hc
    · exact absurd hc hz
    all_goals
      rw [hc]
      have HE := Lib.hid hc
      clear hc
      clear hz
      go_enter Tryz.func12, Tryz.ntmps12
      go_wp2_with (go_at_call 32; refine (r04_Check_any ts _ g _ _ _ _ (HB.out.mono (by repeat' (first | with_reducible exact World.Exts.refl _ | with_reducible refine World.Exts.alloc ?_ _ | with_reducible refine World.Exts.drew ?_ | with_reducible refine World.Exts.drewN ?_ _ | with_reducible refine World.Exts.ext ?_ _ | with_reducible refine World.Exts.setCell ?_ ?_ _ | (simp; done) | exact World.size_ext_le _ _ | (simp; omega)))) (HG.out.l.mono (by repeat' (first | with_reducible exact World.Exts.refl _ | with_reducible refine World.Exts.alloc ?_ _ | with_reducible refine World.Exts.drew ?_ | with_reducible refine World.Exts.drewN ?_ _ | with_reducible refine World.Exts.ext ?_ _ | with_reducible refine World.Exts.setCell ?_ ?_ _ | (simp; done) | exact World.size_ext_le _ _ | (simp; omega)))) (HG.out.r.mono (by repeat' (first | with_reducible exact World.Exts.refl _ | with_reducible refine World.Exts.alloc ?_ _ | with_reducible refine World.Exts.drew ?_ | with_reducible refine World.Exts.drewN ?_ _ | with_reducible refine World.Exts.ext ?_ _ | with_reducible refine World.Exts.setCell ?_ ?_ _ | (simp; done) | exact World.size_ext_le _ _ | (simp; omega)))) (HG.out.s.mono (by repeat' (first | with_reducible exact World.Exts.refl _ | with_reducible refine World.Exts.alloc ?_ _ | with_reducible refine World.Exts.drew ?_ | with_reducible refine World.Exts.drewN ?_ _ | with_reducible refine World.Exts.ext ?_ _ | with_reducible refine World.Exts.setCell ?_ ?_ _ | (simp; done) | exact World.size_ext_le _ _ | (simp; omega))))).mono ?_; rintro e w' ⟨rfl, X2, rfl⟩; rw [HE.out])
      go_ret2
      exact ⟨rfl, (by repeat' (first | with_reducible exact World.Exts.refl _ | with_reducible refine World.Exts.alloc ?_ _ | with_reducible refine World.Exts.drew ?_ | with_reducible refine World.Exts.drewN ?_ _ | with_reducible refine World.Exts.ext ?_ _ | with_reducible refine World.Exts.setCell ?_ ?_ _ | (simp; done) | exact World.size_ext_le _ _ | (simp; omega)))⟩
end Go.Proofs.YtomcenfikdmmkaaGreatDoor
