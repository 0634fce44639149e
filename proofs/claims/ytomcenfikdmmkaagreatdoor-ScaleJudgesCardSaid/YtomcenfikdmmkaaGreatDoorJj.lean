/-
  Walks of package scale: what is known of a total that was weighed twice.
-/
import Derived.Test.YtomcenfikdmmkaaGreatDoorJi
namespace Go.Proofs.YtomcenfikdmmkaaGreatDoor
open Go.RowKit Kr
set_option linter.unusedSimpArgs false

theorem row_appended {α : Type} {enc : α → List Value} {k base : Nat} {W w' : World} {v out out' : Value} {xs : List α} (h : IsRow enc k W v xs) (ha : AppendedW W w' out out' base) (hne : ∀ b, v.ownBlock = some b → out.ownBlock ≠ some b) : IsRow enc k w' v xs := by
  obtain ⟨p, b, o, cap, rfl, hm, hp, hc⟩ := h.ex
  refine ⟨p, b, o, cap, rfl, hm, fun h0 => ⟨(hp h0).1, ⟨Nat.lt_of_lt_of_le (hp h0).2.lt ha.size⟩⟩, fun i x hx j u hu => ?_⟩
  have h0 : 0 < xs.length := by have := (List.getElem?_eq_some_iff.1 hx).1; omega
  obtain ⟨rfl, hl⟩ := hp h0
  have hb := ha.block b hl.lt (fun e => hne b rfl e.symm)
  have h1 := hc i x hx j u hu
  unfold World.cell? at h1 ⊢
  rw [hb]
  exact h1
theorem own_lt {α : Type} {enc : α → List Value} {k : Nat} {W : World} {v : Value} {xs : List α} (h : IsRow enc k W v xs) (h0 : 0 < xs.length) {b : Nat} (hb : v.ownBlock = some b) : b < W.heap.size := by
  obtain ⟨p, b', o, cap, rfl, hm, hp, hc⟩ := h.ex
  obtain ⟨rfl, hl⟩ := hp h0
  simp [Value.ownBlock] at hb
  subst hb
  exact hl.lt

theorem gears2 {w : World} {x y : GearV} (hx : GearAt w x) (hy : GearAt w y) : ∀ z ∈ [x, y], GearAt w z := fun z hz => by
  simp only [List.mem_cons, List.not_mem_nil, or_false] at hz
  rcases hz with rfl | rfl
  · exact hx
  · exact hy

set_option maxRecDepth 4000 in
set_option maxHeartbeats 4000000 in
theorem scale_Again_any (ts : List (Kr.Scale × Value)) (v : Value) (g : Gear) (lv rv sv : Value) (g2 : Gear) (lv2 rv2 sv2 : Value) (n : Norm) (w : World) (hb : BayAt w v ts) (hg : GearAt w (g, lv, rv, sv)) (hg2 : GearAt w (g2, lv2, rv2, sv2)) :
    Calls Tryz.prog 11 #[.agg #[v], .agg #[lv, .int .i64 g.added, .int .i64 g.base, .int .i64 g.jitter, rv, sv, .int .i64 g.spread, .bool g.stamp], .agg #[lv2, .int .i64 g2.added, .int .i64 g2.base, .int .i64 g2.jitter, rv2, sv2, .int .i64 g2.spread, .bool g2.stamp], .agg #[.int .i64 n.total.lo, .int .i64 n.total.hi, .int .i64 n.added, .int .i64 n.warm, .int .i64 n.hard.lo, .int .i64 n.hard.hi, .bool n.stamp]] w fun e w' => e = .returned (.tuple #[.int .u8 (againR (ts.map Prod.fst) g g2 n).1, .int .i64 (againR (ts.map Prod.fst) g g2 n).2]) ∧ w.Exts w' := by
  have he : askErr ts [(g, lv, rv, sv), (g2, lv2, rv2, sv2)] = if check (ts.map Prod.fst) g ≠ 0 then check (ts.map Prod.fst) g else check (ts.map Prod.fst) g2 := by
    rw [← again_ask]
    unfold askErr
    simp
  obtain ⟨p, cap, hv⟩ := hb.row.len
  subst hv
  have hl1 := hg.l
  have hl2 := hg.r
  have hl3 := hg.s
  dsimp only at hl1 hl2 hl3
  obtain ⟨p1, cap1, rfl⟩ := hl1.len
  obtain ⟨p2, cap2, rfl⟩ := hl2.len
  obtain ⟨p3, cap3, rfl⟩ := hl3.len
  have HG := Lib.hid hg
  clear hg
  obtain ⟨p4, cap4, rfl⟩ : ∃ p c, lv2 = .slice p g2.loads.length c := hg2.l.len
  obtain ⟨p5, cap5, rfl⟩ : ∃ p c, rv2 = .slice p g2.runners.length c := hg2.r.len
  obtain ⟨p6, cap6, rfl⟩ : ∃ p c, sv2 = .slice p g2.strokes.length c := hg2.s.len
  have HG2 := Lib.hid hg2
  clear hg2
  have HB := Lib.hid hb
  clear hb
  clear hl1 hl2 hl3
  by_cases hz : check (ts.map Prod.fst) g = 0
  · obtain ⟨hga, hn, hrt⟩ := gearAsk hz
    rw [if_neg (by simp [hz])] at he
    by_cases hz2 : check (ts.map Prod.fst) g2 = 0
    · obtain ⟨hga2, -, -⟩ := gearAsk hz2
      rw [hz2] at he
      cases hnb : normB n
      · rw [again_norm hz hz2 hnb]
        have HN := Lib.hid hnb
        clear hnb
        have HE := Lib.hid he
        clear he
        clear hga hga2 hrt hz hz2
        go_enter Tryz.func11, Tryz.ntmps11
        go_wp2_with (first
          | (go_at_call 28; refine (scale_asked_any ts _ [(g, _, _, _), (g2, _, _, _)] _ _ (HB.out.mono (by repeat' (first | with_reducible exact World.Exts.refl _ | with_reducible refine World.Exts.alloc ?_ _ | with_reducible refine World.Exts.drew ?_ | with_reducible refine World.Exts.drewN ?_ _ | with_reducible refine World.Exts.ext ?_ _ | with_reducible refine World.Exts.setCell ?_ ?_ _ | (simp; done) | exact World.size_ext_le _ _ | (simp; omega)))) (row_gear2 _ (g, _, _, _) (g2, _, _, _) _ (by simp)) (gears2 (HG.out.mono (by repeat' (first | with_reducible exact World.Exts.refl _ | with_reducible refine World.Exts.alloc ?_ _ | with_reducible refine World.Exts.drew ?_ | with_reducible refine World.Exts.drewN ?_ _ | with_reducible refine World.Exts.ext ?_ _ | with_reducible refine World.Exts.setCell ?_ ?_ _ | (simp; done) | exact World.size_ext_le _ _ | (simp; omega)))) (HG2.out.mono (by repeat' (first | with_reducible exact World.Exts.refl _ | with_reducible refine World.Exts.alloc ?_ _ | with_reducible refine World.Exts.drew ?_ | with_reducible refine World.Exts.drewN ?_ _ | with_reducible refine World.Exts.ext ?_ _ | with_reducible refine World.Exts.setCell ?_ ?_ _ | (simp; done) | exact World.size_ext_le _ _ | (simp; omega)))))).mono ?_; rintro e w' ⟨pp, rfl, hy, X2, rfl⟩; obtain ⟨_, bb, rfl, hh⟩ := hy HE.out; rw [HE.out]; have HH := Lib.hid hh; clear hh hy)
          | (go_at_call 29; refine (scale_normal_any n _).mono ?_; rintro e w' ⟨rfl, X3, rfl⟩; rw [HN.out])
          | (go_at_call 30; refine (hall_totals_own ts _ g _ _ _ _ _ (HH.out.mono (by repeat' (first | with_reducible exact World.Exts.refl _ | with_reducible refine World.Exts.alloc ?_ _ | with_reducible refine World.Exts.drew ?_ | with_reducible refine World.Exts.drewN ?_ _ | with_reducible refine World.Exts.ext ?_ _ | with_reducible refine World.Exts.setCell ?_ ?_ _ | (simp; done) | exact World.size_ext_le _ _ | (simp; omega)))) (HG.out.mono (by repeat' (first | with_reducible exact World.Exts.refl _ | with_reducible refine World.Exts.alloc ?_ _ | with_reducible refine World.Exts.drew ?_ | with_reducible refine World.Exts.drewN ?_ _ | with_reducible refine World.Exts.ext ?_ _ | with_reducible refine World.Exts.setCell ?_ ?_ _ | (simp; done) | exact World.size_ext_le _ _ | (simp; omega)))) hn HRT.out h61 HSH1.out ad1).mono ?_; rw [← HA.out]; rintro e w' ⟨vt, rfl, ht, ⟨X4, rfl⟩, -, -⟩; obtain ⟨qt, ct, rfl⟩ := ht.len; have HT := Lib.hid ht; clear ht))
        go_ret2
        exact ⟨rfl, (by repeat' (first | with_reducible exact World.Exts.refl _ | with_reducible refine World.Exts.alloc ?_ _ | with_reducible refine World.Exts.drew ?_ | with_reducible refine World.Exts.drewN ?_ _ | with_reducible refine World.Exts.ext ?_ _ | with_reducible refine World.Exts.setCell ?_ ?_ _ | (simp; done) | exact World.size_ext_le _ _ | (simp; omega)))⟩
      obtain ⟨h61, sh1, ad1, neat1, win1, _⟩ := hga
      obtain ⟨h62, sh2, ad2, neat2, _, _⟩ := hga2
      have hfin : ∀ M, M = commonL (totals (ts.map Prod.fst) g) (totals (ts.map Prod.fst) g2) → againR (ts.map Prod.fst) g g2 n = if M.length = 0 then (0, 6) else (knownR M n.total, 0) := fun M hM => by
        subst hM
        by_cases h : commonL (totals (ts.map Prod.fst) g) (totals (ts.map Prod.fst) g2) = []
        · rw [again_none hz hz2 hnb h, if_pos (by rw [h]; rfl)]
        · rw [again_all hz hz2 hnb h, if_neg (fun e => h (List.eq_nil_of_length_eq_zero e))]
      rw [hfin _ rfl]
      clear hfin hz hz2
      have hcf := common_full (totals (ts.map Prod.fst) g) (totals (ts.map Prod.fst) g2)
      have htf : ∀ k s m, (totals (ts.map Prod.fst) g)[k]? = some s → (commonL ((totals (ts.map Prod.fst) g).take k) (totals (ts.map Prod.fst) g2) ++ commonOne s ((totals (ts.map Prod.fst) g2).take m)).length ≤ 1000000000000 := fun k s m h => common_take_few neat1 neat2 win1 h m
      obtain ⟨A, hA⟩ : ∃ A, A = totals (ts.map Prod.fst) g := ⟨_, rfl⟩
      obtain ⟨B, hB⟩ : ∃ B, B = totals (ts.map Prod.fst) g2 := ⟨_, rfl⟩
      rw [← hA, ← hB] at hcf htf
      rw [← hA, ← hB]
      have HRT := Lib.hid hrt
      clear hrt
      have HSH1 := Lib.hid sh1
      clear sh1
      have HSH2 := Lib.hid sh2
      clear sh2
      have HN := Lib.hid hnb
      clear hnb
      have HE := Lib.hid he
      clear he
      have HA := Lib.hid hA
      clear hA
      have HB2 := Lib.hid hB
      clear hB
      have HCF := Lib.hid hcf
      clear hcf
      have HTF := Lib.hid htf
      clear htf
      clear neat1 neat2 win1
      rcases Nat.eq_zero_or_pos (commonL A B).length with h0 | h0
      · rw [if_pos h0]
        have h0' : (commonL A B).length ≤ 0 := by omega
        clear h0
        go_enter Tryz.func11, Tryz.ntmps11
        go_wp2_with (first
          | (go_at_call 28; refine (scale_asked_any ts _ [(g, _, _, _), (g2, _, _, _)] _ _ (HB.out.mono (by repeat' (first | with_reducible exact World.Exts.refl _ | with_reducible refine World.Exts.alloc ?_ _ | with_reducible refine World.Exts.drew ?_ | with_reducible refine World.Exts.drewN ?_ _ | with_reducible refine World.Exts.ext ?_ _ | with_reducible refine World.Exts.setCell ?_ ?_ _ | (simp; done) | exact World.size_ext_le _ _ | (simp; omega)))) (row_gear2 _ (g, _, _, _) (g2, _, _, _) _ (by simp)) (gears2 (HG.out.mono (by repeat' (first | with_reducible exact World.Exts.refl _ | with_reducible refine World.Exts.alloc ?_ _ | with_reducible refine World.Exts.drew ?_ | with_reducible refine World.Exts.drewN ?_ _ | with_reducible refine World.Exts.ext ?_ _ | with_reducible refine World.Exts.setCell ?_ ?_ _ | (simp; done) | exact World.size_ext_le _ _ | (simp; omega)))) (HG2.out.mono (by repeat' (first | with_reducible exact World.Exts.refl _ | with_reducible refine World.Exts.alloc ?_ _ | with_reducible refine World.Exts.drew ?_ | with_reducible refine World.Exts.drewN ?_ _ | with_reducible refine World.Exts.ext ?_ _ | with_reducible refine World.Exts.setCell ?_ ?_ _ | (simp; done) | exact World.size_ext_le _ _ | (simp; omega)))))).mono ?_; rintro e w' ⟨pp, rfl, hy, X2, rfl⟩; obtain ⟨_, bb, rfl, hh⟩ := hy HE.out; rw [HE.out]; have HH := Lib.hid hh; clear hh hy)
          | (go_at_call 29; refine (scale_normal_any n _).mono ?_; rintro e w' ⟨rfl, X3, rfl⟩; rw [HN.out])
          | (go_at_call 30; refine (hall_totals_own ts _ g _ _ _ _ _ (HH.out.mono (by repeat' (first | with_reducible exact World.Exts.refl _ | with_reducible refine World.Exts.alloc ?_ _ | with_reducible refine World.Exts.drew ?_ | with_reducible refine World.Exts.drewN ?_ _ | with_reducible refine World.Exts.ext ?_ _ | with_reducible refine World.Exts.setCell ?_ ?_ _ | (simp; done) | exact World.size_ext_le _ _ | (simp; omega)))) (HG.out.mono (by repeat' (first | with_reducible exact World.Exts.refl _ | with_reducible refine World.Exts.alloc ?_ _ | with_reducible refine World.Exts.drew ?_ | with_reducible refine World.Exts.drewN ?_ _ | with_reducible refine World.Exts.ext ?_ _ | with_reducible refine World.Exts.setCell ?_ ?_ _ | (simp; done) | exact World.size_ext_le _ _ | (simp; omega)))) hn HRT.out h61 HSH1.out ad1).mono ?_; rw [← HA.out]; rintro e w' ⟨vt, rfl, ht, ⟨X4, rfl⟩, -, -⟩; obtain ⟨qt, ct, rfl⟩ := ht.len; have HT := Lib.hid ht; clear ht))
        have hwW : w.Exts (World.ext _ X4) := (by repeat' (first | with_reducible exact World.Exts.refl _ | with_reducible refine World.Exts.alloc ?_ _ | with_reducible refine World.Exts.drew ?_ | with_reducible refine World.Exts.drewN ?_ _ | with_reducible refine World.Exts.ext ?_ _ | with_reducible refine World.Exts.setCell ?_ ?_ _ | (simp; done) | exact World.size_ext_le _ _ | (simp; omega)))
        have hHV : HallAt Tryz.prog 3 (World.ext _ X4) bb (.slice p ts.length cap) ts := HH.out.mono (by repeat' (first | with_reducible exact World.Exts.refl _ | with_reducible refine World.Exts.alloc ?_ _ | with_reducible refine World.Exts.drew ?_ | with_reducible refine World.Exts.drewN ?_ _ | with_reducible refine World.Exts.ext ?_ _ | with_reducible refine World.Exts.setCell ?_ ?_ _ | (simp; done) | exact World.size_ext_le _ _ | (simp; omega)))
        have hTV : IsRow (fun t : Kr.Span => [.int .i64 t.lo, .int .i64 t.hi]) 2 (World.ext _ X4) (.slice qt A.length ct) A := HT.out
        have b60 : (World.ext _ X4).cell? ⟨w.heap.size + 1 + 1, 0, none⟩ = some (.slice p4 g2.loads.length cap4) := by simp [go_sem]
        have b61 : (World.ext _ X4).cell? ⟨w.heap.size + 1 + 1, 1, none⟩ = some (.int .i64 g2.added) := by simp [go_sem]
        have b62 : (World.ext _ X4).cell? ⟨w.heap.size + 1 + 1, 2, none⟩ = some (.int .i64 g2.base) := by simp [go_sem]
        have b63 : (World.ext _ X4).cell? ⟨w.heap.size + 1 + 1, 3, none⟩ = some (.int .i64 g2.jitter) := by simp [go_sem]
        have b64 : (World.ext _ X4).cell? ⟨w.heap.size + 1 + 1, 4, none⟩ = some (.slice p5 g2.runners.length cap5) := by simp [go_sem]
        have b65 : (World.ext _ X4).cell? ⟨w.heap.size + 1 + 1, 5, none⟩ = some (.slice p6 g2.strokes.length cap6) := by simp [go_sem]
        have b66 : (World.ext _ X4).cell? ⟨w.heap.size + 1 + 1, 6, none⟩ = some (.int .i64 g2.spread) := by simp [go_sem]
        have b67 : (World.ext _ X4).cell? ⟨w.heap.size + 1 + 1, 7, none⟩ = some (.bool g2.stamp) := by simp [go_sem]
        have b70 : (World.ext _ X4).cell? ⟨w.heap.size + 1 + 1 + 1, 0, none⟩ = some (.int .i64 n.total.lo) := by simp [go_sem]
        have b71 : (World.ext _ X4).cell? ⟨w.heap.size + 1 + 1 + 1, 1, none⟩ = some (.int .i64 n.total.hi) := by simp [go_sem]
        clear HH HT
        generalize World.ext _ X4 = V at *
        have n6 := Lays.of_cell b60
        have n7 := Lays.of_cell b70
        obtain ⟨pa, ba, oa, ca, ea, hma, hpa, hca⟩ := hTV.ex
        cases ea
        have HHV := Lib.hid hHV
        clear hHV
        have HPA := Lib.hid hpa
        clear hpa
        have HCA := Lib.hid hca
        clear hca
        clear hTV
        go_loopw [12, 36] (fun out i wr => ∃ k : Nat, k ≤ A.length ∧ i = .int .i64 k ∧ Hid (wr.ownsRow V.heap.size 30 2 out (commonL (A.take k) B).length (spanCs (commonL (A.take k) B))) ∧ V.Exts wr) (fun _ i _ => A.length - (intOf i).toNat)
        case atStart => exact ⟨0, Nat.zero_le _, rfl, Lib.hid (World.ownsRow_nil _ _ _ _), World.Exts.refl _⟩
        case round =>
          obtain ⟨k, hk, rfl, HO, hE⟩ := hrel
          obtain ⟨X, rfl⟩ := hE
          by_cases hlt : k < A.length
          · obtain ⟨rfl, hl1⟩ := HPA.out (by omega)
            obtain ⟨s, hs⟩ := some_of_lt hlt
            have hcs := HCA.out k s hs
            have c0 := hcs 0 _ rfl
            have c1 := hcs 1 _ rfl
            simp only [Nat.add_zero] at c0 c1
            have hnk : commonL (A.take (k + 1)) B = commonL (A.take k) B ++ commonOne s B := by rw [take_snoc hs, commonL_snoc]
            have hlk := fun m => HTF.out k s m hs
            have HNK := Lib.hid hnk
            clear hnk
            have HLK := Lib.hid hlk
            clear hlk
            clear hs hcs HPA
            go_wp2_with (go_at_call 30; refine (hall_totals_own ts _ g2 _ _ _ _ _ (HHV.out.mono (by repeat' (first | with_reducible exact World.Exts.refl _ | with_reducible refine World.Exts.alloc ?_ _ | with_reducible refine World.Exts.drew ?_ | with_reducible refine World.Exts.drewN ?_ _ | with_reducible refine World.Exts.ext ?_ _ | with_reducible refine World.Exts.setCell ?_ ?_ _ | (simp; done) | exact World.size_ext_le _ _ | (simp; omega)))) (HG2.out.mono (by repeat' (first | exact hwW | with_reducible exact World.Exts.refl _ | with_reducible refine World.Exts.alloc ?_ _ | with_reducible refine World.Exts.drew ?_ | with_reducible refine World.Exts.drewN ?_ _ | with_reducible refine World.Exts.ext ?_ _ | with_reducible refine World.Exts.setCell ?_ ?_ _ | (simp; done) | exact World.size_ext_le _ _ | (simp; omega)))) hn HRT.out h62 HSH2.out ad2).mono ?_; rw [← HB2.out]; rintro e w' ⟨vt, rfl, ht, ⟨X5, rfl⟩, -, htN⟩; obtain ⟨qb, cb, rfl⟩ := ht.len; have HTB := Lib.hid ht; have HTN := Lib.hid htN; clear ht htN)
            have hSB : LaysAs (World.ext _ X5) (V.ext X).heap.size (.cells [.int .i64 s.lo, .int .i64 s.hi].toArray 30 (0, 0)) := LaysAs.exts (LaysAs.new (V.ext X) (.cells #[.int .i64 s.lo, .int .i64 s.hi] 30)) (by repeat' (first | with_reducible exact World.Exts.refl _ | with_reducible refine World.Exts.alloc ?_ _ | with_reducible refine World.Exts.drew ?_ | with_reducible refine World.Exts.drewN ?_ _ | with_reducible refine World.Exts.ext ?_ _ | with_reducible refine World.Exts.setCell ?_ ?_ _ | (simp; done) | exact World.size_ext_le _ _ | (simp; omega)))
            have hNS := own_not_new HO.out
            have hNB := fun b (hb : (Value.slice qb B.length cb).ownBlock = some b) => (fun e => by
              have h1 := HTN.out b hb
              have h2 := (HO.out.lt b e).2
              simp at h1
              omega : Value.ownBlock _ ≠ some b)
            have HSB := Lib.hid hSB
            clear hSB
            have HNS := Lib.hid hNS
            clear hNS
            have HNB := Lib.hid hNB
            clear hNB
            go_loopw [12, 44] (fun out i wr => ∃ m : Nat, m ≤ B.length ∧ i = .int .i64 m ∧ Hid (wr.ownsRow V.heap.size 30 2 out (commonL (A.take k) B ++ commonOne s (B.take m)).length (spanCs (commonL (A.take k) B ++ commonOne s (B.take m)))) ∧ V.Exts wr ∧ Hid (LaysAs wr (V.ext X).heap.size (.cells [.int .i64 s.lo, .int .i64 s.hi].toArray 30 (0, 0))) ∧ Hid (out.ownBlock ≠ some (V.ext X).heap.size) ∧ Hid (IsRow (fun t : Kr.Span => [.int .i64 t.lo, .int .i64 t.hi]) 2 wr (.slice qb B.length cb) B) ∧ Hid (∀ b, (Value.slice qb B.length cb).ownBlock = some b → out.ownBlock ≠ some b)) (fun _ i _ => B.length - (intOf i).toNat)
            case atStart => exact ⟨0, Nat.zero_le _, rfl, Lib.hid (by simpa [commonOne] using ownsRow_exts HO.out (by repeat' (first | with_reducible exact World.Exts.refl _ | with_reducible refine World.Exts.alloc ?_ _ | with_reducible refine World.Exts.drew ?_ | with_reducible refine World.Exts.drewN ?_ _ | with_reducible refine World.Exts.ext ?_ _ | with_reducible refine World.Exts.setCell ?_ ?_ _ | (simp; done) | exact World.size_ext_le _ _ | (simp; omega)))), (by repeat' (first | with_reducible exact World.Exts.refl _ | with_reducible refine World.Exts.alloc ?_ _ | with_reducible refine World.Exts.drew ?_ | with_reducible refine World.Exts.drewN ?_ _ | with_reducible refine World.Exts.ext ?_ _ | with_reducible refine World.Exts.setCell ?_ ?_ _ | (simp; done) | exact World.size_ext_le _ _ | (simp; omega))), HSB, HNS, HTB, HNB⟩
            case round =>
              obtain ⟨m, hm, rfl, HO2, hE2, HL, HN9, HR9, HNB9⟩ := hrel
              obtain ⟨X6, rfl⟩ := hE2
              have e0 := LaysAs.cell (cs := [.int .i64 s.lo, .int .i64 s.hi]) HL.out 0 _ rfl
              have e1 := LaysAs.cell (cs := [.int .i64 s.lo, .int .i64 s.hi]) HL.out 1 _ rfl
              have hle := Lays.of_cell e0
              by_cases hlt2 : m < B.length
              · obtain ⟨pb, bb2, ob, cb2, eb, hmb, hpb, hcb⟩ := HR9.out.ex
                cases eb
                obtain ⟨rfl, hl2⟩ := hpb (by omega)
                obtain ⟨t, ht⟩ := some_of_lt hlt2
                have hct := hcb m t ht
                have d0 := hct 0 _ rfl
                have d1 := hct 1 _ rfl
                simp only [Nat.add_zero] at d0 d1
                have hnx : commonL (A.take k) B ++ commonOne s (B.take (m + 1)) = commonL (A.take k) B ++ commonOne s (B.take m) ++ (if max s.lo t.lo ≤ min s.hi t.hi then [⟨max s.lo t.lo, min s.hi t.hi⟩] else []) := by rw [take_snoc ht, commonOne_snoc, List.append_assoc]
                have hlm := HLK.out m
                generalize hL : commonL (A.take k) B ++ commonOne s (B.take m) = L at hnx hlm HO2
                clear ht hct hpb hcb hL
                rcases Int.lt_or_le (min s.hi t.hi) (max s.lo t.lo) with hc | hc
                · rw [if_neg (by omega), List.append_nil] at hnx
                  have HNX := Lib.hid hnx
                  clear hnx
                  have hdc : decide (max s.lo t.lo ≤ min s.hi t.hi) = false := by simp; omega
                  go_wp2_with fail
                  go_roundw
                  case rel => exact ⟨m + 1, by omega, by go_num, Lib.hid (by rw [HNX.out]; exact ownsRow_exts HO2.out (by repeat' (first | with_reducible exact World.Exts.refl _ | with_reducible refine World.Exts.alloc ?_ _ | with_reducible refine World.Exts.drew ?_ | with_reducible refine World.Exts.drewN ?_ _ | with_reducible refine World.Exts.ext ?_ _ | with_reducible refine World.Exts.setCell ?_ ?_ _ | (simp; done) | exact World.size_ext_le _ _ | (simp; omega)))), (by repeat' (first | with_reducible exact World.Exts.refl _ | with_reducible refine World.Exts.alloc ?_ _ | with_reducible refine World.Exts.drew ?_ | with_reducible refine World.Exts.drewN ?_ _ | with_reducible refine World.Exts.ext ?_ _ | with_reducible refine World.Exts.setCell ?_ ?_ _ | (simp; done) | exact World.size_ext_le _ _ | (simp; omega))), Lib.hid (HL.out.exts (by repeat' (first | with_reducible exact World.Exts.refl _ | with_reducible refine World.Exts.alloc ?_ _ | with_reducible refine World.Exts.drew ?_ | with_reducible refine World.Exts.drewN ?_ _ | with_reducible refine World.Exts.ext ?_ _ | with_reducible refine World.Exts.setCell ?_ ?_ _ | (simp; done) | exact World.size_ext_le _ _ | (simp; omega)))), HN9, Lib.hid (HR9.out.mono (by repeat' (first | with_reducible exact World.Exts.refl _ | with_reducible refine World.Exts.alloc ?_ _ | with_reducible refine World.Exts.drew ?_ | with_reducible refine World.Exts.drewN ?_ _ | with_reducible refine World.Exts.ext ?_ _ | with_reducible refine World.Exts.setCell ?_ ?_ _ | (simp; done) | exact World.size_ext_le _ _ | (simp; omega)))), HNB9⟩
                  case measure => simp [intOf]; omega
                · rw [if_pos hc] at hnx
                  have HNX := Lib.hid hnx
                  clear hnx
                  have hdc : decide (max s.lo t.lo ≤ min s.hi t.hi) = true := by simp; omega
                  go_wp2_with (at_builtin; refine wpList_append1W (.tmp 64) (.tmp 66) elem_Span rfl rfl rfl (ownsRow_exts HO2.out (by repeat' (first | with_reducible exact World.Exts.refl _ | with_reducible refine World.Exts.alloc ?_ _ | with_reducible refine World.Exts.drew ?_ | with_reducible refine World.Exts.drewN ?_ _ | with_reducible refine World.Exts.ext ?_ _ | with_reducible refine World.Exts.setCell ?_ ?_ _ | (simp; done) | exact World.size_ext_le _ _ | (simp; omega)))) [.int .i64 (max s.lo t.lo), .int .i64 (min s.hi t.hi)] _ (by simp) rfl rfl ?h1 ?h2 ?h4 ?h3 ?_)
                  case h1 => exact one_Span ⟨max s.lo t.lo, min s.hi t.hi⟩
                  case h2 => omega
                  case h4 => decide
                  case h3 => exact World.Exts.size (by repeat' (first | with_reducible exact World.Exts.refl _ | with_reducible refine World.Exts.alloc ?_ _ | with_reducible refine World.Exts.drew ?_ | with_reducible refine World.Exts.drewN ?_ _ | with_reducible refine World.Exts.ext ?_ _ | with_reducible refine World.Exts.setCell ?_ ?_ _ | (simp; done) | exact World.size_ext_le _ _ | (simp; omega)))
                  intro v' w' hown' happ
                  have hE9 := happ.exts V (by repeat' (first | with_reducible exact World.Exts.refl _ | with_reducible refine World.Exts.alloc ?_ _ | with_reducible refine World.Exts.drew ?_ | with_reducible refine World.Exts.drewN ?_ _ | with_reducible refine World.Exts.ext ?_ _ | with_reducible refine World.Exts.setCell ?_ ?_ _ | (simp; done) | exact World.size_ext_le _ _ | (simp; omega))) (Nat.le_refl _)
                  have hL2 := (HL.out.exts (by repeat' (first | with_reducible exact World.Exts.refl _ | with_reducible refine World.Exts.alloc ?_ _ | with_reducible refine World.Exts.drew ?_ | with_reducible refine World.Exts.drewN ?_ _ | with_reducible refine World.Exts.ext ?_ _ | with_reducible refine World.Exts.setCell ?_ ?_ _ | (simp; done) | exact World.size_ext_le _ _ | (simp; omega)))).appended happ HN9.out
                  have hR2 := row_appended (HR9.out.mono (by repeat' (first | with_reducible exact World.Exts.refl _ | with_reducible refine World.Exts.alloc ?_ _ | with_reducible refine World.Exts.drew ?_ | with_reducible refine World.Exts.drewN ?_ _ | with_reducible refine World.Exts.ext ?_ _ | with_reducible refine World.Exts.setCell ?_ ?_ _ | (simp; done) | exact World.size_ext_le _ _ | (simp; omega)))) happ HNB9.out
                  have hB2 := fun b hb => happ.beside b (own_lt (HR9.out.mono (by repeat' (first | with_reducible exact World.Exts.refl _ | with_reducible refine World.Exts.alloc ?_ _ | with_reducible refine World.Exts.drew ?_ | with_reducible refine World.Exts.drewN ?_ _ | with_reducible refine World.Exts.ext ?_ _ | with_reducible refine World.Exts.setCell ?_ ?_ _ | (simp; done) | exact World.size_ext_le _ _ | (simp; omega)))) (by omega) hb) (HNB9.out b hb)
                  have HO3 := Lib.hid hown'
                  clear hown'
                  have HE9 := Lib.hid hE9
                  clear hE9
                  have HL2 := Lib.hid hL2
                  clear hL2
                  have HR2 := Lib.hid hR2
                  clear hR2
                  have HB9 := Lib.hid hB2
                  clear hB2
                  clear happ
                  go_wp2_with fail
                  go_roundw
                  case rel => exact ⟨m + 1, by omega, by go_num, Lib.hid (by rw [HNX.out, spanCs_snoc, List.length_append]; exact HO3.out), HE9.out, Lib.hid HL2.out.1, Lib.hid HL2.out.2, HR2, HB9⟩
                  case measure => simp [intOf]; omega
              · have hmb : m = B.length := by omega
                have hO := HO2.out
                rw [hmb, List.take_length, ← HNK.out] at hO
                have HO3 := Lib.hid hO
                clear hO
                clear hmb
                go_wp2_with fail
                go_roundw
                case rel => exact ⟨k + 1, by omega, by go_num, Lib.hid HO3.out, (by repeat' (first | with_reducible exact World.Exts.refl _ | with_reducible refine World.Exts.alloc ?_ _ | with_reducible refine World.Exts.drew ?_ | with_reducible refine World.Exts.drewN ?_ _ | with_reducible refine World.Exts.ext ?_ _ | with_reducible refine World.Exts.setCell ?_ ?_ _ | (simp; done) | exact World.size_ext_le _ _ | (simp; omega)))⟩
                case measure => simp [intOf]; omega
          · have hka : k = A.length := by omega
            have hO := HO.out
            rw [hka, List.take_length] at hO
            have hrw := row_spans hO
            obtain ⟨qo, co, eo⟩ := hrw.len
            subst eo
            have HRW := Lib.hid hrw
            clear hrw
            clear hka HO hO
            go_wp2_with fail
            go_ret2
            exact ⟨rfl, (by repeat' (first | exact hwW | with_reducible exact World.Exts.refl _ | with_reducible refine World.Exts.alloc ?_ _ | with_reducible refine World.Exts.drew ?_ | with_reducible refine World.Exts.drewN ?_ _ | with_reducible refine World.Exts.ext ?_ _ | with_reducible refine World.Exts.setCell ?_ ?_ _ | (simp; done) | exact World.size_ext_le _ _ | (simp; omega)))⟩
      · rw [if_neg (by omega)]
        go_enter Tryz.func11, Tryz.ntmps11
        go_wp2_with (first
          | (go_at_call 28; refine (scale_asked_any ts _ [(g, _, _, _), (g2, _, _, _)] _ _ (HB.out.mono (by repeat' (first | with_reducible exact World.Exts.refl _ | with_reducible refine World.Exts.alloc ?_ _ | with_reducible refine World.Exts.drew ?_ | with_reducible refine World.Exts.drewN ?_ _ | with_reducible refine World.Exts.ext ?_ _ | with_reducible refine World.Exts.setCell ?_ ?_ _ | (simp; done) | exact World.size_ext_le _ _ | (simp; omega)))) (row_gear2 _ (g, _, _, _) (g2, _, _, _) _ (by simp)) (gears2 (HG.out.mono (by repeat' (first | with_reducible exact World.Exts.refl _ | with_reducible refine World.Exts.alloc ?_ _ | with_reducible refine World.Exts.drew ?_ | with_reducible refine World.Exts.drewN ?_ _ | with_reducible refine World.Exts.ext ?_ _ | with_reducible refine World.Exts.setCell ?_ ?_ _ | (simp; done) | exact World.size_ext_le _ _ | (simp; omega)))) (HG2.out.mono (by repeat' (first | with_reducible exact World.Exts.refl _ | with_reducible refine World.Exts.alloc ?_ _ | with_reducible refine World.Exts.drew ?_ | with_reducible refine World.Exts.drewN ?_ _ | with_reducible refine World.Exts.ext ?_ _ | with_reducible refine World.Exts.setCell ?_ ?_ _ | (simp; done) | exact World.size_ext_le _ _ | (simp; omega)))))).mono ?_; rintro e w' ⟨pp, rfl, hy, X2, rfl⟩; obtain ⟨_, bb, rfl, hh⟩ := hy HE.out; rw [HE.out]; have HH := Lib.hid hh; clear hh hy)
          | (go_at_call 29; refine (scale_normal_any n _).mono ?_; rintro e w' ⟨rfl, X3, rfl⟩; rw [HN.out])
          | (go_at_call 30; refine (hall_totals_own ts _ g _ _ _ _ _ (HH.out.mono (by repeat' (first | with_reducible exact World.Exts.refl _ | with_reducible refine World.Exts.alloc ?_ _ | with_reducible refine World.Exts.drew ?_ | with_reducible refine World.Exts.drewN ?_ _ | with_reducible refine World.Exts.ext ?_ _ | with_reducible refine World.Exts.setCell ?_ ?_ _ | (simp; done) | exact World.size_ext_le _ _ | (simp; omega)))) (HG.out.mono (by repeat' (first | with_reducible exact World.Exts.refl _ | with_reducible refine World.Exts.alloc ?_ _ | with_reducible refine World.Exts.drew ?_ | with_reducible refine World.Exts.drewN ?_ _ | with_reducible refine World.Exts.ext ?_ _ | with_reducible refine World.Exts.setCell ?_ ?_ _ | (simp; done) | exact World.size_ext_le _ _ | (simp; omega)))) hn HRT.out h61 HSH1.out ad1).mono ?_; rw [← HA.out]; rintro e w' ⟨vt, rfl, ht, ⟨X4, rfl⟩, -, -⟩; obtain ⟨qt, ct, rfl⟩ := ht.len; have HT := Lib.hid ht; clear ht))
        have hwW : w.Exts (World.ext _ X4) := (by repeat' (first | with_reducible exact World.Exts.refl _ | with_reducible refine World.Exts.alloc ?_ _ | with_reducible refine World.Exts.drew ?_ | with_reducible refine World.Exts.drewN ?_ _ | with_reducible refine World.Exts.ext ?_ _ | with_reducible refine World.Exts.setCell ?_ ?_ _ | (simp; done) | exact World.size_ext_le _ _ | (simp; omega)))
        have hHV : HallAt Tryz.prog 3 (World.ext _ X4) bb (.slice p ts.length cap) ts := HH.out.mono (by repeat' (first | with_reducible exact World.Exts.refl _ | with_reducible refine World.Exts.alloc ?_ _ | with_reducible refine World.Exts.drew ?_ | with_reducible refine World.Exts.drewN ?_ _ | with_reducible refine World.Exts.ext ?_ _ | with_reducible refine World.Exts.setCell ?_ ?_ _ | (simp; done) | exact World.size_ext_le _ _ | (simp; omega)))
        have hTV : IsRow (fun t : Kr.Span => [.int .i64 t.lo, .int .i64 t.hi]) 2 (World.ext _ X4) (.slice qt A.length ct) A := HT.out
        have b60 : (World.ext _ X4).cell? ⟨w.heap.size + 1 + 1, 0, none⟩ = some (.slice p4 g2.loads.length cap4) := by simp [go_sem]
        have b61 : (World.ext _ X4).cell? ⟨w.heap.size + 1 + 1, 1, none⟩ = some (.int .i64 g2.added) := by simp [go_sem]
        have b62 : (World.ext _ X4).cell? ⟨w.heap.size + 1 + 1, 2, none⟩ = some (.int .i64 g2.base) := by simp [go_sem]
        have b63 : (World.ext _ X4).cell? ⟨w.heap.size + 1 + 1, 3, none⟩ = some (.int .i64 g2.jitter) := by simp [go_sem]
        have b64 : (World.ext _ X4).cell? ⟨w.heap.size + 1 + 1, 4, none⟩ = some (.slice p5 g2.runners.length cap5) := by simp [go_sem]
        have b65 : (World.ext _ X4).cell? ⟨w.heap.size + 1 + 1, 5, none⟩ = some (.slice p6 g2.strokes.length cap6) := by simp [go_sem]
        have b66 : (World.ext _ X4).cell? ⟨w.heap.size + 1 + 1, 6, none⟩ = some (.int .i64 g2.spread) := by simp [go_sem]
        have b67 : (World.ext _ X4).cell? ⟨w.heap.size + 1 + 1, 7, none⟩ = some (.bool g2.stamp) := by simp [go_sem]
        have b70 : (World.ext _ X4).cell? ⟨w.heap.size + 1 + 1 + 1, 0, none⟩ = some (.int .i64 n.total.lo) := by simp [go_sem]
        have b71 : (World.ext _ X4).cell? ⟨w.heap.size + 1 + 1 + 1, 1, none⟩ = some (.int .i64 n.total.hi) := by simp [go_sem]
        clear HH HT
        generalize World.ext _ X4 = V at *
        have n6 := Lays.of_cell b60
        have n7 := Lays.of_cell b70
        obtain ⟨pa, ba, oa, ca, ea, hma, hpa, hca⟩ := hTV.ex
        cases ea
        have HHV := Lib.hid hHV
        clear hHV
        have HPA := Lib.hid hpa
        clear hpa
        have HCA := Lib.hid hca
        clear hca
        clear hTV
        go_loopw [12, 36] (fun out i wr => ∃ k : Nat, k ≤ A.length ∧ i = .int .i64 k ∧ Hid (wr.ownsRow V.heap.size 30 2 out (commonL (A.take k) B).length (spanCs (commonL (A.take k) B))) ∧ V.Exts wr) (fun _ i _ => A.length - (intOf i).toNat)
        case atStart => exact ⟨0, Nat.zero_le _, rfl, Lib.hid (World.ownsRow_nil _ _ _ _), World.Exts.refl _⟩
        case round =>
          obtain ⟨k, hk, rfl, HO, hE⟩ := hrel
          obtain ⟨X, rfl⟩ := hE
          by_cases hlt : k < A.length
          · obtain ⟨rfl, hl1⟩ := HPA.out (by omega)
            obtain ⟨s, hs⟩ := some_of_lt hlt
            have hcs := HCA.out k s hs
            have c0 := hcs 0 _ rfl
            have c1 := hcs 1 _ rfl
            simp only [Nat.add_zero] at c0 c1
            have hnk : commonL (A.take (k + 1)) B = commonL (A.take k) B ++ commonOne s B := by rw [take_snoc hs, commonL_snoc]
            have hlk := fun m => HTF.out k s m hs
            have HNK := Lib.hid hnk
            clear hnk
            have HLK := Lib.hid hlk
            clear hlk
            clear hs hcs HPA
            go_wp2_with (go_at_call 30; refine (hall_totals_own ts _ g2 _ _ _ _ _ (HHV.out.mono (by repeat' (first | with_reducible exact World.Exts.refl _ | with_reducible refine World.Exts.alloc ?_ _ | with_reducible refine World.Exts.drew ?_ | with_reducible refine World.Exts.drewN ?_ _ | with_reducible refine World.Exts.ext ?_ _ | with_reducible refine World.Exts.setCell ?_ ?_ _ | (simp; done) | exact World.size_ext_le _ _ | (simp; omega)))) (HG2.out.mono (by repeat' (first | exact hwW | with_reducible exact World.Exts.refl _ | with_reducible refine World.Exts.alloc ?_ _ | with_reducible refine World.Exts.drew ?_ | with_reducible refine World.Exts.drewN ?_ _ | with_reducible refine World.Exts.ext ?_ _ | with_reducible refine World.Exts.setCell ?_ ?_ _ | (simp; done) | exact World.size_ext_le _ _ | (simp; omega)))) hn HRT.out h62 HSH2.out ad2).mono ?_; rw [← HB2.out]; rintro e w' ⟨vt, rfl, ht, ⟨X5, rfl⟩, -, htN⟩; obtain ⟨qb, cb, rfl⟩ := ht.len; have HTB := Lib.hid ht; have HTN := Lib.hid htN; clear ht htN)
            have hSB : LaysAs (World.ext _ X5) (V.ext X).heap.size (.cells [.int .i64 s.lo, .int .i64 s.hi].toArray 30 (0, 0)) := LaysAs.exts (LaysAs.new (V.ext X) (.cells #[.int .i64 s.lo, .int .i64 s.hi] 30)) (by repeat' (first | with_reducible exact World.Exts.refl _ | with_reducible refine World.Exts.alloc ?_ _ | with_reducible refine World.Exts.drew ?_ | with_reducible refine World.Exts.drewN ?_ _ | with_reducible refine World.Exts.ext ?_ _ | with_reducible refine World.Exts.setCell ?_ ?_ _ | (simp; done) | exact World.size_ext_le _ _ | (simp; omega)))
            have hNS := own_not_new HO.out
            have hNB := fun b (hb : (Value.slice qb B.length cb).ownBlock = some b) => (fun e => by
              have h1 := HTN.out b hb
              have h2 := (HO.out.lt b e).2
              simp at h1
              omega : Value.ownBlock _ ≠ some b)
            have HSB := Lib.hid hSB
            clear hSB
            have HNS := Lib.hid hNS
            clear hNS
            have HNB := Lib.hid hNB
            clear hNB
            go_loopw [12, 44] (fun out i wr => ∃ m : Nat, m ≤ B.length ∧ i = .int .i64 m ∧ Hid (wr.ownsRow V.heap.size 30 2 out (commonL (A.take k) B ++ commonOne s (B.take m)).length (spanCs (commonL (A.take k) B ++ commonOne s (B.take m)))) ∧ V.Exts wr ∧ Hid (LaysAs wr (V.ext X).heap.size (.cells [.int .i64 s.lo, .int .i64 s.hi].toArray 30 (0, 0))) ∧ Hid (out.ownBlock ≠ some (V.ext X).heap.size) ∧ Hid (IsRow (fun t : Kr.Span => [.int .i64 t.lo, .int .i64 t.hi]) 2 wr (.slice qb B.length cb) B) ∧ Hid (∀ b, (Value.slice qb B.length cb).ownBlock = some b → out.ownBlock ≠ some b)) (fun _ i _ => B.length - (intOf i).toNat)
            case atStart => exact ⟨0, Nat.zero_le _, rfl, Lib.hid (by simpa [commonOne] using ownsRow_exts HO.out (by repeat' (first | with_reducible exact World.Exts.refl _ | with_reducible refine World.Exts.alloc ?_ _ | with_reducible refine World.Exts.drew ?_ | with_reducible refine World.Exts.drewN ?_ _ | with_reducible refine World.Exts.ext ?_ _ | with_reducible refine World.Exts.setCell ?_ ?_ _ | (simp; done) | exact World.size_ext_le _ _ | (simp; omega)))), (by repeat' (first | with_reducible exact World.Exts.refl _ | with_reducible refine World.Exts.alloc ?_ _ | with_reducible refine World.Exts.drew ?_ | with_reducible refine World.Exts.drewN ?_ _ | with_reducible refine World.Exts.ext ?_ _ | with_reducible refine World.Exts.setCell ?_ ?_ _ | (simp; done) | exact World.size_ext_le _ _ | (simp; omega))), HSB, HNS, HTB, HNB⟩
            case round =>
              obtain ⟨m, hm, rfl, HO2, hE2, HL, HN9, HR9, HNB9⟩ := hrel
              obtain ⟨X6, rfl⟩ := hE2
              have e0 := LaysAs.cell (cs := [.int .i64 s.lo, .int .i64 s.hi]) HL.out 0 _ rfl
              have e1 := LaysAs.cell (cs := [.int .i64 s.lo, .int .i64 s.hi]) HL.out 1 _ rfl
              have hle := Lays.of_cell e0
              by_cases hlt2 : m < B.length
              · obtain ⟨pb, bb2, ob, cb2, eb, hmb, hpb, hcb⟩ := HR9.out.ex
                cases eb
                obtain ⟨rfl, hl2⟩ := hpb (by omega)
                obtain ⟨t, ht⟩ := some_of_lt hlt2
                have hct := hcb m t ht
                have d0 := hct 0 _ rfl
                have d1 := hct 1 _ rfl
                simp only [Nat.add_zero] at d0 d1
                have hnx : commonL (A.take k) B ++ commonOne s (B.take (m + 1)) = commonL (A.take k) B ++ commonOne s (B.take m) ++ (if max s.lo t.lo ≤ min s.hi t.hi then [⟨max s.lo t.lo, min s.hi t.hi⟩] else []) := by rw [take_snoc ht, commonOne_snoc, List.append_assoc]
                have hlm := HLK.out m
                generalize hL : commonL (A.take k) B ++ commonOne s (B.take m) = L at hnx hlm HO2
                clear ht hct hpb hcb hL
                rcases Int.lt_or_le (min s.hi t.hi) (max s.lo t.lo) with hc | hc
                · rw [if_neg (by omega), List.append_nil] at hnx
                  have HNX := Lib.hid hnx
                  clear hnx
                  have hdc : decide (max s.lo t.lo ≤ min s.hi t.hi) = false := by simp; omega
                  go_wp2_with fail
                  go_roundw
                  case rel => exact ⟨m + 1, by omega, by go_num, Lib.hid (by rw [HNX.out]; exact ownsRow_exts HO2.out (by repeat' (first | with_reducible exact World.Exts.refl _ | with_reducible refine World.Exts.alloc ?_ _ | with_reducible refine World.Exts.drew ?_ | with_reducible refine World.Exts.drewN ?_ _ | with_reducible refine World.Exts.ext ?_ _ | with_reducible refine World.Exts.setCell ?_ ?_ _ | (simp; done) | exact World.size_ext_le _ _ | (simp; omega)))), (by repeat' (first | with_reducible exact World.Exts.refl _ | with_reducible refine World.Exts.alloc ?_ _ | with_reducible refine World.Exts.drew ?_ | with_reducible refine World.Exts.drewN ?_ _ | with_reducible refine World.Exts.ext ?_ _ | with_reducible refine World.Exts.setCell ?_ ?_ _ | (simp; done) | exact World.size_ext_le _ _ | (simp; omega))), Lib.hid (HL.out.exts (by repeat' (first | with_reducible exact World.Exts.refl _ | with_reducible refine World.Exts.alloc ?_ _ | with_reducible refine World.Exts.drew ?_ | with_reducible refine World.Exts.drewN ?_ _ | with_reducible refine World.Exts.ext ?_ _ | with_reducible refine World.Exts.setCell ?_ ?_ _ | (simp; done) | exact World.size_ext_le _ _ | (simp; omega)))), HN9, Lib.hid (HR9.out.mono (by repeat' (first | with_reducible exact World.Exts.refl _ | with_reducible refine World.Exts.alloc ?_ _ | with_reducible refine World.Exts.drew ?_ | with_reducible refine World.Exts.drewN ?_ _ | with_reducible refine World.Exts.ext ?_ _ | with_reducible refine World.Exts.setCell ?_ ?_ _ | (simp; done) | exact World.size_ext_le _ _ | (simp; omega)))), HNB9⟩
                  case measure => simp [intOf]; omega
                · rw [if_pos hc] at hnx
                  have HNX := Lib.hid hnx
                  clear hnx
                  have hdc : decide (max s.lo t.lo ≤ min s.hi t.hi) = true := by simp; omega
                  go_wp2_with (at_builtin; refine wpList_append1W (.tmp 64) (.tmp 66) elem_Span rfl rfl rfl (ownsRow_exts HO2.out (by repeat' (first | with_reducible exact World.Exts.refl _ | with_reducible refine World.Exts.alloc ?_ _ | with_reducible refine World.Exts.drew ?_ | with_reducible refine World.Exts.drewN ?_ _ | with_reducible refine World.Exts.ext ?_ _ | with_reducible refine World.Exts.setCell ?_ ?_ _ | (simp; done) | exact World.size_ext_le _ _ | (simp; omega)))) [.int .i64 (max s.lo t.lo), .int .i64 (min s.hi t.hi)] _ (by simp) rfl rfl ?h1 ?h2 ?h4 ?h3 ?_)
                  case h1 => exact one_Span ⟨max s.lo t.lo, min s.hi t.hi⟩
                  case h2 => omega
                  case h4 => decide
                  case h3 => exact World.Exts.size (by repeat' (first | with_reducible exact World.Exts.refl _ | with_reducible refine World.Exts.alloc ?_ _ | with_reducible refine World.Exts.drew ?_ | with_reducible refine World.Exts.drewN ?_ _ | with_reducible refine World.Exts.ext ?_ _ | with_reducible refine World.Exts.setCell ?_ ?_ _ | (simp; done) | exact World.size_ext_le _ _ | (simp; omega)))
                  intro v' w' hown' happ
                  have hE9 := happ.exts V (by repeat' (first | with_reducible exact World.Exts.refl _ | with_reducible refine World.Exts.alloc ?_ _ | with_reducible refine World.Exts.drew ?_ | with_reducible refine World.Exts.drewN ?_ _ | with_reducible refine World.Exts.ext ?_ _ | with_reducible refine World.Exts.setCell ?_ ?_ _ | (simp; done) | exact World.size_ext_le _ _ | (simp; omega))) (Nat.le_refl _)
                  have hL2 := (HL.out.exts (by repeat' (first | with_reducible exact World.Exts.refl _ | with_reducible refine World.Exts.alloc ?_ _ | with_reducible refine World.Exts.drew ?_ | with_reducible refine World.Exts.drewN ?_ _ | with_reducible refine World.Exts.ext ?_ _ | with_reducible refine World.Exts.setCell ?_ ?_ _ | (simp; done) | exact World.size_ext_le _ _ | (simp; omega)))).appended happ HN9.out
                  have hR2 := row_appended (HR9.out.mono (by repeat' (first | with_reducible exact World.Exts.refl _ | with_reducible refine World.Exts.alloc ?_ _ | with_reducible refine World.Exts.drew ?_ | with_reducible refine World.Exts.drewN ?_ _ | with_reducible refine World.Exts.ext ?_ _ | with_reducible refine World.Exts.setCell ?_ ?_ _ | (simp; done) | exact World.size_ext_le _ _ | (simp; omega)))) happ HNB9.out
                  have hB2 := fun b hb => happ.beside b (own_lt (HR9.out.mono (by repeat' (first | with_reducible exact World.Exts.refl _ | with_reducible refine World.Exts.alloc ?_ _ | with_reducible refine World.Exts.drew ?_ | with_reducible refine World.Exts.drewN ?_ _ | with_reducible refine World.Exts.ext ?_ _ | with_reducible refine World.Exts.setCell ?_ ?_ _ | (simp; done) | exact World.size_ext_le _ _ | (simp; omega)))) (by omega) hb) (HNB9.out b hb)
                  have HO3 := Lib.hid hown'
                  clear hown'
                  have HE9 := Lib.hid hE9
                  clear hE9
                  have HL2 := Lib.hid hL2
                  clear hL2
                  have HR2 := Lib.hid hR2
                  clear hR2
                  have HB9 := Lib.hid hB2
                  clear hB2
                  clear happ
                  go_wp2_with fail
                  go_roundw
                  case rel => exact ⟨m + 1, by omega, by go_num, Lib.hid (by rw [HNX.out, spanCs_snoc, List.length_append]; exact HO3.out), HE9.out, Lib.hid HL2.out.1, Lib.hid HL2.out.2, HR2, HB9⟩
                  case measure => simp [intOf]; omega
              · have hmb : m = B.length := by omega
                have hO := HO2.out
                rw [hmb, List.take_length, ← HNK.out] at hO
                have HO3 := Lib.hid hO
                clear hO
                clear hmb
                go_wp2_with fail
                go_roundw
                case rel => exact ⟨k + 1, by omega, by go_num, Lib.hid HO3.out, (by repeat' (first | with_reducible exact World.Exts.refl _ | with_reducible refine World.Exts.alloc ?_ _ | with_reducible refine World.Exts.drew ?_ | with_reducible refine World.Exts.drewN ?_ _ | with_reducible refine World.Exts.ext ?_ _ | with_reducible refine World.Exts.setCell ?_ ?_ _ | (simp; done) | exact World.size_ext_le _ _ | (simp; omega)))⟩
                case measure => simp [intOf]; omega
          · have hka : k = A.length := by omega
            have hO := HO.out
            rw [hka, List.take_length] at hO
            have hrw := row_spans hO
            obtain ⟨qo, co, eo⟩ := hrw.len
            subst eo
            have HRW := Lib.hid hrw
            clear hrw
            clear hka HO hO
            go_wp2_with (go_at_call 38; refine (scale_known_any (commonL A B) n.total _ _ (HRW.out.mono (World.Exts.refl _)) HCF.out).mono ?_; rintro e w' ⟨rfl, X9, rfl⟩)
            go_ret2
            exact ⟨rfl, (by repeat' (first | exact hwW | with_reducible exact World.Exts.refl _ | with_reducible refine World.Exts.alloc ?_ _ | with_reducible refine World.Exts.drew ?_ | with_reducible refine World.Exts.drewN ?_ _ | with_reducible refine World.Exts.ext ?_ _ | with_reducible refine World.Exts.setCell ?_ ?_ _ | (simp; done) | exact World.size_ext_le _ _ | (simp; omega)))⟩
    · rw [again_later hz hz2]
      have hc := check_three (ts.map Prod.fst) g2
      rcases hc with hc | hc | hc
      · exact absurd hc hz2
      all_goals
        rw [hc] at he ⊢
        have HE := Lib.hid he
        clear he
        clear hc hz2 hz hga hrt
        go_enter Tryz.func11, Tryz.ntmps11
        go_wp2_with (go_at_call 28; refine (scale_asked_any ts _ [(g, _, _, _), (g2, _, _, _)] _ _ (HB.out.mono (by repeat' (first | with_reducible exact World.Exts.refl _ | with_reducible refine World.Exts.alloc ?_ _ | with_reducible refine World.Exts.drew ?_ | with_reducible refine World.Exts.drewN ?_ _ | with_reducible refine World.Exts.ext ?_ _ | with_reducible refine World.Exts.setCell ?_ ?_ _ | (simp; done) | exact World.size_ext_le _ _ | (simp; omega)))) (row_gear2 _ (g, _, _, _) (g2, _, _, _) _ (by simp)) (gears2 (HG.out.mono (by repeat' (first | with_reducible exact World.Exts.refl _ | with_reducible refine World.Exts.alloc ?_ _ | with_reducible refine World.Exts.drew ?_ | with_reducible refine World.Exts.drewN ?_ _ | with_reducible refine World.Exts.ext ?_ _ | with_reducible refine World.Exts.setCell ?_ ?_ _ | (simp; done) | exact World.size_ext_le _ _ | (simp; omega)))) (HG2.out.mono (by repeat' (first | with_reducible exact World.Exts.refl _ | with_reducible refine World.Exts.alloc ?_ _ | with_reducible refine World.Exts.drew ?_ | with_reducible refine World.Exts.drewN ?_ _ | with_reducible refine World.Exts.ext ?_ _ | with_reducible refine World.Exts.setCell ?_ ?_ _ | (simp; done) | exact World.size_ext_le _ _ | (simp; omega)))))).mono ?_; rintro e w' ⟨pp, rfl, -, X2, rfl⟩; rw [HE.out])
        go_ret2
        exact ⟨rfl, (by repeat' (first | with_reducible exact World.Exts.refl _ | with_reducible refine World.Exts.alloc ?_ _ | with_reducible refine World.Exts.drew ?_ | with_reducible refine World.Exts.drewN ?_ _ | with_reducible refine World.Exts.ext ?_ _ | with_reducible refine World.Exts.setCell ?_ ?_ _ | (simp; done) | exact World.size_ext_le _ _ | (simp; omega)))⟩
  · rw [again_first hz]
    rw [if_pos hz] at he
    have hc := check_three (ts.map Prod.fst) g
    rcases hc with hc | hc | hc
    · exact absurd hc hz
    all_goals
      rw [hc] at he ⊢
      have HE := Lib.hid he
      clear he
      clear hc hz
      go_enter Tryz.func11, Tryz.ntmps11
      go_wp2_with (go_at_call 28; refine (scale_asked_any ts _ [(g, _, _, _), (g2, _, _, _)] _ _ (HB.out.mono (by repeat' (first | with_reducible exact World.Exts.refl _ | with_reducible refine World.Exts.alloc ?_ _ | with_reducible refine World.Exts.drew ?_ | with_reducible refine World.Exts.drewN ?_ _ | with_reducible refine World.Exts.ext ?_ _ | with_reducible refine World.Exts.setCell ?_ ?_ _ | (simp; done) | exact World.size_ext_le _ _ | (simp; omega)))) (row_gear2 _ (g, _, _, _) (g2, _, _, _) _ (by simp)) (gears2 (HG.out.mono (by repeat' (first | with_reducible exact World.Exts.refl _ | with_reducible refine World.Exts.alloc ?_ _ | with_reducible refine World.Exts.drew ?_ | with_reducible refine World.Exts.drewN ?_ _ | with_reducible refine World.Exts.ext ?_ _ | with_reducible refine World.Exts.setCell ?_ ?_ _ | (simp; done) | exact World.size_ext_le _ _ | (simp; omega)))) (HG2.out.mono (by repeat' (first | with_reducible exact World.Exts.refl _ | with_reducible refine World.Exts.alloc ?_ _ | with_reducible refine World.Exts.drew ?_ | with_reducible refine World.Exts.drewN ?_ _ | with_reducible refine World.Exts.ext ?_ _ | with_reducible refine World.Exts.setCell ?_ ?_ _ | (simp; done) | exact World.size_ext_le _ _ | (simp; omega)))))).mono ?_; rintro e w' ⟨pp, rfl, -, X2, rfl⟩; rw [HE.out])
      go_ret2
      exact ⟨rfl, (by repeat' (first | with_reducible exact World.Exts.refl _ | with_reducible refine World.Exts.alloc ?_ _ | with_reducible refine World.Exts.drew ?_ | with_reducible refine World.Exts.drewN ?_ _ | with_reducible refine World.Exts.ext ?_ _ | with_reducible refine World.Exts.setCell ?_ ?_ _ | (simp; done) | exact World.size_ext_le _ _ | (simp; omega)))⟩
end Go.Proofs.YtomcenfikdmmkaaGreatDoor
