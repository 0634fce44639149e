/-
  Several texts in one: see the heads of its parts.
-/
import Derived.Test.YtfjkiemjmnnbkaaDoorJd
import Derived.Test.YtfjkiemjmnnbkaaDoorJe
import Derived.Maps.OwnSet

/-
  Walks of the reference: which pieces are added.
-/
namespace Go.Proofs.YtfjkiemjmnnbkaaDoor
open Go.RowKit Kr
set_option linter.unusedSimpArgs false

theorem check_added0 {b : List Scale} {g : Gear} (h : check b g = 0) : check b { g with added := 0 } = 0 := by
  obtain ⟨h1, h2⟩ := check_zero h
  have h3 : gearOk b { g with added := 0 } = true := by
    unfold gearOk bare at h2 ⊢
    simp [inb] at h2 ⊢
    obtain ⟨⟨h4, h5⟩, h6⟩ := h2
    exact ⟨⟨h4, h5⟩, by simp_all⟩
  unfold check
  rw [h1, h3]
  rfl
theorem ballast_err {b : List Scale} {g : Gear} {n : Norm} {pieces : List Int} (h : check b g ≠ 0) : ballastR b g n pieces = ([], check b g) := by unfold ballastR; rw [if_pos h]
theorem ballast_norm {b : List Scale} {g : Gear} {n : Norm} {pieces : List Int} (h : check b g = 0) (h1 : normB n = false) : ballastR b g n pieces = ([], 42) := by unfold ballastR; rw [if_neg (by simp [h]), if_pos h1]
theorem ballast_arg {b : List Scale} {g : Gear} {n : Norm} {pieces : List Int} (h : check b g = 0) (h1 : normB n = true) (h2 : (inAll 0 1000000 pieces && decide (pieces.length ≤ 8)) = false) : ballastR b g n pieces = ([], 2) := by unfold ballastR; rw [if_neg (by simp [h]), if_neg (by simp [h1]), if_pos h2]
theorem ballast_none {b : List Scale} {g : Gear} {n : Norm} {pieces : List Int} (h : check b g = 0) (h1 : normB n = true) (h2 : (inAll 0 1000000 pieces && decide (pieces.length ≤ 8)) = true) (h3 : totals b { g with added := 0 } = []) : ballastR b g n pieces = ([], 6) := by unfold ballastR; rw [if_neg (by simp [h]), if_neg (by simp [h1]), if_neg (by simp [h2]), if_pos h3]
def outC : Option Choice → List Nat × Int
  | none => ([], 8)
  | some c => (c.pieces, 0)
theorem ballast_all {b : List Scale} {g : Gear} {n : Norm} {pieces : List Int} (h : check b g = 0) (h1 : normB n = true) (h2 : (inAll 0 1000000 pieces && decide (pieces.length ≤ 8)) = true) (h3 : totals b { g with added := 0 } ≠ []) : ballastR b g n pieces = outC (bestOf n (totals b { g with added := 0 }) pieces (2 ^ pieces.length)) := by
  unfold ballastR
  rw [if_neg (by simp [h]), if_neg (by simp [h1]), if_neg (by simp [h2]), if_neg h3]
  cases bestOf n (totals b { g with added := 0 }) pieces (2 ^ pieces.length) <;> rfl
theorem norm_bounds {n : Norm} (h : normB n = true) : (0 ≤ n.total.lo ∧ n.total.lo ≤ n.total.hi ∧ n.total.hi ≤ 10000000) ∧ 0 ≤ n.added ∧ n.added ≤ 1000000 := by
  unfold normB ordered inb at h
  simp at h
  omega

theorem wrap_pow : ∀ l : Fin 9, wrap64 ((2 : Int) ^ l.1) = ((2 ^ l.1 : Nat) : Int) := by decide +kernel
/-- The best choice of the first sets: its pieces, and what it weighs. -/
def BestIs (n : Norm) (T : List Span) (pieces : List Int) (k : Nat) (P : List Nat) (W : Int) : Prop :=
  (bestOf n T pieces k = none ∧ P = [] ∧ W = -1) ∨ (∃ c, bestOf n T pieces k = some c ∧ P = c.pieces ∧ W = c.weight ∧ 0 ≤ c.weight)

end Go.Proofs.YtfjkiemjmnnbkaaDoor

/-
  Walks of package scale: what is known of a total that was weighed twice.
-/
namespace Go.Proofs.YtfjkiemjmnnbkaaDoor
open Go.RowKit Kr
set_option linter.unusedSimpArgs false

theorem row_appended {α : Type} {enc : α → List Value} {k base : Nat} {W w' : World} {v out out' : Value} {xs : List α} (h : IsRow enc k W v xs) (ha : AppendedW W w' out out' base) (hne : ∀ b, v.ownBlock = some b → out.ownBlock ≠ some b) : IsRow enc k w' v xs := by
  obtain ⟨p, b, o, cap, rfl, hm, hp, hc⟩ := h.ex
  refine ⟨p, b, o, cap, rfl, hm, fun h0 => ⟨(hp h0).1, ⟨Nat.lt_of_lt_of_le (hp h0).2.lt ha.size⟩⟩, fun i x hx j u hu => ?_⟩
  have h0 : 0 < xs.length := by have := (List.getElem?_eq_some_iff.1 hx).1; omega
  obtain ⟨rfl, hl⟩ := hp h0
  have hb := ha.block b hl.lt (fun e => hne b rfl e.symm)
  have h1 := hc i x hx j u hu
  unfold World.cell? at h1 ⊢
  rw [hb]
  exact h1
theorem own_lt {α : Type} {enc : α → List Value} {k : Nat} {W : World} {v : Value} {xs : List α} (h : IsRow enc k W v xs) (h0 : 0 < xs.length) {b : Nat} (hb : v.ownBlock = some b) : b < W.heap.size := by
  obtain ⟨p, b', o, cap, rfl, hm, hp, hc⟩ := h.ex
  obtain ⟨rfl, hl⟩ := hp h0
  simp [Value.ownBlock] at hb
  subst hb
  exact hl.lt

theorem gears2 {w : World} {x y : GearV} (hx : GearAt w x) (hy : GearAt w y) : ∀ z ∈ [x, y], GearAt w z := fun z hz => by
  simp only [List.mem_cons, List.not_mem_nil, or_false] at hz
  rcases hz with rfl | rfl
  · exact hx
  · exact hy

set_option maxRecDepth 4000 in
set_option maxHeartbeats 4000000 in
theorem scale_Again_any (ts : List (Kr.Scale × Value)) (v : Value) (g : Gear) (lv rv sv : Value) (g2 : Gear) (lv2 rv2 sv2 : Value) (n : Norm) (w : World) (hb : BayAt w v ts) (hg : GearAt w (g, lv, rv, sv)) (hg2 : GearAt w (g2, lv2, rv2, sv2)) :
    Calls Tryd.prog 19 #[.agg #[v], .agg #[lv, .int .i64 g.added, .int .i64 g.base, .int .i64 g.jitter, rv, sv, .int .i64 g.spread, .bool g.stamp], .agg #[lv2, .int .i64 g2.added, .int .i64 g2.base, .int .i64 g2.jitter, rv2, sv2, .int .i64 g2.spread, .bool g2.stamp], .agg #[.int .i64 n.total.lo, .int .i64 n.total.hi, .int .i64 n.added, .int .i64 n.warm, .int .i64 n.hard.lo, .int .i64 n.hard.hi, .bool n.stamp]] w fun e w' => e = .returned (.tuple #[.int .u8 (againR (ts.map Prod.fst) g g2 n).1, .int .i64 (againR (ts.map Prod.fst) g g2 n).2]) ∧ w.Exts w' := by
  have he : askErr ts [(g, lv, rv, sv), (g2, lv2, rv2, sv2)] = if check (ts.map Prod.fst) g ≠ 0 then check (ts.map Prod.fst) g else check (ts.map Prod.fst) g2 := by
    rw [← again_ask]
    unfold askErr
    simp
  obtain ⟨p, cap, hv⟩ := hb.row.len
  subst hv
  have hl1 := hg.l
  have hl2 := hg.r
  have hl3 := hg.s
  dsimp only at hl1 hl2 hl3
  obtain ⟨p1, cap1, rfl⟩ := hl1.len
  obtain ⟨p2, cap2, rfl⟩ := hl2.len
  obtain ⟨p3, cap3, rfl⟩ := hl3.len
  have HG := Lib.hid hg
  clear hg
  obtain ⟨p4, cap4, rfl⟩ : ∃ p c, lv2 = .slice p g2.loads.length c := hg2.l.len
  obtain ⟨p5, cap5, rfl⟩ : ∃ p c, rv2 = .slice p g2.runners.length c := hg2.r.len
  obtain ⟨p6, cap6, rfl⟩ : ∃ p c, sv2 = .slice p g2.strokes.length c := hg2.s.len
  have HG2 := Lib.hid hg2
  clear hg2
  have HB := Lib.hid hb
  clear hb
  clear hl1 hl2 hl3
  by_cases hz : check (ts.map Prod.fst) g = 0
  · obtain ⟨hga, hn, hrt⟩ := gearAsk hz
    rw [if_neg (by simp [hz])] at he
    by_cases hz2 : check (ts.map Prod.fst) g2 = 0
    · obtain ⟨hga2, -, -⟩ := gearAsk hz2
      rw [hz2] at he
      cases hnb : normB n
      · rw [again_norm hz hz2 hnb]
        have HN := Lib.hid hnb
        clear hnb
        have HE := Lib.hid he
        clear he
        clear hga hga2 hrt hz hz2
        go_enter Tryd.func19, Tryd.ntmps19
        go_wp2_with (first
          | (go_at_call 29; refine (scale_asked_any ts _ [(g, _, _, _), (g2, _, _, _)] _ _ (HB.out.mono exq) (row_gear2 _ (g, _, _, _) (g2, _, _, _) _ (by simp)) (gears2 (HG.out.mono exq) (HG2.out.mono exq))).mono ?_; rintro e w' ⟨pp, rfl, hy, X2, rfl⟩; obtain ⟨_, bb, rfl, hh⟩ := hy HE.out; rw [HE.out]; have HH := Lib.hid hh; clear hh hy)
          | (go_at_call 31; refine (scale_normal_any n _).mono ?_; rintro e w' ⟨rfl, X3, rfl⟩; rw [HN.out])
          | (go_at_call 30; refine (hall_totals_own ts _ g _ _ _ _ _ (HH.out.mono exq) (HG.out.mono exq) hn HRT.out h61 HSH1.out ad1).mono ?_; rw [← HA.out]; rintro e w' ⟨vt, rfl, ht, ⟨X4, rfl⟩, -, -⟩; obtain ⟨qt, ct, rfl⟩ := ht.len; have HT := Lib.hid ht; clear ht))
        go_ret2
        exact ⟨rfl, exq⟩
      obtain ⟨h61, sh1, ad1, neat1, win1, _⟩ := hga
      obtain ⟨h62, sh2, ad2, neat2, _, _⟩ := hga2
      have hfin : ∀ M, M = commonL (totals (ts.map Prod.fst) g) (totals (ts.map Prod.fst) g2) → againR (ts.map Prod.fst) g g2 n = if M.length = 0 then (0, 6) else (knownR M n.total, 0) := fun M hM => by
        subst hM
        by_cases h : commonL (totals (ts.map Prod.fst) g) (totals (ts.map Prod.fst) g2) = []
        · rw [again_none hz hz2 hnb h, if_pos (by rw [h]; rfl)]
        · rw [again_all hz hz2 hnb h, if_neg (fun e => h (List.eq_nil_of_length_eq_zero e))]
      rw [hfin _ rfl]
      clear hfin hz hz2
      have hcf := common_full (totals (ts.map Prod.fst) g) (totals (ts.map Prod.fst) g2)
      have htf : ∀ k s m, (totals (ts.map Prod.fst) g)[k]? = some s → (commonL ((totals (ts.map Prod.fst) g).take k) (totals (ts.map Prod.fst) g2) ++ commonOne s ((totals (ts.map Prod.fst) g2).take m)).length ≤ 1000000000000 := fun k s m h => common_take_few neat1 neat2 win1 h m
      obtain ⟨A, hA⟩ : ∃ A, A = totals (ts.map Prod.fst) g := ⟨_, rfl⟩
      obtain ⟨B, hB⟩ : ∃ B, B = totals (ts.map Prod.fst) g2 := ⟨_, rfl⟩
      rw [← hA, ← hB] at hcf htf
      rw [← hA, ← hB]
      have HRT := Lib.hid hrt
      clear hrt
      have HSH1 := Lib.hid sh1
      clear sh1
      have HSH2 := Lib.hid sh2
      clear sh2
      have HN := Lib.hid hnb
      clear hnb
      have HE := Lib.hid he
      clear he
      have HA := Lib.hid hA
      clear hA
      have HB2 := Lib.hid hB
      clear hB
      have HCF := Lib.hid hcf
      clear hcf
      have HTF := Lib.hid htf
      clear htf
      clear neat1 neat2 win1
      rcases Nat.eq_zero_or_pos (commonL A B).length with h0 | h0
      · rw [if_pos h0]
        have h0' : (commonL A B).length ≤ 0 := by omega
        clear h0
        go_enter Tryd.func19, Tryd.ntmps19
        go_wp2_with (first
          | (go_at_call 29; refine (scale_asked_any ts _ [(g, _, _, _), (g2, _, _, _)] _ _ (HB.out.mono exq) (row_gear2 _ (g, _, _, _) (g2, _, _, _) _ (by simp)) (gears2 (HG.out.mono exq) (HG2.out.mono exq))).mono ?_; rintro e w' ⟨pp, rfl, hy, X2, rfl⟩; obtain ⟨_, bb, rfl, hh⟩ := hy HE.out; rw [HE.out]; have HH := Lib.hid hh; clear hh hy)
          | (go_at_call 31; refine (scale_normal_any n _).mono ?_; rintro e w' ⟨rfl, X3, rfl⟩; rw [HN.out])
          | (go_at_call 30; refine (hall_totals_own ts _ g _ _ _ _ _ (HH.out.mono exq) (HG.out.mono exq) hn HRT.out h61 HSH1.out ad1).mono ?_; rw [← HA.out]; rintro e w' ⟨vt, rfl, ht, ⟨X4, rfl⟩, -, -⟩; obtain ⟨qt, ct, rfl⟩ := ht.len; have HT := Lib.hid ht; clear ht))
        have hwW : w.Exts (World.ext _ X4) := exq
        have hHV : HallAt Tryd.prog 3 (World.ext _ X4) bb (.slice p ts.length cap) ts := HH.out.mono exq
        have hTV : IsRow (fun t : Kr.Span => [.int .i64 t.lo, .int .i64 t.hi]) 2 (World.ext _ X4) (.slice qt A.length ct) A := HT.out
        have b60 : (World.ext _ X4).cell? ⟨w.heap.size + 1 + 1, 0, none⟩ = some (.slice p4 g2.loads.length cap4) := by simp [go_sem]
        have b61 : (World.ext _ X4).cell? ⟨w.heap.size + 1 + 1, 1, none⟩ = some (.int .i64 g2.added) := by simp [go_sem]
        have b62 : (World.ext _ X4).cell? ⟨w.heap.size + 1 + 1, 2, none⟩ = some (.int .i64 g2.base) := by simp [go_sem]
        have b63 : (World.ext _ X4).cell? ⟨w.heap.size + 1 + 1, 3, none⟩ = some (.int .i64 g2.jitter) := by simp [go_sem]
        have b64 : (World.ext _ X4).cell? ⟨w.heap.size + 1 + 1, 4, none⟩ = some (.slice p5 g2.runners.length cap5) := by simp [go_sem]
        have b65 : (World.ext _ X4).cell? ⟨w.heap.size + 1 + 1, 5, none⟩ = some (.slice p6 g2.strokes.length cap6) := by simp [go_sem]
        have b66 : (World.ext _ X4).cell? ⟨w.heap.size + 1 + 1, 6, none⟩ = some (.int .i64 g2.spread) := by simp [go_sem]
        have b67 : (World.ext _ X4).cell? ⟨w.heap.size + 1 + 1, 7, none⟩ = some (.bool g2.stamp) := by simp [go_sem]
        have b70 : (World.ext _ X4).cell? ⟨w.heap.size + 1 + 1 + 1, 0, none⟩ = some (.int .i64 n.total.lo) := by simp [go_sem]
        have b71 : (World.ext _ X4).cell? ⟨w.heap.size + 1 + 1 + 1, 1, none⟩ = some (.int .i64 n.total.hi) := by simp [go_sem]
        clear HH HT
        generalize World.ext _ X4 = V at *
        have n6 := Lays.of_cell b60
        have n7 := Lays.of_cell b70
        obtain ⟨pa, ba, oa, ca, ea, hma, hpa, hca⟩ := hTV.ex
        cases ea
        have HHV := Lib.hid hHV
        clear hHV
        have HPA := Lib.hid hpa
        clear hpa
        have HCA := Lib.hid hca
        clear hca
        clear hTV
        go_loopw [12, 36] (fun out i wr => ∃ k : Nat, k ≤ A.length ∧ i = .int .i64 k ∧ Hid (wr.ownsRow V.heap.size 25 2 out (commonL (A.take k) B).length (spanCs (commonL (A.take k) B))) ∧ V.Exts wr) (fun _ i _ => A.length - (intOf i).toNat)
        case atStart => exact ⟨0, Nat.zero_le _, rfl, Lib.hid (World.ownsRow_nil _ _ _ _), World.Exts.refl _⟩
        case round =>
          obtain ⟨k, hk, rfl, HO, hE⟩ := hrel
          obtain ⟨X, rfl⟩ := hE
          by_cases hlt : k < A.length
          · obtain ⟨rfl, hl1⟩ := HPA.out (by omega)
            obtain ⟨s, hs⟩ := some_of_lt hlt
            have hcs := HCA.out k s hs
            have c0 := hcs 0 _ rfl
            have c1 := hcs 1 _ rfl
            simp only [Nat.add_zero] at c0 c1
            have hnk : commonL (A.take (k + 1)) B = commonL (A.take k) B ++ commonOne s B := by rw [take_snoc hs, commonL_snoc]
            have hlk := fun m => HTF.out k s m hs
            have HNK := Lib.hid hnk
            clear hnk
            have HLK := Lib.hid hlk
            clear hlk
            clear hs hcs HPA
            go_wp2_with (go_at_call 30; refine (hall_totals_own ts _ g2 _ _ _ _ _ (HHV.out.mono exq) (HG2.out.mono (exf hwW)) hn HRT.out h62 HSH2.out ad2).mono ?_; rw [← HB2.out]; rintro e w' ⟨vt, rfl, ht, ⟨X5, rfl⟩, -, htN⟩; obtain ⟨qb, cb, rfl⟩ := ht.len; have HTB := Lib.hid ht; have HTN := Lib.hid htN; clear ht htN)
            have hSB : LaysAs (World.ext _ X5) (V.ext X).heap.size (.cells [.int .i64 s.lo, .int .i64 s.hi].toArray 25 (0, 0)) := LaysAs.exts (LaysAs.new (V.ext X) (.cells #[.int .i64 s.lo, .int .i64 s.hi] 25)) exq
            have hNS := own_not_new HO.out
            have hNB := fun b (hb : (Value.slice qb B.length cb).ownBlock = some b) => (fun e => by
              have h1 := HTN.out b hb
              have h2 := (HO.out.lt b e).2
              simp at h1
              omega : Value.ownBlock _ ≠ some b)
            have HSB := Lib.hid hSB
            clear hSB
            have HNS := Lib.hid hNS
            clear hNS
            have HNB := Lib.hid hNB
            clear hNB
            go_loopw [12, 44] (fun out i wr => ∃ m : Nat, m ≤ B.length ∧ i = .int .i64 m ∧ Hid (wr.ownsRow V.heap.size 25 2 out (commonL (A.take k) B ++ commonOne s (B.take m)).length (spanCs (commonL (A.take k) B ++ commonOne s (B.take m)))) ∧ V.Exts wr ∧ Hid (LaysAs wr (V.ext X).heap.size (.cells [.int .i64 s.lo, .int .i64 s.hi].toArray 25 (0, 0))) ∧ Hid (out.ownBlock ≠ some (V.ext X).heap.size) ∧ Hid (IsRow (fun t : Kr.Span => [.int .i64 t.lo, .int .i64 t.hi]) 2 wr (.slice qb B.length cb) B) ∧ Hid (∀ b, (Value.slice qb B.length cb).ownBlock = some b → out.ownBlock ≠ some b)) (fun _ i _ => B.length - (intOf i).toNat)
            case atStart => exact ⟨0, Nat.zero_le _, rfl, Lib.hid (by simpa [commonOne] using ownsRow_exts HO.out exq), exq, HSB, HNS, HTB, HNB⟩
            case round =>
              obtain ⟨m, hm, rfl, HO2, hE2, HL, HN9, HR9, HNB9⟩ := hrel
              obtain ⟨X6, rfl⟩ := hE2
              have e0 := LaysAs.cell (cs := [.int .i64 s.lo, .int .i64 s.hi]) HL.out 0 _ rfl
              have e1 := LaysAs.cell (cs := [.int .i64 s.lo, .int .i64 s.hi]) HL.out 1 _ rfl
              have hle := Lays.of_cell e0
              by_cases hlt2 : m < B.length
              · obtain ⟨pb, bb2, ob, cb2, eb, hmb, hpb, hcb⟩ := HR9.out.ex
                cases eb
                obtain ⟨rfl, hl2⟩ := hpb (by omega)
                obtain ⟨t, ht⟩ := some_of_lt hlt2
                have hct := hcb m t ht
                have d0 := hct 0 _ rfl
                have d1 := hct 1 _ rfl
                simp only [Nat.add_zero] at d0 d1
                have hnx : commonL (A.take k) B ++ commonOne s (B.take (m + 1)) = commonL (A.take k) B ++ commonOne s (B.take m) ++ (if max s.lo t.lo ≤ min s.hi t.hi then [⟨max s.lo t.lo, min s.hi t.hi⟩] else []) := by rw [take_snoc ht, commonOne_snoc, List.append_assoc]
                have hlm := HLK.out m
                generalize hL : commonL (A.take k) B ++ commonOne s (B.take m) = L at hnx hlm HO2
                clear ht hct hpb hcb hL
                rcases Int.lt_or_le (min s.hi t.hi) (max s.lo t.lo) with hc | hc
                · rw [if_neg (by omega), List.append_nil] at hnx
                  have HNX := Lib.hid hnx
                  clear hnx
                  have hdc : decide (max s.lo t.lo ≤ min s.hi t.hi) = false := by simp; omega
                  go_wp2_with fail
                  go_roundw
                  case rel => exact ⟨m + 1, by omega, by go_num, Lib.hid (by rw [HNX.out]; exact ownsRow_exts HO2.out exq), exq, Lib.hid (HL.out.exts exq), HN9, Lib.hid (HR9.out.mono exq), HNB9⟩
                  case measure => simp [intOf]; omega
                · rw [if_pos hc] at hnx
                  have HNX := Lib.hid hnx
                  clear hnx
                  have hdc : decide (max s.lo t.lo ≤ min s.hi t.hi) = true := by simp; omega
                  go_wp2_with (at_builtin; refine wpList_append1W (.tmp 64) (.tmp 66) elem_Span rfl rfl rfl (ownsRow_exts HO2.out exq) [.int .i64 (max s.lo t.lo), .int .i64 (min s.hi t.hi)] _ (by simp) rfl rfl ?h1 ?h2 ?h4 ?h3 ?_)
                  case h1 => exact one_Span ⟨max s.lo t.lo, min s.hi t.hi⟩
                  case h2 => omega
                  case h4 => decide
                  case h3 => exact World.Exts.size exq
                  intro v' w' hown' happ
                  have hE9 := happ.exts V exq (Nat.le_refl _)
                  have hL2 := (HL.out.exts exq).appended happ HN9.out
                  have hR2 := row_appended (HR9.out.mono exq) happ HNB9.out
                  have hB2 := fun b hb => happ.beside b (own_lt (HR9.out.mono exq) (by omega) hb) (HNB9.out b hb)
                  have HO3 := Lib.hid hown'
                  clear hown'
                  have HE9 := Lib.hid hE9
                  clear hE9
                  have HL2 := Lib.hid hL2
                  clear hL2
                  have HR2 := Lib.hid hR2
                  clear hR2
                  have HB9 := Lib.hid hB2
                  clear hB2
                  clear happ
                  go_wp2_with fail
                  go_roundw
                  case rel => exact ⟨m + 1, by omega, by go_num, Lib.hid (by rw [HNX.out, spanCs_snoc, List.length_append]; exact HO3.out), HE9.out, Lib.hid HL2.out.1, Lib.hid HL2.out.2, HR2, HB9⟩
                  case measure => simp [intOf]; omega
              · have hmb : m = B.length := by omega
                have hO := HO2.out
                rw [hmb, List.take_length, ← HNK.out] at hO
                have HO3 := Lib.hid hO
                clear hO
                clear hmb
                go_wp2_with fail
                go_roundw
                case rel => exact ⟨k + 1, by omega, by go_num, Lib.hid HO3.out, exq⟩
                case measure => simp [intOf]; omega
          · have hka : k = A.length := by omega
            have hO := HO.out
            rw [hka, List.take_length] at hO
            have hrw := row_spans hO
            obtain ⟨qo, co, eo⟩ := hrw.len
            subst eo
            have HRW := Lib.hid hrw
            clear hrw
            clear hka HO hO
            go_wp2_with fail
            go_ret2
            exact ⟨rfl, (exf hwW)⟩
      · rw [if_neg (by omega)]
        go_enter Tryd.func19, Tryd.ntmps19
        go_wp2_with (first
          | (go_at_call 29; refine (scale_asked_any ts _ [(g, _, _, _), (g2, _, _, _)] _ _ (HB.out.mono exq) (row_gear2 _ (g, _, _, _) (g2, _, _, _) _ (by simp)) (gears2 (HG.out.mono exq) (HG2.out.mono exq))).mono ?_; rintro e w' ⟨pp, rfl, hy, X2, rfl⟩; obtain ⟨_, bb, rfl, hh⟩ := hy HE.out; rw [HE.out]; have HH := Lib.hid hh; clear hh hy)
          | (go_at_call 31; refine (scale_normal_any n _).mono ?_; rintro e w' ⟨rfl, X3, rfl⟩; rw [HN.out])
          | (go_at_call 30; refine (hall_totals_own ts _ g _ _ _ _ _ (HH.out.mono exq) (HG.out.mono exq) hn HRT.out h61 HSH1.out ad1).mono ?_; rw [← HA.out]; rintro e w' ⟨vt, rfl, ht, ⟨X4, rfl⟩, -, -⟩; obtain ⟨qt, ct, rfl⟩ := ht.len; have HT := Lib.hid ht; clear ht))
        have hwW : w.Exts (World.ext _ X4) := exq
        have hHV : HallAt Tryd.prog 3 (World.ext _ X4) bb (.slice p ts.length cap) ts := HH.out.mono exq
        have hTV : IsRow (fun t : Kr.Span => [.int .i64 t.lo, .int .i64 t.hi]) 2 (World.ext _ X4) (.slice qt A.length ct) A := HT.out
        have b60 : (World.ext _ X4).cell? ⟨w.heap.size + 1 + 1, 0, none⟩ = some (.slice p4 g2.loads.length cap4) := by simp [go_sem]
        have b61 : (World.ext _ X4).cell? ⟨w.heap.size + 1 + 1, 1, none⟩ = some (.int .i64 g2.added) := by simp [go_sem]
        have b62 : (World.ext _ X4).cell? ⟨w.heap.size + 1 + 1, 2, none⟩ = some (.int .i64 g2.base) := by simp [go_sem]
        have b63 : (World.ext _ X4).cell? ⟨w.heap.size + 1 + 1, 3, none⟩ = some (.int .i64 g2.jitter) := by simp [go_sem]
        have b64 : (World.ext _ X4).cell? ⟨w.heap.size + 1 + 1, 4, none⟩ = some (.slice p5 g2.runners.length cap5) := by simp [go_sem]
        have b65 : (World.ext _ X4).cell? ⟨w.heap.size + 1 + 1, 5, none⟩ = some (.slice p6 g2.strokes.length cap6) := by simp [go_sem]
        have b66 : (World.ext _ X4).cell? ⟨w.heap.size + 1 + 1, 6, none⟩ = some (.int .i64 g2.spread) := by simp [go_sem]
        have b67 : (World.ext _ X4).cell? ⟨w.heap.size + 1 + 1, 7, none⟩ = some (.bool g2.stamp) := by simp [go_sem]
        have b70 : (World.ext _ X4).cell? ⟨w.heap.size + 1 + 1 + 1, 0, none⟩ = some (.int .i64 n.total.lo) := by simp [go_sem]
        have b71 : (World.ext _ X4).cell? ⟨w.heap.size + 1 + 1 + 1, 1, none⟩ = some (.int .i64 n.total.hi) := by simp [go_sem]
        clear HH HT
        generalize World.ext _ X4 = V at *
        have n6 := Lays.of_cell b60
        have n7 := Lays.of_cell b70
        obtain ⟨pa, ba, oa, ca, ea, hma, hpa, hca⟩ := hTV.ex
        cases ea
        have HHV := Lib.hid hHV
        clear hHV
        have HPA := Lib.hid hpa
        clear hpa
        have HCA := Lib.hid hca
        clear hca
        clear hTV
        go_loopw [12, 36] (fun out i wr => ∃ k : Nat, k ≤ A.length ∧ i = .int .i64 k ∧ Hid (wr.ownsRow V.heap.size 25 2 out (commonL (A.take k) B).length (spanCs (commonL (A.take k) B))) ∧ V.Exts wr) (fun _ i _ => A.length - (intOf i).toNat)
        case atStart => exact ⟨0, Nat.zero_le _, rfl, Lib.hid (World.ownsRow_nil _ _ _ _), World.Exts.refl _⟩
        case round =>
          obtain ⟨k, hk, rfl, HO, hE⟩ := hrel
          obtain ⟨X, rfl⟩ := hE
          by_cases hlt : k < A.length
          · obtain ⟨rfl, hl1⟩ := HPA.out (by omega)
            obtain ⟨s, hs⟩ := some_of_lt hlt
            have hcs := HCA.out k s hs
            have c0 := hcs 0 _ rfl
            have c1 := hcs 1 _ rfl
            simp only [Nat.add_zero] at c0 c1
            have hnk : commonL (A.take (k + 1)) B = commonL (A.take k) B ++ commonOne s B := by rw [take_snoc hs, commonL_snoc]
            have hlk := fun m => HTF.out k s m hs
            have HNK := Lib.hid hnk
            clear hnk
            have HLK := Lib.hid hlk
            clear hlk
            clear hs hcs HPA
            go_wp2_with (go_at_call 30; refine (hall_totals_own ts _ g2 _ _ _ _ _ (HHV.out.mono exq) (HG2.out.mono (exf hwW)) hn HRT.out h62 HSH2.out ad2).mono ?_; rw [← HB2.out]; rintro e w' ⟨vt, rfl, ht, ⟨X5, rfl⟩, -, htN⟩; obtain ⟨qb, cb, rfl⟩ := ht.len; have HTB := Lib.hid ht; have HTN := Lib.hid htN; clear ht htN)
            have hSB : LaysAs (World.ext _ X5) (V.ext X).heap.size (.cells [.int .i64 s.lo, .int .i64 s.hi].toArray 25 (0, 0)) := LaysAs.exts (LaysAs.new (V.ext X) (.cells #[.int .i64 s.lo, .int .i64 s.hi] 25)) exq
            have hNS := own_not_new HO.out
            have hNB := fun b (hb : (Value.slice qb B.length cb).ownBlock = some b) => (fun e => by
              have h1 := HTN.out b hb
              have h2 := (HO.out.lt b e).2
              simp at h1
              omega : Value.ownBlock _ ≠ some b)
            have HSB := Lib.hid hSB
            clear hSB
            have HNS := Lib.hid hNS
            clear hNS
            have HNB := Lib.hid hNB
            clear hNB
            go_loopw [12, 44] (fun out i wr => ∃ m : Nat, m ≤ B.length ∧ i = .int .i64 m ∧ Hid (wr.ownsRow V.heap.size 25 2 out (commonL (A.take k) B ++ commonOne s (B.take m)).length (spanCs (commonL (A.take k) B ++ commonOne s (B.take m)))) ∧ V.Exts wr ∧ Hid (LaysAs wr (V.ext X).heap.size (.cells [.int .i64 s.lo, .int .i64 s.hi].toArray 25 (0, 0))) ∧ Hid (out.ownBlock ≠ some (V.ext X).heap.size) ∧ Hid (IsRow (fun t : Kr.Span => [.int .i64 t.lo, .int .i64 t.hi]) 2 wr (.slice qb B.length cb) B) ∧ Hid (∀ b, (Value.slice qb B.length cb).ownBlock = some b → out.ownBlock ≠ some b)) (fun _ i _ => B.length - (intOf i).toNat)
            case atStart => exact ⟨0, Nat.zero_le _, rfl, Lib.hid (by simpa [commonOne] using ownsRow_exts HO.out exq), exq, HSB, HNS, HTB, HNB⟩
            case round =>
              obtain ⟨m, hm, rfl, HO2, hE2, HL, HN9, HR9, HNB9⟩ := hrel
              obtain ⟨X6, rfl⟩ := hE2
              have e0 := LaysAs.cell (cs := [.int .i64 s.lo, .int .i64 s.hi]) HL.out 0 _ rfl
              have e1 := LaysAs.cell (cs := [.int .i64 s.lo, .int .i64 s.hi]) HL.out 1 _ rfl
              have hle := Lays.of_cell e0
              by_cases hlt2 : m < B.length
              · obtain ⟨pb, bb2, ob, cb2, eb, hmb, hpb, hcb⟩ := HR9.out.ex
                cases eb
                obtain ⟨rfl, hl2⟩ := hpb (by omega)
                obtain ⟨t, ht⟩ := some_of_lt hlt2
                have hct := hcb m t ht
                have d0 := hct 0 _ rfl
                have d1 := hct 1 _ rfl
                simp only [Nat.add_zero] at d0 d1
                have hnx : commonL (A.take k) B ++ commonOne s (B.take (m + 1)) = commonL (A.take k) B ++ commonOne s (B.take m) ++ (if max s.lo t.lo ≤ min s.hi t.hi then [⟨max s.lo t.lo, min s.hi t.hi⟩] else []) := by rw [take_snoc ht, commonOne_snoc, List.append_assoc]
                have hlm := HLK.out m
                generalize hL : commonL (A.take k) B ++ commonOne s (B.take m) = L at hnx hlm HO2
                clear ht hct hpb hcb hL
                rcases Int.lt_or_le (min s.hi t.hi) (max s.lo t.lo) with hc | hc
                · rw [if_neg (by omega), List.append_nil] at hnx
                  have HNX := Lib.hid hnx
                  clear hnx
                  have hdc : decide (max s.lo t.lo ≤ min s.hi t.hi) = false := by simp; omega
                  go_wp2_with fail
                  go_roundw
                  case rel => exact ⟨m + 1, by omega, by go_num, Lib.hid (by rw [HNX.out]; exact ownsRow_exts HO2.out exq), exq, Lib.hid (HL.out.exts exq), HN9, Lib.hid (HR9.out.mono exq), HNB9⟩
                  case measure => simp [intOf]; omega
                · rw [if_pos hc] at hnx
                  have HNX := Lib.hid hnx
                  clear hnx
                  have hdc : decide (max s.lo t.lo ≤ min s.hi t.hi) = true := by simp; omega
                  go_wp2_with (at_builtin; refine wpList_append1W (.tmp 64) (.tmp 66) elem_Span rfl rfl rfl (ownsRow_exts HO2.out exq) [.int .i64 (max s.lo t.lo), .int .i64 (min s.hi t.hi)] _ (by simp) rfl rfl ?h1 ?h2 ?h4 ?h3 ?_)
                  case h1 => exact one_Span ⟨max s.lo t.lo, min s.hi t.hi⟩
                  case h2 => omega
                  case h4 => decide
                  case h3 => exact World.Exts.size exq
                  intro v' w' hown' happ
                  have hE9 := happ.exts V exq (Nat.le_refl _)
                  have hL2 := (HL.out.exts exq).appended happ HN9.out
                  have hR2 := row_appended (HR9.out.mono exq) happ HNB9.out
                  have hB2 := fun b hb => happ.beside b (own_lt (HR9.out.mono exq) (by omega) hb) (HNB9.out b hb)
                  have HO3 := Lib.hid hown'
                  clear hown'
                  have HE9 := Lib.hid hE9
                  clear hE9
                  have HL2 := Lib.hid hL2
                  clear hL2
                  have HR2 := Lib.hid hR2
                  clear hR2
                  have HB9 := Lib.hid hB2
                  clear hB2
                  clear happ
                  go_wp2_with fail
                  go_roundw
                  case rel => exact ⟨m + 1, by omega, by go_num, Lib.hid (by rw [HNX.out, spanCs_snoc, List.length_append]; exact HO3.out), HE9.out, Lib.hid HL2.out.1, Lib.hid HL2.out.2, HR2, HB9⟩
                  case measure => simp [intOf]; omega
              · have hmb : m = B.length := by omega
                have hO := HO2.out
                rw [hmb, List.take_length, ← HNK.out] at hO
                have HO3 := Lib.hid hO
                clear hO
                clear hmb
                go_wp2_with fail
                go_roundw
                case rel => exact ⟨k + 1, by omega, by go_num, Lib.hid HO3.out, exq⟩
                case measure => simp [intOf]; omega
          · have hka : k = A.length := by omega
            have hO := HO.out
            rw [hka, List.take_length] at hO
            have hrw := row_spans hO
            obtain ⟨qo, co, eo⟩ := hrw.len
            subst eo
            have HRW := Lib.hid hrw
            clear hrw
            clear hka HO hO
            go_wp2_with (go_at_call 52; refine (scale_known_any (commonL A B) n.total _ _ (HRW.out.mono (World.Exts.refl _)) HCF.out).mono ?_; rintro e w' ⟨rfl, X9, rfl⟩)
            go_ret2
            exact ⟨rfl, (exf hwW)⟩
    · rw [again_later hz hz2]
      have hc := check_three (ts.map Prod.fst) g2
      rcases hc with hc | hc | hc
      · exact absurd hc hz2
      all_goals
        rw [hc] at he ⊢
        have HE := Lib.hid he
        clear he
        clear hc hz2 hz hga hrt
        go_enter Tryd.func19, Tryd.ntmps19
        go_wp2_with (go_at_call 29; refine (scale_asked_any ts _ [(g, _, _, _), (g2, _, _, _)] _ _ (HB.out.mono exq) (row_gear2 _ (g, _, _, _) (g2, _, _, _) _ (by simp)) (gears2 (HG.out.mono exq) (HG2.out.mono exq))).mono ?_; rintro e w' ⟨pp, rfl, -, X2, rfl⟩; rw [HE.out])
        go_ret2
        exact ⟨rfl, exq⟩
  · rw [again_first hz]
    rw [if_pos hz] at he
    have hc := check_three (ts.map Prod.fst) g
    rcases hc with hc | hc | hc
    · exact absurd hc hz
    all_goals
      rw [hc] at he ⊢
      have HE := Lib.hid he
      clear he
      clear hc hz
      go_enter Tryd.func19, Tryd.ntmps19
      go_wp2_with (go_at_call 29; refine (scale_asked_any ts _ [(g, _, _, _), (g2, _, _, _)] _ _ (HB.out.mono exq) (row_gear2 _ (g, _, _, _) (g2, _, _, _) _ (by simp)) (gears2 (HG.out.mono exq) (HG2.out.mono exq))).mono ?_; rintro e w' ⟨pp, rfl, -, X2, rfl⟩; rw [HE.out])
      go_ret2
      exact ⟨rfl, exq⟩
end Go.Proofs.YtfjkiemjmnnbkaaDoor

/-
  Walks of package scale: which pieces are added.
-/
namespace Go.Proofs.YtfjkiemjmnnbkaaDoor
open Go.RowKit Kr
set_option linter.unusedSimpArgs false

/-- The choices of the first sets, with their rows: an own row. -/
def ChosAt (n : Norm) (T : List Span) (pieces : List Int) (base k : Nat) (wr : World) (v : Value) : Prop :=
  ∃ l : List (Choice × Value), l.map Prod.fst = choices n T pieces k ∧ wr.ownsRow base 125 2 v l.length (l.flatMap fun x => [.int .i64 x.1.weight, x.2]) ∧ ∀ x ∈ l, IsRow (fun x : Nat => [.int .i64 (x : Int)]) 1 wr x.2 x.1.pieces ∧ (∀ b, x.2.ownBlock = some b → b < wr.heap.size ∧ v.ownBlock ≠ some b) ∧ 0 ≤ x.1.weight ∧ x.1.weight ≤ 8000000
theorem ChosAt.keep {n : Norm} {T : List Span} {pieces : List Int} {base k : Nat} {wr wr' : World} {v : Value} (h : ChosAt n T pieces base k wr v) (hs : choices n T pieces (k + 1) = choices n T pieces k) (hE : wr.Exts wr') : ChosAt n T pieces base (k + 1) wr' v := by
  obtain ⟨l, h1, h2, h3⟩ := h
  exact ⟨l, h1.trans hs.symm, ownsRow_exts h2 hE, fun x hx => ⟨(h3 x hx).1.mono hE, fun b hb => ⟨Nat.lt_of_lt_of_le ((h3 x hx).2.1 b hb).1 hE.size, ((h3 x hx).2.1 b hb).2⟩, (h3 x hx).2.2⟩⟩

theorem row_two (w : World) (a b : Int) : IsRow (fun x : Int => [.int .i64 x]) 1 (w.alloc (.cells #[.int .i64 a, .int .i64 b] 3)) (.slice (some ⟨w.heap.size, 0, none⟩) 2 2) [a, b] := by
  refine ⟨some ⟨w.heap.size, 0, none⟩, w.heap.size, 0, 2, rfl, by simp, fun _ => ⟨rfl, lays_new _ _⟩, fun i x h j u hj => ?_⟩
  rcases j with _ | j <;> simp at hj
  subst hj
  rcases i with _ | _ | i <;> simp at h
  all_goals
    subst h
    rw [World.cell?_alloc_new]
    rfl

theorem choices_len (n : Norm) (T : List Span) (pieces : List Int) (k : Nat) : (choices n T pieces k).length ≤ k := by
  unfold choices
  exact Nat.le_trans (List.length_filter_le _ _) (by simp)
theorem elem_choice : ElemOf Tryd.prog 123 125 (.agg #[.int .i64 0, .slice none 0 0]) 2 32 := ⟨Tryd.underlying123, by kernel_rfl, rfl, by decide, by decide⟩

theorem field_choice (z : Int) (p : Option Addr) (m c : Nat) (W : World) : (Sem.run Tryd.prog (Instr.field 125 (.agg #[.int .i64 z, .slice p m c]) 1)) W = .ok (.slice p m c) W := by kernel_rfl
attribute [local go_sem] field_choice

theorem ChosAt.add {n : Norm} {T : List Span} {pieces : List Int} {base k : Nat} {W w' : World} {v v' vp : Value} {wt : Int} {L : List Nat} {l : List (Choice × Value)}
    (h1 : l.map Prod.fst = choices n T pieces k) (h3 : ∀ x ∈ l, IsRow (fun x : Nat => [.int .i64 (x : Int)]) 1 W x.2 x.1.pieces ∧ (∀ b, x.2.ownBlock = some b → b < W.heap.size ∧ v.ownBlock ≠ some b) ∧ 0 ≤ x.1.weight ∧ x.1.weight ≤ 8000000)
    (hs : choices n T pieces (k + 1) = choices n T pieces k ++ [⟨wt, L⟩]) (hw : 0 ≤ wt ∧ wt ≤ 8000000) (hown : w'.ownsRow base 125 2 v' (l.length + 1) ((l.flatMap fun x => [.int .i64 x.1.weight, x.2]) ++ [.int .i64 wt, vp])) (ha : AppendedW W w' v v' base)
    (hr : IsRow (fun x : Nat => [.int .i64 (x : Int)]) 1 W vp L) (hb : ∀ b, vp.ownBlock = some b → b < W.heap.size ∧ v.ownBlock ≠ some b) (hsz : W.heap.size ≤ w'.heap.size) : ChosAt n T pieces base (k + 1) w' v' := by
  refine ⟨l ++ [(⟨wt, L⟩, vp)], by rw [List.map_append, h1, hs]; rfl, by simpa using hown, fun x hx => ?_⟩
  have hx' : IsRow (fun x : Nat => [.int .i64 (x : Int)]) 1 W x.2 x.1.pieces ∧ (∀ b, x.2.ownBlock = some b → b < W.heap.size ∧ v.ownBlock ≠ some b) ∧ 0 ≤ x.1.weight ∧ x.1.weight ≤ 8000000 := by
    rcases List.mem_append.1 hx with hx | hx
    · exact h3 x hx
    · rw [List.mem_singleton.1 hx]; exact ⟨hr, hb, hw⟩
  obtain ⟨a1, a2, a3⟩ := hx'
  exact ⟨row_appended a1 ha fun b e => (a2 b e).2, fun b e => ⟨Nat.lt_of_lt_of_le (a2 b e).1 hsz, ha.beside b (a2 b e).1 (a2 b e).2⟩, a3⟩

/-- A store into a box of numbers leaves a hall. -/
theorem hallAt_set {W : World} {b : Nat} {v : Value} {ts : List (Kr.Scale × Value)} {a : Addr} {u : Value} {z : Int} (h : HallAt Tryd.prog 3 W b v ts) (hb : BayAt (W.setCell a u) v ts) (hc : W.cell? ⟨a.block, 1, none⟩ = some (.int .i64 z)) : HallAt Tryd.prog 3 (W.setCell a u) b v ts := by
  obtain ⟨m, D, h1, h2, h3, h4⟩ := h.ex
  have hba : a.block ≠ b := fun e => by
    rw [e, h2] at hc
    cases hc
  have hma : m ≠ a.block := fun e => by
    obtain ⟨es, clock, hm, _⟩ := h3
    rw [e] at hm
    simp [World.cell?, hm] at hc
  refine ⟨⟨m, D, ?_, ?_, h3.setCell hma u, h4⟩, hb⟩
  · rw [World.cell?_setCell_other W _ _ u (fun e => hba (by rw [e]))]; exact h1
  · rw [World.cell?_setCell_other W _ _ u (fun e => hba (by rw [e]))]; exact h2

set_option maxRecDepth 4000 in
set_option maxHeartbeats 4000000 in
theorem scale_Ballast_any (ts : List (Kr.Scale × Value)) (v : Value) (g : Gear) (lv rv sv : Value) (n : Norm) (pieces : List Int) (pv : Value) (w : World) (hb : BayAt w v ts) (hg : GearAt w (g, lv, rv, sv)) (hp : IsRow (fun x : Int => [.int .i64 x]) 1 w pv pieces) :
    Calls Tryd.prog 17 #[.agg #[v], .agg #[lv, .int .i64 g.added, .int .i64 g.base, .int .i64 g.jitter, rv, sv, .int .i64 g.spread, .bool g.stamp], .agg #[.int .i64 n.total.lo, .int .i64 n.total.hi, .int .i64 n.added, .int .i64 n.warm, .int .i64 n.hard.lo, .int .i64 n.hard.hi, .bool n.stamp], pv] w fun e w' => ∃ vp, e = .returned (.tuple #[vp, .int .i64 (ballastR (ts.map Prod.fst) g n pieces).2]) ∧ IsRow (fun x : Nat => [.int .i64 (x : Int)]) 1 w' vp (ballastR (ts.map Prod.fst) g n pieces).1 ∧ w.Exts w' := by
  have he : askErr ts [(g, lv, rv, sv)] = check (ts.map Prod.fst) g := by unfold askErr check; simp
  obtain ⟨p, cap, hv⟩ := hb.row.len
  subst hv
  obtain ⟨qp, cp, rfl⟩ := hp.len
  have hl1 := hg.l
  have hl2 := hg.r
  have hl3 := hg.s
  dsimp only at hl1 hl2 hl3
  obtain ⟨p1, cap1, rfl⟩ := hl1.len
  obtain ⟨p2, cap2, rfl⟩ := hl2.len
  obtain ⟨p3, cap3, rfl⟩ := hl3.len
  have HG := Lib.hid hg
  clear hg
  have HB := Lib.hid hb
  clear hb
  have HP := Lib.hid hp
  clear hp
  clear hl1 hl2 hl3
  by_cases hz : check (ts.map Prod.fst) g = 0
  · obtain ⟨hga, hn, hrt⟩ := gearAsk (check_added0 hz)
    rw [hz] at he
    cases hnb : normB n
    · rw [ballast_norm hz hnb]
      have HN := Lib.hid hnb
      clear hnb
      have HE := Lib.hid he
      clear he
      clear hga hrt
      go_enter Tryd.func17, Tryd.ntmps17
      go_wp2_with (first
        | (go_at_call 29; refine (scale_asked_any ts _ [(g, _, _, _)] _ _ (HB.out.mono exq) (row_gear1 _ (g, _, _, _) _ (by simp)) (fun y hy => by rw [List.mem_singleton.1 hy]; exact HG.out.mono exq)).mono ?_; rintro e w' ⟨pp, rfl, hy, X2, rfl⟩; obtain ⟨_, bb, rfl, hh⟩ := hy HE.out; rw [HE.out]; have HH := Lib.hid hh; clear hh hy)
        | (go_at_call 31; refine (scale_normal_any n _).mono ?_; rintro e w' ⟨rfl, X3, rfl⟩; rw [HN.out])
        | (go_at_call 26; refine (scale_in_any 0 1000000 _ pieces _ (HP.out.mono exq)).mono ?_; rintro e w' ⟨rfl, X4, rfl⟩; rw [HPC.out])
        | (go_at_call 30; refine (hall_totals_any ts _ { g with added := 0 } _ _ _ _ _ (hallAt_set (z := g.added) (HH.out.mono exq) (HB.out.mono exq) (by simp [go_sem])) (HG0.out.mono exq) hn HRT.out h6 HSH.out ad).mono ?_; rw [HD.out]; rintro e w' ⟨vt, rfl, ht, X5, rfl⟩; obtain ⟨qt, ct, rfl⟩ := ht.len; have HT := Lib.hid ht; clear ht))
      go_ret2
      exact ⟨_, rfl, IsRow.nil _, exq⟩
    rcases Nat.lt_or_ge 8 pieces.length with h8 | h8
    · rw [ballast_arg hz hnb (by rw [show decide (pieces.length ≤ 8) = false by simp; omega]; simp)]
      have HN := Lib.hid hnb
      clear hnb
      have HE := Lib.hid he
      clear he
      clear hga hrt
      go_enter Tryd.func17, Tryd.ntmps17
      go_wp2_with (first
        | (go_at_call 29; refine (scale_asked_any ts _ [(g, _, _, _)] _ _ (HB.out.mono exq) (row_gear1 _ (g, _, _, _) _ (by simp)) (fun y hy => by rw [List.mem_singleton.1 hy]; exact HG.out.mono exq)).mono ?_; rintro e w' ⟨pp, rfl, hy, X2, rfl⟩; obtain ⟨_, bb, rfl, hh⟩ := hy HE.out; rw [HE.out]; have HH := Lib.hid hh; clear hh hy)
        | (go_at_call 31; refine (scale_normal_any n _).mono ?_; rintro e w' ⟨rfl, X3, rfl⟩; rw [HN.out])
        | (go_at_call 26; refine (scale_in_any 0 1000000 _ pieces _ (HP.out.mono exq)).mono ?_; rintro e w' ⟨rfl, X4, rfl⟩; rw [HPC.out])
        | (go_at_call 30; refine (hall_totals_any ts _ { g with added := 0 } _ _ _ _ _ (hallAt_set (z := g.added) (HH.out.mono exq) (HB.out.mono exq) (by simp [go_sem])) (HG0.out.mono exq) hn HRT.out h6 HSH.out ad).mono ?_; rw [HD.out]; rintro e w' ⟨vt, rfl, ht, X5, rfl⟩; obtain ⟨qt, ct, rfl⟩ := ht.len; have HT := Lib.hid ht; clear ht))
      go_ret2
      exact ⟨_, rfl, IsRow.nil _, exq⟩
    cases hpc : inAll 0 1000000 pieces
    · rw [ballast_arg hz hnb (by rw [hpc]; rfl)]
      have HN := Lib.hid hnb
      clear hnb
      have HE := Lib.hid he
      clear he
      have HPC := Lib.hid hpc
      clear hpc
      clear hga hrt
      go_enter Tryd.func17, Tryd.ntmps17
      go_wp2_with (first
        | (go_at_call 29; refine (scale_asked_any ts _ [(g, _, _, _)] _ _ (HB.out.mono exq) (row_gear1 _ (g, _, _, _) _ (by simp)) (fun y hy => by rw [List.mem_singleton.1 hy]; exact HG.out.mono exq)).mono ?_; rintro e w' ⟨pp, rfl, hy, X2, rfl⟩; obtain ⟨_, bb, rfl, hh⟩ := hy HE.out; rw [HE.out]; have HH := Lib.hid hh; clear hh hy)
        | (go_at_call 31; refine (scale_normal_any n _).mono ?_; rintro e w' ⟨rfl, X3, rfl⟩; rw [HN.out])
        | (go_at_call 26; refine (scale_in_any 0 1000000 _ pieces _ (HP.out.mono exq)).mono ?_; rintro e w' ⟨rfl, X4, rfl⟩; rw [HPC.out])
        | (go_at_call 30; refine (hall_totals_any ts _ { g with added := 0 } _ _ _ _ _ (hallAt_set (z := g.added) (HH.out.mono exq) (HB.out.mono exq) (by simp [go_sem])) (HG0.out.mono exq) hn HRT.out h6 HSH.out ad).mono ?_; rw [HD.out]; rintro e w' ⟨vt, rfl, ht, X5, rfl⟩; obtain ⟨qt, ct, rfl⟩ := ht.len; have HT := Lib.hid ht; clear ht))
      go_ret2
      exact ⟨_, rfl, IsRow.nil _, exq⟩
    have hpc' : (inAll 0 1000000 pieces && decide (pieces.length ≤ 8)) = true := by simp [hpc, h8]
    obtain ⟨h6, sh, ad, neat, win, _⟩ := hga
    generalize hd : totals (ts.map Prod.fst) { g with added := 0 } = T at neat win
    have hg0 : GearAt w ({ g with added := 0 }, .slice p1 g.loads.length cap1, .slice p2 g.runners.length cap2, .slice p3 g.strokes.length cap3) := ⟨HG.out.l, HG.out.r, HG.out.s, HG.out.len, HG.out.wf⟩
    rcases T with _ | ⟨s0, sr⟩
    · rw [ballast_none hz hnb hpc' hd]
      have HN := Lib.hid hnb
      clear hnb
      have HE := Lib.hid he
      clear he
      have HPC := Lib.hid hpc
      clear hpc
      have HD := Lib.hid hd
      clear hd
      have HG0 := Lib.hid hg0
      clear hg0
      have HRT := Lib.hid hrt
      clear hrt
      have HSH := Lib.hid sh
      clear sh
      go_enter Tryd.func17, Tryd.ntmps17
      go_wp2_with (first
        | (go_at_call 29; refine (scale_asked_any ts _ [(g, _, _, _)] _ _ (HB.out.mono exq) (row_gear1 _ (g, _, _, _) _ (by simp)) (fun y hy => by rw [List.mem_singleton.1 hy]; exact HG.out.mono exq)).mono ?_; rintro e w' ⟨pp, rfl, hy, X2, rfl⟩; obtain ⟨_, bb, rfl, hh⟩ := hy HE.out; rw [HE.out]; have HH := Lib.hid hh; clear hh hy)
        | (go_at_call 31; refine (scale_normal_any n _).mono ?_; rintro e w' ⟨rfl, X3, rfl⟩; rw [HN.out])
        | (go_at_call 26; refine (scale_in_any 0 1000000 _ pieces _ (HP.out.mono exq)).mono ?_; rintro e w' ⟨rfl, X4, rfl⟩; rw [HPC.out])
        | (go_at_call 30; refine (hall_totals_any ts _ { g with added := 0 } _ _ _ _ _ (hallAt_set (z := g.added) (HH.out.mono exq) (HB.out.mono exq) (by simp [go_sem])) (HG0.out.mono exq) hn HRT.out h6 HSH.out ad).mono ?_; rw [HD.out]; rintro e w' ⟨vt, rfl, ht, X5, rfl⟩; obtain ⟨qt, ct, rfl⟩ := ht.len; have HT := Lib.hid ht; clear ht))
      go_ret2
      exact ⟨_, rfl, IsRow.nil _, exq⟩
    rw [ballast_all hz hnb hpc' (by rw [hd]; simp), hd]
    obtain ⟨hnb1, hnb2⟩ := norm_bounds hnb
    have hpb : ∀ x ∈ pieces, 0 ≤ x ∧ x ≤ 1000000 := fun x hx => by
      have := List.all_eq_true.1 hpc x hx
      simpa [inb] using this
    have hpw := wrap_pow ⟨pieces.length, by omega⟩
    dsimp only at hpw
    have hN8 : 2 ^ pieces.length ≤ 256 := Nat.le_trans (Nat.pow_le_pow_right (by omega) h8) (by decide : 2 ^ 8 ≤ 256)
    generalize 2 ^ pieces.length = N at hpw hN8 ⊢
    have hz9 : (((sr.length : Int) + 1) == 0) = false := by rw [beq_eq_false_iff_ne]; omega
    have HN := Lib.hid hnb
    clear hnb
    have HE := Lib.hid he
    clear he
    have HPC := Lib.hid hpc
    clear hpc
    have HD := Lib.hid hd
    clear hd
    have HG0 := Lib.hid hg0
    clear hg0
    have HRT := Lib.hid hrt
    clear hrt
    have HSH := Lib.hid sh
    clear sh
    have HPB := Lib.hid hpb
    clear hpb
    clear hz hpc'
    have hd8 : decide (8 < (pieces.length : Int)) = false := by simp; omega
    go_enter Tryd.func17, Tryd.ntmps17
    go_wp2_with (first
      | (go_at_call 29; refine (scale_asked_any ts _ [(g, _, _, _)] _ _ (HB.out.mono exq) (row_gear1 _ (g, _, _, _) _ (by simp)) (fun y hy => by rw [List.mem_singleton.1 hy]; exact HG.out.mono exq)).mono ?_; rintro e w' ⟨pp, rfl, hy, X2, rfl⟩; obtain ⟨_, bb, rfl, hh⟩ := hy HE.out; rw [HE.out]; have HH := Lib.hid hh; clear hh hy)
      | (go_at_call 31; refine (scale_normal_any n _).mono ?_; rintro e w' ⟨rfl, X3, rfl⟩; rw [HN.out])
      | (go_at_call 26; refine (scale_in_any 0 1000000 _ pieces _ (HP.out.mono exq)).mono ?_; rintro e w' ⟨rfl, X4, rfl⟩; rw [HPC.out])
      | (go_at_call 30; refine (hall_totals_any ts _ { g with added := 0 } _ _ _ _ _ (hallAt_set (z := g.added) (HH.out.mono exq) (HB.out.mono exq) (by simp [go_sem])) (HG0.out.mono exq) hn HRT.out h6 HSH.out ad).mono ?_; rw [HD.out]; rintro e w' ⟨vt, rfl, ht, X5, rfl⟩; obtain ⟨qt, ct, rfl⟩ := ht.len; have HT := Lib.hid ht; clear ht))
    have hwW : w.Exts (World.ext _ X5) := exq
    have hPV : IsRow (fun x : Int => [.int .i64 x]) 1 (World.ext _ X5) (.slice qp pieces.length cp) pieces := HP.out.mono exq
    have hTV := HT.out
    have b60 : (World.ext _ X5).cell? ⟨w.heap.size + 1 + 1, 0, none⟩ = some (.int .i64 n.total.lo) := by simp [go_sem]
    have b61 : (World.ext _ X5).cell? ⟨w.heap.size + 1 + 1, 1, none⟩ = some (.int .i64 n.total.hi) := by simp [go_sem]
    have b62 : (World.ext _ X5).cell? ⟨w.heap.size + 1 + 1, 2, none⟩ = some (.int .i64 n.added) := by simp [go_sem]
    clear HT HH
    generalize World.ext _ X5 = V at *
    have n6 := Lays.of_cell b60
    obtain ⟨pt, bt, ot, ct', et, hmt, hpt, hct⟩ := hTV.ex
    simp only [List.length_cons] at et hmt
    cases et
    obtain ⟨rfl, hlt9⟩ := hpt (by simp)
    have c00 := hct 0 s0 rfl 0 _ rfl
    obtain ⟨sl, hsl⟩ := some_of_lt (xs := s0 :: sr) (k := sr.length) (by simp)
    have cl1 := hct sr.length sl hsl 1 _ rfl
    simp only [Nat.zero_mul, Nat.add_zero] at c00
    have hfc : ∀ c, fitsC n (s0 :: sr) c = (decide (c.weight ≤ n.added) && inAll n.total.lo n.total.hi [s0.lo + c.weight, sl.hi + c.weight]) := fun c => by unfold fitsC; rw [getLastD_at hsl (by simp)]; rfl
    have hs1 := win s0 (List.mem_cons_self ..)
    have hs2 := win sl (List.mem_of_getElem? hsl)
    have hs3 := neat.1 s0 (List.mem_cons_self ..)
    have hs4 := neat.1 sl (List.mem_of_getElem? hsl)
    obtain ⟨pp9, bp, op, cp', ep, hmp, hpp9, hcp⟩ := hPV.ex
    cases ep
    have HFC := Lib.hid hfc
    clear hfc
    have HPP := Lib.hid hpp9
    clear hpp9
    have HCP := Lib.hid hcp
    clear hcp
    clear hTV hpt hct hsl neat win hPV
    rw [hpw]
    go_loopw [13, 49] (fun al i wr => ∃ k : Nat, k ≤ N ∧ i = .int .i64 k ∧ Hid (ChosAt n (s0 :: sr) pieces V.heap.size k wr al) ∧ V.Exts wr) (fun _ i _ => N - (intOf i).toNat)
    case atStart => exact ⟨0, Nat.zero_le _, rfl, Lib.hid ⟨[], rfl, World.ownsRow_nil _ _ _ _, fun x hx => by simp at hx⟩, World.Exts.refl _⟩
    case round =>
      obtain ⟨k, hk, rfl, HCH, hE⟩ := hrel
      obtain ⟨X, rfl⟩ := hE
      by_cases hlt : k < N
      · have hk256 : k < 256 := by omega
        go_wp2_with fail
        go_loopw [54] (fun j wr => ∃ (m : Nat) (vp : Value), m ≤ pieces.length ∧ j = .int .i64 m ∧ Hid (LaysAs wr (V.ext X).heap.size (.cells [.int .i64 (weighN pieces (membersN k m)), vp].toArray 125 (0, 0))) ∧ Hid (wr.ownsRow ((V.ext X).heap.size + 1) 3 1 vp (membersN k m).length (natCs (membersN k m))) ∧ (V.ext X).Exts wr) (fun j _ => pieces.length - (intOf j).toNat)
        case atStart => exact ⟨0, .slice none 0 0, Nat.zero_le _, rfl, Lib.hid (LaysAs.new (V.ext X) (.cells #[.int .i64 0, .slice none 0 0] 125)), Lib.hid (World.ownsRow_nil _ _ _ _), exq⟩
        case round =>
          obtain ⟨m, vp, hm, rfl, HL, HO, hE9⟩ := hrel
          have hlt0 := LaysAs.lt HL.out
          have e0 := LaysAs.cell HL.out 0 _ rfl
          have e1 := LaysAs.cell HL.out 1 _ rfl
          have f0 : wr.frozen? ⟨(V.ext X).heap.size, 0, none⟩ = false := laysAs_frozen' HL.out
          have f1 : wr.frozen? ⟨(V.ext X).heap.size, 1, none⟩ = false := laysAs_frozen' HL.out
          have hle := Lays.of_cell e0
          by_cases hlt2 : m < pieces.length
          · obtain ⟨rfl, hl8⟩ := HPP.out (by omega)
            obtain ⟨y, hy⟩ := some_of_lt hlt2
            have hds := (World.Exts.trans ⟨X, rfl⟩ hE9 : V.Exts wr).cell (HCP.out m y hy 0 _ rfl)
            simp only [Nat.mul_one, Nat.add_zero] at hds
            have hld := Lays.of_cell hds
            have hlen := membersN_len k m
            have hnx := membersN_succ k m
            have hwx : weighN pieces [m] = y := by unfold weighN; simp [List.getD_eq_getElem?_getD, hy]
            have hwb := weighN_bound HPB.out (membersN k m)
            have hyb := HPB.out y (List.mem_of_getElem? hy)
            have hbit := bit_at ⟨k, hk256⟩ ⟨m, by omega⟩
            dsimp only at hbit
            generalize membersN k m = L at hlen hnx hwb HL HO e0 ⊢
            cases hb : k.testBit m
            · rw [hb] at hnx hbit
              simp only [Bool.false_eq_true, if_false] at hbit hnx
              rw [List.append_nil] at hnx
              have HNX := Lib.hid hnx
              clear hnx
              clear hb hy
              go_wp2_with fail
              go_roundw
              case rel => exact ⟨m + 1, vp, by omega, by go_num, Lib.hid (by rw [HNX.out]; exact HL.out.exts exq), Lib.hid (by rw [HNX.out]; exact ownsRow_exts HO.out exq), (exf hE9)⟩
              case measure => simp [intOf]; omega
            · rw [hb] at hnx hbit
              simp only [if_true] at hbit hnx
              have HNX := Lib.hid hnx
              clear hnx
              clear hb hy
              go_wp2_with (at_builtin; refine wpList_append1W (.tmp 65) (.tmp 67) elem_intN rfl rfl rfl (ownsRow_exts HO.out exq) [.int .i64 (m : Int)] _ (by simp) rfl rfl ?h1 ?h2 ?h4 ?h3 ?_)
              case h1 => first | rfl | (intro u hu; simp at hu; subst hu; rfl)
              case h2 => omega
              try (case h4 => decide)
              case h3 => first | omega | (simp <;> omega)
              intro v' w' hown' happ
              obtain ⟨q9, c9, hv9⟩ := owns_len hown'
              subst hv9
              have hE8 := happ.exts (V.ext X) (exf hE9) (by omega)
              have hne : vp.ownBlock ≠ some (V.ext X).heap.size := fun e => by have := (HO.out.lt _ e).1; omega
              have hLA := (LaysAs.appended (HL.out.exts exq) happ hne).1
              have r0 := LaysAs.cell hLA 0 _ rfl
              have r1 := LaysAs.cell hLA 1 _ rfl
              have s0' : w'.frozen? ⟨(V.ext X).heap.size, 0, none⟩ = false := laysAs_frozen' hLA
              have s1' : w'.frozen? ⟨(V.ext X).heap.size, 1, none⟩ = false := laysAs_frozen' hLA
              have hlr := Lays.of_cell r0
              have hfl := LaysAs.set (i := 0) (LaysAs.set (i := 1) hLA (.slice q9 (L.length + 1) c9)) (.int .i64 (weighN pieces L + y))
              have hfo := (hown'.set (p := ⟨(V.ext X).heap.size, 1, none⟩) (by dsimp only; omega) (.slice q9 (L.length + 1) c9)).set (p := ⟨(V.ext X).heap.size, 0, none⟩) (by dsimp only; omega) (.int .i64 (weighN pieces L + y))
              have HE8 := Lib.hid hE8
              clear hE8
              have HFL := Lib.hid hfl
              clear hfl
              have HFO := Lib.hid hfo
              clear hfo
              clear happ hown' hLA
              go_wp2_with fail
              go_roundw
              case rel => exact ⟨m + 1, _, by omega, by go_num, Lib.hid (by rw [HNX.out, weighN_append, hwx]; exact HFL.out), Lib.hid (by rw [HNX.out, natCs_snoc, List.length_append]; exact HFO.out), (HE8.out.setCell (Nat.le_refl _) _).setCell (Nat.le_refl _) _⟩
              case measure => simp [intOf]; omega
          · have hmm : m = pieces.length := by omega
            subst hmm
            have hVw : V.Exts wr := World.Exts.trans ⟨X, rfl⟩ hE9
            have d60 := hVw.cell b60
            have d61 := hVw.cell b61
            have d62 := hVw.cell b62
            have d00 := hVw.cell c00
            have dl1 := hVw.cell cl1
            have l60 := Lays.of_cell d60
            have l00 := Lays.of_cell d00
            have hwb := weighN_bound HPB.out (membersN k pieces.length)
            have hlen := membersN_len k pieces.length
            have hfx := HFC.out (choiceOf pieces k)
            have hsx := choices_succ n (s0 :: sr) pieces k
            have hcp : membersN k pieces.length = (choiceOf pieces k).pieces := rfl
            have hcw : weighN pieces (membersN k pieces.length) = (choiceOf pieces k).weight := rfl
            rw [hcw] at HL e0 hwb
            rw [hcp] at HO hwb hlen
            clear hcp hcw
            generalize choiceOf pieces k = c at hwb hlen hfx hsx HL HO e0
            obtain ⟨wt, L⟩ := c
            dsimp only at hwb hlen hfx hsx HL HO e0
            have hw8 : 0 ≤ wt ∧ wt ≤ 8000000 := ⟨hwb.1, by omega⟩
            clear hwb hlen
            cases hle9 : decide (wt ≤ n.added)
            · rw [hle9, Bool.false_and] at hfx
              rw [hfx] at hsx
              simp only [Bool.false_eq_true, if_false, List.append_nil] at hsx
              have HSX := Lib.hid hsx
              clear hsx
              clear hfx
              go_wp2_with fail
              refine wp_region_ext (by kernel_rfl) (by kernel_rfl) ?_
              repeat (go_big_quiet_step (fail))
              refine wpQuiet_nil ?_
              rintro _ ⟨X, rfl⟩
              go_wp2_with fail
              go_roundw
              case rel => exact ⟨k + 1, by omega, by go_num, Lib.hid (HCH.out.keep HSX.out (exf hE9)), World.Exts.trans hVw exq⟩
              case measure => simp [intOf]; omega
            · rw [hle9, Bool.true_and] at hfx
              have HFX := Lib.hid hfx
              clear hfx
              have HSX := Lib.hid hsx
              clear hsx
              go_wp2_with fail
              refine wp_region_callsG 31 (fun i => i == 29 || i == 30) (fun c v W => (c = 29 → IsRow (fun x : Int => [.int .i64 x]) 1 W v [s0.lo + wt, sl.hi + wt]) ∧ (c = 30 → v = .bool (inAll n.total.lo n.total.hi [s0.lo + wt, sl.hi + wt]))) (by kernel_rfl) (fun ν => by kernel_rfl) (by kernel_rfl) (by kernel_rfl) (by kernel_rfl) (by kernel_rfl) (by kernel_rfl) ?mono ?_
              rotate_left 1
              apply Exists.intro
              refine ⟨?want, fun ν L hL => ?walk, fun c oc hc hU ν W hE hΦ => ?calls, fun ν W hE hΦ => ?tail⟩
              case walk =>
                simp only [modU, cOp, List.mapIdx_cons, List.mapIdx_nil, Nat.zero_add, Nat.reduceAdd, Nat.reduceBEq, Bool.or_false, Bool.false_or, Bool.or_true, Bool.true_or, Bool.or_self, Bool.false_eq_true, if_false, if_true, List.take_succ_cons, List.take_zero]
                repeat (go_big_quiet_step (fail))
                exact wpQuiet_nil hL
              case want =>
                intro ν i oi hi hU
                simp at hU
                rcases hU with rfl | rfl
                all_goals
                  simp only [List.getElem?_cons_succ, List.getElem?_cons_zero, Option.some.injEq] at hi
                  subst hi
                  rfl
              case mono => exact fun c v W W' h hE => ⟨fun e => (h.1 e).mono hE, h.2⟩
              case calls =>
                simp at hU
                rcases hU with rfl | rfl
                · simp only [List.getElem?_cons_succ, List.getElem?_cons_zero, Option.some.injEq] at hc
                  subst hc
                  exact .inr ⟨.slice (some ⟨W.heap.size, 0, none⟩) 2 2, W.alloc (.cells #[.int .i64 (s0.lo + wt), .int .i64 (sl.hi + wt)] 3), by kernel_rfl, (World.Exts.refl W).alloc _, fun _ => row_two W _ _, fun e => (by cases e)⟩
                · simp only [List.getElem?_cons_succ, List.getElem?_cons_zero, Option.some.injEq] at hc
                  subst hc
                  have h29 := (hΦ 29 rfl ⟨⟨29, .data⟩, by simp, rfl, rfl⟩).1 rfl
                  refine Oper.gives_fn rfl rfl rfl (enters_of Tryd.func26 (by kernel_rfl) rfl) ?_ rfl
                  refine (scale_in_any n.total.lo n.total.hi (ν 29) _ W h29).mono ?_
                  rintro e W' ⟨rfl, h2⟩
                  exact ⟨_, rfl, h2, fun e => (by cases e), fun _ => rfl⟩
              case tail =>
                have h30 := (hΦ 30 (by decide) rfl).2 rfl
                simp only [List.drop_succ_cons, List.drop_zero]
                generalize ν 30 = v30 at h30 ⊢
                subst h30
                clear hΦ
                have hVW : V.Exts W := World.Exts.trans hVw hE
                have hXW : (V.ext X).Exts W := World.Exts.trans hE9 hE
                cases hin : inAll n.total.lo n.total.hi [s0.lo + wt, sl.hi + wt]
                · have hs9 : choices n (s0 :: sr) pieces (k + 1) = choices n (s0 :: sr) pieces k := by rw [HSX.out, HFX.out, hin]; simp
                  have HS9 := Lib.hid hs9
                  clear hs9
                  go_wp2_with fail
                  go_roundw
                  case rel => exact ⟨k + 1, by omega, by go_num, Lib.hid (HCH.out.keep HS9.out hXW), hVW⟩
                  case measure => simp [intOf]; omega
                · have hs9 : choices n (s0 :: sr) pieces (k + 1) = choices n (s0 :: sr) pieces k ++ [⟨wt, L⟩] := by rw [HSX.out, HFX.out, hin]; rfl
                  obtain ⟨qv, cv, hvp⟩ := owns_len HO.out
                  subst hvp
                  have g0 := hE.cell e0
                  have g1 := hE.cell e1
                  have g2 := Lays.of_cell g0
                  obtain ⟨l, hl1, hl2, hl3⟩ := HCH.out
                  have hlk : l.length ≤ k := by
                    have := choices_len n (s0 :: sr) pieces k
                    rw [← hl1, List.length_map] at this
                    exact this
                  have hsz := hVW.size
                  have hrW : IsRow (fun x : Nat => [.int .i64 (x : Int)]) 1 W (.slice qv L.length cv) L := (IsRow.of_owns (enc := fun x : Nat => [.int .i64 (x : Int)]) (by simpa [natCs] using HO.out) (fun _ _ => rfl)).mono hE
                  have hl3' : ∀ x ∈ l, IsRow (fun x : Nat => [.int .i64 (x : Int)]) 1 W x.2 x.1.pieces ∧ (∀ b, x.2.ownBlock = some b → b < W.heap.size ∧ u13.ownBlock ≠ some b) ∧ 0 ≤ x.1.weight ∧ x.1.weight ≤ 8000000 := fun x hx => ⟨(hl3 x hx).1.mono hXW, fun b hb => ⟨Nat.lt_of_lt_of_le ((hl3 x hx).2.1 b hb).1 hXW.size, ((hl3 x hx).2.1 b hb).2⟩, (hl3 x hx).2.2⟩
                  have hbv : ∀ b, (Value.slice qv L.length cv).ownBlock = some b → b < W.heap.size ∧ u13.ownBlock ≠ some b := fun b hb => by
                    have h1 := HO.out.lt b hb
                    have h2 := hE.size
                    exact ⟨by omega, fun e => by have := hl2.lt b e; omega⟩
                  have hown0 := ownsRow_exts hl2 hXW
                  have HS9 := Lib.hid hs9
                  clear hs9
                  have HW0 := Lib.hid hown0
                  clear hown0
                  have HRW := Lib.hid hrW
                  clear hrW
                  have HL3 := Lib.hid hl3'
                  clear hl3'
                  have HBV := Lib.hid hbv
                  clear hbv
                  have HL1 := Lib.hid hl1
                  clear hl1
                  clear hl2 hl3
                  go_wp2_with (at_builtin; refine wpList_append1W (.tmp 108) (.tmp 110) elem_choice rfl rfl rfl HW0.out [.int .i64 wt, .slice qv L.length cv] _ (by simp) rfl rfl ?i1 ?i2 ?i4 ?i3 ?_)
                  case i1 => intro u hu; simp at hu; rcases hu with rfl | rfl <;> rfl
                  case i2 => omega
                  try (case i4 => decide)
                  case i3 => first | omega | (simp <;> omega)
                  intro v' w' hown' happ
                  have hE8 := happ.exts V hVW (by omega)
                  have hCH := ChosAt.add HL1.out HL3.out HS9.out hw8 hown' happ HRW.out HBV.out happ.size
                  have HE8 := Lib.hid hE8
                  clear hE8
                  have HCH2 := Lib.hid hCH
                  clear hCH
                  clear happ hown'
                  go_wp2_with fail
                  go_roundw
                  case rel => exact ⟨k + 1, by omega, by go_num, Lib.hid HCH2.out, HE8.out⟩
                  case measure => simp [intOf]; omega
      · have hkN : k = N := by omega
        obtain ⟨l, hl1, hl2, hl3⟩ := HCH.out
        have hbest : bestOf n (s0 :: sr) pieces N = (l.map Prod.fst).foldl better none := by rw [hl1, hkN]; rfl
        obtain ⟨qa, ca, hva⟩ := owns_len hl2
        subst hva
        have HBE := Lib.hid hbest
        clear hbest
        rcases Nat.eq_zero_or_pos l.length with h0 | h0
        · have hl0 : l = [] := List.length_eq_zero_iff.1 h0
          subst hl0
          have HL1 := Lib.hid hl1
          clear hl1
          clear hl2 hl3
          simp only [List.length_nil]
          go_wp2_with fail
          go_ret2
          rw [HBE.out]
          exact ⟨_, rfl, IsRow.nil _, World.Exts.trans hwW exq⟩
        · have hz0 : ((l.length : Int) == 0) = false := by rw [beq_eq_false_iff_ne]; omega
          have hCA : ChoicesAt (V.ext X) (.slice qa l.length ca) l := ⟨IsRow.of_owns hl2 (fun _ _ => rfl), fun x hx => (hl3 x hx).1⟩
          have hwl : ∀ x ∈ l, 0 ≤ x.1.weight ∧ x.1.weight ≤ 8000000 := fun x hx => (hl3 x hx).2.2
          have HCA := Lib.hid hCA
          clear hCA
          have HWL := Lib.hid hwl
          clear hwl
          have HL1 := Lib.hid hl1
          clear hl1
          clear hl2 hl3
          go_wp2_with (go_at_call 49; refine (MinFunc_choice_any l _ _ (HCA.out.mono exq) h0 HWL.out).mono ?_; rintro e w' ⟨mc, vm, rfl, hmc, hrm, X6, rfl⟩; obtain ⟨qm, cm, rfl⟩ := hrm.len; have HRM := Lib.hid hrm; have HMC := Lib.hid hmc; clear hrm hmc)
          go_ret2
          rw [HBE.out, HMC.out]
          exact ⟨_, rfl, HRM.out.mono exq, World.Exts.trans hwW exq⟩
  · rw [ballast_err hz]
    have hc := check_three (ts.map Prod.fst) g
    rcases hc with hc | hc | hc
    · exact absurd hc hz
    all_goals
      rw [hc] at he ⊢
      have HE := Lib.hid he
      clear he
      clear hc hz
      go_enter Tryd.func17, Tryd.ntmps17
      go_wp2_with (go_at_call 29; refine (scale_asked_any ts _ [(g, _, _, _)] _ _ (HB.out.mono exq) (row_gear1 _ (g, _, _, _) _ (by simp)) (fun y hy => by rw [List.mem_singleton.1 hy]; exact HG.out.mono exq)).mono ?_; rintro e w' ⟨pp, rfl, -, X2, rfl⟩; rw [HE.out])
      go_ret2
      exact ⟨_, rfl, IsRow.nil _, exq⟩
end Go.Proofs.YtfjkiemjmnnbkaaDoor
