/-
  Walks of the reference: what is judged.
-/
import Derived.Test.YtomcenfikdmmkaaGreatDoorJc
namespace Go.Proofs.YtomcenfikdmmkaaGreatDoor
open Go.RowKit Kr
set_option linter.unusedSimpArgs false

/-- What the region of the five parts leaves. -/
def PartsAt5 (a b c d : Int) (h : Span) (i : Nat) (W : World) (v : Value) : Prop :=
  (i = 3 → v = .int .u8 a) ∧ (i = 9 → v = .int .u8 b) ∧ (i = 12 → ∃ q k, v = .slice q 1 k ∧ IsRow (fun t : Kr.Span => [.int .i64 t.lo, .int .i64 t.hi]) 2 W v [h]) ∧ (i = 15 → v = .int .u8 c) ∧ (i = 23 → v = .int .u8 d)
theorem PartsAt5.mono {a b c d : Int} {h : Span} {i : Nat} {W W' : World} {v : Value} (p : PartsAt5 a b c d h i W v) (hE : W.Exts W') : PartsAt5 a b c d h i W' v :=
  ⟨p.1, p.2.1, fun e => by obtain ⟨q, k, h1, h2⟩ := p.2.2.1 e; exact ⟨q, k, h1, h2.mono hE⟩, p.2.2.2.1, p.2.2.2.2⟩
theorem row_sub {α : Type} {enc : α → List Value} {k : Nat} {w : World} {b o j : Nat} {x : α} (hlay : Lays w b) (hcs : ∀ m u, (enc x)[m]? = some u → w.cell? ⟨b, o + j * k + m, none⟩ = some u) (c : Nat) (hc : 1 ≤ c ∧ c ≤ 9223372036854775807) :
    IsRow enc k w (.slice (some ⟨b, o + j * k, none⟩) 1 c) [x] :=
  ⟨_, b, o + j * k, c, rfl, hc, fun _ => ⟨rfl, hlay⟩, fun i y hy m u hu => by
    match i, hy with
    | 0, hy =>
      simp at hy; subst hy
      rw [Nat.zero_mul, Nat.add_zero]
      exact hcs m u hu⟩
theorem row_five (w : World) (a b c d e : Int) (n : Nat) (hn : n = w.heap.size) : IsRow (fun x : Int => [.int .u8 x]) 1 (w.alloc (.cells #[.int .u8 a, .int .u8 b, .int .u8 c, .int .u8 d, .int .u8 e] 5)) (.slice (some ⟨n, 0, none⟩) 5 5) [a, b, c, d, e] := by
  have h : BlkAt (w.alloc (.cells ([.int .u8 a, .int .u8 b, .int .u8 c, .int .u8 d, .int .u8 e] : List Value).toArray 5)) n (([a, b, c, d, e] : List Int).flatMap fun x => [.int .u8 x]) := BlkAt.new w _ _ hn
  exact IsRow.of_blk (enc := fun x : Int => [.int .u8 x]) (k := 1) (xs := [a, b, c, d, e]) (fun _ => rfl) h ⟨by subst hn; simp⟩ (by simp)

set_option maxRecDepth 4000 in
set_option maxHeartbeats 4000000 in
theorem r04_Judge_any (ts : List (Kr.Scale × Value)) (v : Value) (g : Gear) (lv rv sv : Value) (n : Norm) (w : World) (hb : BayAt w v ts) (hg : GearAt w (g, lv, rv, sv)) :
    Calls Tryz.prog 10 #[.agg #[v], .agg #[lv, .int .i64 g.added, .int .i64 g.base, .int .i64 g.jitter, rv, sv, .int .i64 g.spread, .bool g.stamp], .agg #[.int .i64 n.total.lo, .int .i64 n.total.hi, .int .i64 n.added, .int .i64 n.warm, .int .i64 n.hard.lo, .int .i64 n.hard.hi, .bool n.stamp]] w fun e w' => ∃ vp, e = .returned (.tuple #[vp, .int .u8 (judgeR (ts.map Prod.fst) g n).1.2, .int .i64 (judgeR (ts.map Prod.fst) g n).2]) ∧ IsRow (fun x : Int => [.int .u8 x]) 1 w' vp (judgeR (ts.map Prod.fst) g n).1.1 ∧ w.Exts w' := by
  obtain ⟨p, cap, hv⟩ := hb.row.len
  subst hv
  have hl1 := hg.l
  have hl2 := hg.r
  have hl3 := hg.s
  dsimp only at hl1 hl2 hl3
  obtain ⟨p1, cap1, rfl⟩ := hl1.len
  obtain ⟨p2, cap2, rfl⟩ := hl2.len
  obtain ⟨p3, cap3, rfl⟩ := hl3.len
  have HG := Lib.hid hg
  clear hg
  have HB := Lib.hid hb
  clear hb
  clear hl1 hl2 hl3
  by_cases hz : check (ts.map Prod.fst) g = 0
  · obtain ⟨hz1, hz2⟩ := check_zero hz
    have hbare := gearOk_bare hz2
    have hok := check_ok hz1 hz2
    have hrt : ∀ x ∈ ts, right x.1 = true := fun x hx => hok.rt _ (List.mem_map.2 ⟨x, hx, rfl⟩)
    have hsh : ∀ x ∈ ts, ∀ l ∈ g.loads, l.scale = x.1.id → -2000000 ≤ l.shown ∧ l.shown ≤ 2000000 := fun x hx => hok.sh _ (List.mem_map.2 ⟨x, hx, rfl⟩)
    have hn : ts.length ≤ 4 := by have := hok.few; rwa [List.length_map] at this
    have h6 := hok.l6
    have had := hok.ad
    have HRT := Lib.hid hrt
    clear hrt
    have HSH := Lib.hid hsh
    clear hsh
    clear hok hz1 hz2
    cases hnb : normB n
    · rw [judge_norm hz hnb]
      have HN := Lib.hid hnb
      clear hnb
      have HE := Lib.hid hz
      clear hz
      go_enter Tryz.func10, Tryz.ntmps10
      go_wp2_with (first
        | (go_at_call 32; refine (r04_Check_any ts _ g _ _ _ _ (HB.out.mono (by repeat' (first | with_reducible exact World.Exts.refl _ | with_reducible refine World.Exts.alloc ?_ _ | with_reducible refine World.Exts.drew ?_ | with_reducible refine World.Exts.drewN ?_ _ | with_reducible refine World.Exts.ext ?_ _ | with_reducible refine World.Exts.setCell ?_ ?_ _ | (simp; done) | exact World.size_ext_le _ _ | (simp; omega)))) (HG.out.l.mono (by repeat' (first | with_reducible exact World.Exts.refl _ | with_reducible refine World.Exts.alloc ?_ _ | with_reducible refine World.Exts.drew ?_ | with_reducible refine World.Exts.drewN ?_ _ | with_reducible refine World.Exts.ext ?_ _ | with_reducible refine World.Exts.setCell ?_ ?_ _ | (simp; done) | exact World.size_ext_le _ _ | (simp; omega)))) (HG.out.r.mono (by repeat' (first | with_reducible exact World.Exts.refl _ | with_reducible refine World.Exts.alloc ?_ _ | with_reducible refine World.Exts.drew ?_ | with_reducible refine World.Exts.drewN ?_ _ | with_reducible refine World.Exts.ext ?_ _ | with_reducible refine World.Exts.setCell ?_ ?_ _ | (simp; done) | exact World.size_ext_le _ _ | (simp; omega)))) (HG.out.s.mono (by repeat' (first | with_reducible exact World.Exts.refl _ | with_reducible refine World.Exts.alloc ?_ _ | with_reducible refine World.Exts.drew ?_ | with_reducible refine World.Exts.drewN ?_ _ | with_reducible refine World.Exts.ext ?_ _ | with_reducible refine World.Exts.setCell ?_ ?_ _ | (simp; done) | exact World.size_ext_le _ _ | (simp; omega))))).mono ?_; rintro e w' ⟨rfl, X2, rfl⟩; rw [HE.out])
        | (go_at_call 21; refine (r04_Norm_any n _).mono ?_; rintro e w' ⟨rfl, X3, rfl⟩; rw [HN.out])
        | (go_at_call 33; refine (r04_totals_any ts _ g _ _ _ _ (HB.out.mono (by repeat' (first | with_reducible exact World.Exts.refl _ | with_reducible refine World.Exts.alloc ?_ _ | with_reducible refine World.Exts.drew ?_ | with_reducible refine World.Exts.drewN ?_ _ | with_reducible refine World.Exts.ext ?_ _ | with_reducible refine World.Exts.setCell ?_ ?_ _ | (simp; done) | exact World.size_ext_le _ _ | (simp; omega)))) (HG.out.mono (by repeat' (first | with_reducible exact World.Exts.refl _ | with_reducible refine World.Exts.alloc ?_ _ | with_reducible refine World.Exts.drew ?_ | with_reducible refine World.Exts.drewN ?_ _ | with_reducible refine World.Exts.ext ?_ _ | with_reducible refine World.Exts.setCell ?_ ?_ _ | (simp; done) | exact World.size_ext_le _ _ | (simp; omega)))) hn HRT.out h6 HSH.out had).mono ?_; rw [HD.out]; rintro e w' ⟨vt, rfl, ht, X4, rfl⟩; obtain ⟨qt, ct, rfl⟩ := ht.len; have HT := Lib.hid ht; clear ht)
        | (go_at_call 34; refine (r04_Hard_any g _ _ _ _ (HG.out.mono (by repeat' (first | with_reducible exact World.Exts.refl _ | with_reducible refine World.Exts.alloc ?_ _ | with_reducible refine World.Exts.drew ?_ | with_reducible refine World.Exts.drewN ?_ _ | with_reducible refine World.Exts.ext ?_ _ | with_reducible refine World.Exts.setCell ?_ ?_ _ | (simp; done) | exact World.size_ext_le _ _ | (simp; omega))))).mono ?_; rw [HH.out]; rintro e w' ⟨rfl, X5, rfl⟩)
        | (go_at_call 35; refine (r04_Warm_any g _ _ _ _ (HG.out.mono (by repeat' (first | with_reducible exact World.Exts.refl _ | with_reducible refine World.Exts.alloc ?_ _ | with_reducible refine World.Exts.drew ?_ | with_reducible refine World.Exts.drewN ?_ _ | with_reducible refine World.Exts.ext ?_ _ | with_reducible refine World.Exts.setCell ?_ ?_ _ | (simp; done) | exact World.size_ext_le _ _ | (simp; omega))))).mono ?_; rw [HWM.out]; rintro e w' ⟨vw, rfl, hw, X6, rfl⟩; obtain ⟨qw, cw, rfl⟩ := hw.len; have HW := Lib.hid hw; clear hw))
      refine bodyPost_ret (v := .tuple #[.slice none 0 0, .int .u8 0, .int .i64 42]) (by simp [results, Tryz.results10, go_sem]) rfl ?_
      exact ⟨_, rfl, IsRow.nil _, (by repeat' (first | with_reducible exact World.Exts.refl _ | with_reducible refine World.Exts.alloc ?_ _ | with_reducible refine World.Exts.drew ?_ | with_reducible refine World.Exts.drewN ?_ _ | with_reducible refine World.Exts.ext ?_ _ | with_reducible refine World.Exts.setCell ?_ ?_ _ | (simp; done) | exact World.size_ext_le _ _ | (simp; omega)))⟩
    generalize hd : totals (ts.map Prod.fst) g = T
    rcases T with _ | ⟨s0, sr⟩
    · rw [judge_none hz hnb hd]
      have HN := Lib.hid hnb
      clear hnb
      have HE := Lib.hid hz
      clear hz
      have HD := Lib.hid hd
      clear hd
      go_enter Tryz.func10, Tryz.ntmps10
      go_wp2_with (first
        | (go_at_call 32; refine (r04_Check_any ts _ g _ _ _ _ (HB.out.mono (by repeat' (first | with_reducible exact World.Exts.refl _ | with_reducible refine World.Exts.alloc ?_ _ | with_reducible refine World.Exts.drew ?_ | with_reducible refine World.Exts.drewN ?_ _ | with_reducible refine World.Exts.ext ?_ _ | with_reducible refine World.Exts.setCell ?_ ?_ _ | (simp; done) | exact World.size_ext_le _ _ | (simp; omega)))) (HG.out.l.mono (by repeat' (first | with_reducible exact World.Exts.refl _ | with_reducible refine World.Exts.alloc ?_ _ | with_reducible refine World.Exts.drew ?_ | with_reducible refine World.Exts.drewN ?_ _ | with_reducible refine World.Exts.ext ?_ _ | with_reducible refine World.Exts.setCell ?_ ?_ _ | (simp; done) | exact World.size_ext_le _ _ | (simp; omega)))) (HG.out.r.mono (by repeat' (first | with_reducible exact World.Exts.refl _ | with_reducible refine World.Exts.alloc ?_ _ | with_reducible refine World.Exts.drew ?_ | with_reducible refine World.Exts.drewN ?_ _ | with_reducible refine World.Exts.ext ?_ _ | with_reducible refine World.Exts.setCell ?_ ?_ _ | (simp; done) | exact World.size_ext_le _ _ | (simp; omega)))) (HG.out.s.mono (by repeat' (first | with_reducible exact World.Exts.refl _ | with_reducible refine World.Exts.alloc ?_ _ | with_reducible refine World.Exts.drew ?_ | with_reducible refine World.Exts.drewN ?_ _ | with_reducible refine World.Exts.ext ?_ _ | with_reducible refine World.Exts.setCell ?_ ?_ _ | (simp; done) | exact World.size_ext_le _ _ | (simp; omega))))).mono ?_; rintro e w' ⟨rfl, X2, rfl⟩; rw [HE.out])
        | (go_at_call 21; refine (r04_Norm_any n _).mono ?_; rintro e w' ⟨rfl, X3, rfl⟩; rw [HN.out])
        | (go_at_call 33; refine (r04_totals_any ts _ g _ _ _ _ (HB.out.mono (by repeat' (first | with_reducible exact World.Exts.refl _ | with_reducible refine World.Exts.alloc ?_ _ | with_reducible refine World.Exts.drew ?_ | with_reducible refine World.Exts.drewN ?_ _ | with_reducible refine World.Exts.ext ?_ _ | with_reducible refine World.Exts.setCell ?_ ?_ _ | (simp; done) | exact World.size_ext_le _ _ | (simp; omega)))) (HG.out.mono (by repeat' (first | with_reducible exact World.Exts.refl _ | with_reducible refine World.Exts.alloc ?_ _ | with_reducible refine World.Exts.drew ?_ | with_reducible refine World.Exts.drewN ?_ _ | with_reducible refine World.Exts.ext ?_ _ | with_reducible refine World.Exts.setCell ?_ ?_ _ | (simp; done) | exact World.size_ext_le _ _ | (simp; omega)))) hn HRT.out h6 HSH.out had).mono ?_; rw [HD.out]; rintro e w' ⟨vt, rfl, ht, X4, rfl⟩; obtain ⟨qt, ct, rfl⟩ := ht.len; have HT := Lib.hid ht; clear ht)
        | (go_at_call 34; refine (r04_Hard_any g _ _ _ _ (HG.out.mono (by repeat' (first | with_reducible exact World.Exts.refl _ | with_reducible refine World.Exts.alloc ?_ _ | with_reducible refine World.Exts.drew ?_ | with_reducible refine World.Exts.drewN ?_ _ | with_reducible refine World.Exts.ext ?_ _ | with_reducible refine World.Exts.setCell ?_ ?_ _ | (simp; done) | exact World.size_ext_le _ _ | (simp; omega))))).mono ?_; rw [HH.out]; rintro e w' ⟨rfl, X5, rfl⟩)
        | (go_at_call 35; refine (r04_Warm_any g _ _ _ _ (HG.out.mono (by repeat' (first | with_reducible exact World.Exts.refl _ | with_reducible refine World.Exts.alloc ?_ _ | with_reducible refine World.Exts.drew ?_ | with_reducible refine World.Exts.drewN ?_ _ | with_reducible refine World.Exts.ext ?_ _ | with_reducible refine World.Exts.setCell ?_ ?_ _ | (simp; done) | exact World.size_ext_le _ _ | (simp; omega))))).mono ?_; rw [HWM.out]; rintro e w' ⟨vw, rfl, hw, X6, rfl⟩; obtain ⟨qw, cw, rfl⟩ := hw.len; have HW := Lib.hid hw; clear hw))
      refine bodyPost_ret (v := .tuple #[.slice none 0 0, .int .u8 0, .int .i64 6]) (by simp [results, Tryz.results10, go_sem]) rfl ?_
      exact ⟨_, rfl, IsRow.nil _, (by repeat' (first | with_reducible exact World.Exts.refl _ | with_reducible refine World.Exts.alloc ?_ _ | with_reducible refine World.Exts.drew ?_ | with_reducible refine World.Exts.drewN ?_ _ | with_reducible refine World.Exts.ext ?_ _ | with_reducible refine World.Exts.setCell ?_ ?_ _ | (simp; done) | exact World.size_ext_le _ _ | (simp; omega)))⟩
    have hwm : warm g = (g.runners.map (warmAt g), 0) := by unfold warm; rw [if_pos hbare]
    rcases hard_bare hbare with ⟨hh0, hh1⟩ | hh
    · rw [judge_all hz hnb (by rw [hd]; simp) hh0]
      have hP : partsJ (ts.map Prod.fst) g n = [knownR (s0 :: sr) n.total, sureR (decide (g.added ≤ n.added)), warmOf g n.warm, knownR [(hard g).1] n.hard, sureR (g.stamp || !n.stamp)] := by unfold partsJ; rw [hd]
      have hW : warmOf g n.warm = (g.runners.map (warmAt g)).foldl (warmStep n.warm) 2 := rfl
      rw [hP]
      rw [hW]
      have hhp : hard g = ((hard g).1, 0) := by rw [← hh0]
      generalize (hard g).1 = hd1 at hhp hh1 ⊢
      have hlen : (g.runners.map (warmAt g)).length = g.runners.length := List.length_map ..
      generalize g.runners.map (warmAt g) = L at hwm ⊢
      have HN := Lib.hid hnb
      clear hnb
      have HE := Lib.hid hz
      clear hz
      have HD := Lib.hid hd
      clear hd
      have HH := Lib.hid hhp
      clear hhp
      have HWM := Lib.hid hwm
      clear hwm
      clear hP hW hh0 hlen hbare
      go_enter Tryz.func10, Tryz.ntmps10
      go_wp2_with (first
        | (go_at_call 32; refine (r04_Check_any ts _ g _ _ _ _ (HB.out.mono (by repeat' (first | with_reducible exact World.Exts.refl _ | with_reducible refine World.Exts.alloc ?_ _ | with_reducible refine World.Exts.drew ?_ | with_reducible refine World.Exts.drewN ?_ _ | with_reducible refine World.Exts.ext ?_ _ | with_reducible refine World.Exts.setCell ?_ ?_ _ | (simp; done) | exact World.size_ext_le _ _ | (simp; omega)))) (HG.out.l.mono (by repeat' (first | with_reducible exact World.Exts.refl _ | with_reducible refine World.Exts.alloc ?_ _ | with_reducible refine World.Exts.drew ?_ | with_reducible refine World.Exts.drewN ?_ _ | with_reducible refine World.Exts.ext ?_ _ | with_reducible refine World.Exts.setCell ?_ ?_ _ | (simp; done) | exact World.size_ext_le _ _ | (simp; omega)))) (HG.out.r.mono (by repeat' (first | with_reducible exact World.Exts.refl _ | with_reducible refine World.Exts.alloc ?_ _ | with_reducible refine World.Exts.drew ?_ | with_reducible refine World.Exts.drewN ?_ _ | with_reducible refine World.Exts.ext ?_ _ | with_reducible refine World.Exts.setCell ?_ ?_ _ | (simp; done) | exact World.size_ext_le _ _ | (simp; omega)))) (HG.out.s.mono (by repeat' (first | with_reducible exact World.Exts.refl _ | with_reducible refine World.Exts.alloc ?_ _ | with_reducible refine World.Exts.drew ?_ | with_reducible refine World.Exts.drewN ?_ _ | with_reducible refine World.Exts.ext ?_ _ | with_reducible refine World.Exts.setCell ?_ ?_ _ | (simp; done) | exact World.size_ext_le _ _ | (simp; omega))))).mono ?_; rintro e w' ⟨rfl, X2, rfl⟩; rw [HE.out])
        | (go_at_call 21; refine (r04_Norm_any n _).mono ?_; rintro e w' ⟨rfl, X3, rfl⟩; rw [HN.out])
        | (go_at_call 33; refine (r04_totals_any ts _ g _ _ _ _ (HB.out.mono (by repeat' (first | with_reducible exact World.Exts.refl _ | with_reducible refine World.Exts.alloc ?_ _ | with_reducible refine World.Exts.drew ?_ | with_reducible refine World.Exts.drewN ?_ _ | with_reducible refine World.Exts.ext ?_ _ | with_reducible refine World.Exts.setCell ?_ ?_ _ | (simp; done) | exact World.size_ext_le _ _ | (simp; omega)))) (HG.out.mono (by repeat' (first | with_reducible exact World.Exts.refl _ | with_reducible refine World.Exts.alloc ?_ _ | with_reducible refine World.Exts.drew ?_ | with_reducible refine World.Exts.drewN ?_ _ | with_reducible refine World.Exts.ext ?_ _ | with_reducible refine World.Exts.setCell ?_ ?_ _ | (simp; done) | exact World.size_ext_le _ _ | (simp; omega)))) hn HRT.out h6 HSH.out had).mono ?_; rw [HD.out]; rintro e w' ⟨vt, rfl, ht, X4, rfl⟩; obtain ⟨qt, ct, rfl⟩ := ht.len; have HT := Lib.hid ht; clear ht)
        | (go_at_call 34; refine (r04_Hard_any g _ _ _ _ (HG.out.mono (by repeat' (first | with_reducible exact World.Exts.refl _ | with_reducible refine World.Exts.alloc ?_ _ | with_reducible refine World.Exts.drew ?_ | with_reducible refine World.Exts.drewN ?_ _ | with_reducible refine World.Exts.ext ?_ _ | with_reducible refine World.Exts.setCell ?_ ?_ _ | (simp; done) | exact World.size_ext_le _ _ | (simp; omega))))).mono ?_; rw [HH.out]; rintro e w' ⟨rfl, X5, rfl⟩)
        | (go_at_call 35; refine (r04_Warm_any g _ _ _ _ (HG.out.mono (by repeat' (first | with_reducible exact World.Exts.refl _ | with_reducible refine World.Exts.alloc ?_ _ | with_reducible refine World.Exts.drew ?_ | with_reducible refine World.Exts.drewN ?_ _ | with_reducible refine World.Exts.ext ?_ _ | with_reducible refine World.Exts.setCell ?_ ?_ _ | (simp; done) | exact World.size_ext_le _ _ | (simp; omega))))).mono ?_; rw [HWM.out]; rintro e w' ⟨vw, rfl, hw, X6, rfl⟩; obtain ⟨qw, cw, rfl⟩ := hw.len; have HW := Lib.hid hw; clear hw))
      have hK : LaysAs (World.ext _ X6) (World.ext _ X5).heap.size (.cells [.int .i64 hd1.lo, .int .i64 hd1.hi].toArray 30 (0, 0)) := (LaysAs.new (World.ext _ X5) (.cells #[.int .i64 hd1.lo, .int .i64 hd1.hi] 30)).exts ⟨X6, rfl⟩
      have hEV : w.Exts (World.ext _ X6) := (by repeat' (first | with_reducible exact World.Exts.refl _ | with_reducible refine World.Exts.alloc ?_ _ | with_reducible refine World.Exts.drew ?_ | with_reducible refine World.Exts.drewN ?_ _ | with_reducible refine World.Exts.ext ?_ _ | with_reducible refine World.Exts.setCell ?_ ?_ _ | (simp; done) | exact World.size_ext_le _ _ | (simp; omega)))
      have hTV : IsRow (fun t : Kr.Span => [.int .i64 t.lo, .int .i64 t.hi]) 2 (World.ext _ X6) (.slice qt (sr.length + 1) ct) (s0 :: sr) := HT.out.mono (by repeat' (first | with_reducible exact World.Exts.refl _ | with_reducible refine World.Exts.alloc ?_ _ | with_reducible refine World.Exts.drew ?_ | with_reducible refine World.Exts.drewN ?_ _ | with_reducible refine World.Exts.ext ?_ _ | with_reducible refine World.Exts.setCell ?_ ?_ _ | (simp; done) | exact World.size_ext_le _ _ | (simp; omega)))
      have b0 : (World.ext _ X6).cell? ⟨w.heap.size, 0, none⟩ = some (.slice p ts.length cap) := by simp [go_sem]
      have b10 : (World.ext _ X6).cell? ⟨w.heap.size + 1, 0, none⟩ = some (.slice p1 g.loads.length cap1) := by simp [go_sem]
      have b11 : (World.ext _ X6).cell? ⟨w.heap.size + 1, 1, none⟩ = some (.int .i64 g.added) := by simp [go_sem]
      have b12 : (World.ext _ X6).cell? ⟨w.heap.size + 1, 2, none⟩ = some (.int .i64 g.base) := by simp [go_sem]
      have b13 : (World.ext _ X6).cell? ⟨w.heap.size + 1, 3, none⟩ = some (.int .i64 g.jitter) := by simp [go_sem]
      have b14 : (World.ext _ X6).cell? ⟨w.heap.size + 1, 4, none⟩ = some (.slice p2 g.runners.length cap2) := by simp [go_sem]
      have b15 : (World.ext _ X6).cell? ⟨w.heap.size + 1, 5, none⟩ = some (.slice p3 g.strokes.length cap3) := by simp [go_sem]
      have b16 : (World.ext _ X6).cell? ⟨w.heap.size + 1, 6, none⟩ = some (.int .i64 g.spread) := by simp [go_sem]
      have b17 : (World.ext _ X6).cell? ⟨w.heap.size + 1, 7, none⟩ = some (.bool g.stamp) := by simp [go_sem]
      have b20 : (World.ext _ X6).cell? ⟨w.heap.size + 1 + 1, 0, none⟩ = some (.int .i64 n.total.lo) := by simp [go_sem]
      have b21 : (World.ext _ X6).cell? ⟨w.heap.size + 1 + 1, 1, none⟩ = some (.int .i64 n.total.hi) := by simp [go_sem]
      have b22 : (World.ext _ X6).cell? ⟨w.heap.size + 1 + 1, 2, none⟩ = some (.int .i64 n.added) := by simp [go_sem]
      have b23 : (World.ext _ X6).cell? ⟨w.heap.size + 1 + 1, 3, none⟩ = some (.int .i64 n.warm) := by simp [go_sem]
      have b24 : (World.ext _ X6).cell? ⟨w.heap.size + 1 + 1, 4, none⟩ = some (.int .i64 n.hard.lo) := by simp [go_sem]
      have b25 : (World.ext _ X6).cell? ⟨w.heap.size + 1 + 1, 5, none⟩ = some (.int .i64 n.hard.hi) := by simp [go_sem]
      have b26 : (World.ext _ X6).cell? ⟨w.heap.size + 1 + 1, 6, none⟩ = some (.bool n.stamp) := by simp [go_sem]
      generalize (World.ext _ X5).heap.size = K at *
      generalize World.ext _ X6 = V at *
      have k0 := LaysAs.cell hK 0 _ rfl
      have k1 := LaysAs.cell hK 1 _ rfl
      have n0 := Lays.of_cell b0
      have n1 := Lays.of_cell b10
      have n2 := Lays.of_cell b20
      have n3 := Lays.of_cell k0
      obtain ⟨pw, bw, ow, capw, ew, hmw, hpw, hcw⟩ := HW.out.ex
      cases ew
      have HTV := Lib.hid hTV
      clear hTV
      have HPW := Lib.hid hpw
      clear hpw
      have HCW := Lib.hid hcw
      clear hcw
      clear hK HT HW
      go_loopw [13, 16] (fun wu i wr => ∃ j : Nat, j ≤ L.length ∧ i = .int .i64 j ∧ wu = .int .u8 ((L.take j).foldl (warmStep n.warm) 2) ∧ V.Exts wr) (fun _ i _ => L.length - (intOf i).toNat)
      case atStart => exact ⟨0, Nat.zero_le _, rfl, rfl, World.Exts.refl _⟩
      case round =>
        obtain ⟨j, hj, rfl, rfl, hE⟩ := hrel
        obtain ⟨X, rfl⟩ := hE
        by_cases hlt : j < L.length
        · --[L1
          obtain ⟨rfl, hlw⟩ := HPW.out (by omega)
          obtain ⟨x, hx⟩ := some_of_lt hlt
          have hcs := HCW.out j x hx
          have hrx : IsRow (fun t : Kr.Span => [.int .i64 t.lo, .int .i64 t.hi]) 2 V (.slice (some ⟨bw, ow + j * 2, none⟩) 1 (cw - j)) [x] := row_sub (enc := fun t : Kr.Span => [.int .i64 t.lo, .int .i64 t.hi]) (k := 2) hlw hcs (cw - j) (by omega)
          have hnx : (L.take (j + 1)).foldl (warmStep n.warm) 2 = min ((L.take j).foldl (warmStep n.warm) 2) (knownR [x] ⟨-9000, n.warm⟩) := by rw [take_snoc hx, List.foldl_append]; rfl
          generalize (L.take j).foldl (warmStep n.warm) 2 = le at hnx ⊢
          have HNX := Lib.hid hnx
          clear hnx
          have HRX := Lib.hid hrx
          clear hrx
          clear hx hcs
          go_wp2_with fail
          refine wp_region_ext_tail 10 (by kernel_rfl) (by kernel_rfl) ?_
          simp only [List.take_succ_cons, List.take_zero, List.drop_succ_cons, List.drop_zero]
          repeat (go_big_quiet_step ((go_at_call 36; exact Calls.in_ext (r04_known_any [x] ⟨-9000, n.warm⟩ _ _ (HRX.out.mono (by repeat' (first | with_reducible exact World.Exts.refl _ | with_reducible refine World.Exts.alloc ?_ _ | with_reducible refine World.Exts.drew ?_ | with_reducible refine World.Exts.drewN ?_ _ | with_reducible refine World.Exts.ext ?_ _ | with_reducible refine World.Exts.setCell ?_ ?_ _ | (simp; done) | exact World.size_ext_le _ _ | (simp; omega))))))))
          refine wpQuiet_nil ?_
          rintro _ ⟨X, rfl⟩
          go_wp2_with fail
          go_roundw
          case rel => exact ⟨j + 1, by omega, by go_num, by rw [HNX.out], (by repeat' (first | with_reducible exact World.Exts.refl _ | with_reducible refine World.Exts.alloc ?_ _ | with_reducible refine World.Exts.drew ?_ | with_reducible refine World.Exts.drewN ?_ _ | with_reducible refine World.Exts.ext ?_ _ | with_reducible refine World.Exts.setCell ?_ ?_ _ | (simp; done) | exact World.size_ext_le _ _ | (simp; omega)))⟩
          case measure => simp [intOf]; omega
        · have hjn : j = L.length := by omega
          have hfw : L.take j = L := by rw [hjn, List.take_length]
          rw [hfw]
          generalize hwu : L.foldl (warmStep n.warm) 2 = wu
          have HWU := Lib.hid hwu
          clear hwu
          clear hjn hfw
          go_wp2_with fail
          cases hst : g.stamp
          all_goals
            refine wp_region_calls 24 (fun i => i == 3 || i == 9 || i == 12 || i == 15 || i == 23) (fun c v W => PartsAt5 (knownR (s0 :: sr) n.total) (sureR (decide (g.added ≤ n.added))) (knownR [hd1] n.hard) (sureR (g.stamp || !n.stamp)) hd1 c W v) (by kernel_rfl) (fun ν => by kernel_rfl) (by kernel_rfl) (by kernel_rfl) (by kernel_rfl) (by kernel_rfl) ?mono ?_
            rotate_left 1
            apply Exists.intro
            refine ⟨fun ν L hL => ?_, fun c oc hc hU ν W hE hΦ => ?_, fun ν W hE hΦ => ?_⟩
            · simp only [modU, cOp, List.mapIdx_cons, List.mapIdx_nil, Nat.zero_add, Nat.reduceAdd, Nat.reduceBEq, Bool.or_false, Bool.false_or, Bool.or_true, Bool.true_or, Bool.or_self, Bool.false_eq_true, if_false, if_true, List.take_succ_cons, List.take_zero]
              repeat (go_big_quiet_step (fail))
              exact wpQuiet_nil hL
            · simp at hU
              have hVW : V.Exts W := World.Exts.trans (by repeat' (first | with_reducible exact World.Exts.refl _ | with_reducible refine World.Exts.alloc ?_ _ | with_reducible refine World.Exts.drew ?_ | with_reducible refine World.Exts.drewN ?_ _ | with_reducible refine World.Exts.ext ?_ _ | with_reducible refine World.Exts.setCell ?_ ?_ _ | (simp; done) | exact World.size_ext_le _ _ | (simp; omega))) hE
              rcases hU with (((rfl | rfl) | rfl) | rfl) | rfl
              · simp only [List.getElem?_cons_succ, List.getElem?_cons_zero, Option.some.injEq] at hc
                subst hc
                refine Oper.gives_fn rfl rfl rfl (enters_of Tryz.func36 (by kernel_rfl) rfl) ?_ rfl
                refine (r04_known_any (s0 :: sr) n.total _ W (HTV.out.mono hVW)).mono ?_
                rintro e W' ⟨rfl, h2⟩
                exact ⟨_, rfl, h2, fun _ => rfl, fun e => (by cases e), fun e => (by cases e), fun e => (by cases e), fun e => (by cases e)⟩
              · simp only [List.getElem?_cons_succ, List.getElem?_cons_zero, Option.some.injEq] at hc
                subst hc
                refine Oper.gives_fn rfl rfl rfl (enters_of Tryz.func37 (by kernel_rfl) rfl) ?_ rfl
                refine (r04_told_any (decide (g.added ≤ n.added)) W).mono ?_
                rintro e W' ⟨rfl, h2⟩
                exact ⟨_, rfl, h2, fun e => (by cases e), fun _ => rfl, fun e => (by cases e), fun e => (by cases e), fun e => (by cases e)⟩
              · simp only [List.getElem?_cons_succ, List.getElem?_cons_zero, Option.some.injEq] at hc
                subst hc
                exact .inr ⟨.slice (some ⟨W.heap.size, 0, none⟩) 1 1, W.alloc (.cells #[.int .i64 hd1.lo, .int .i64 hd1.hi] 30), by kernel_rfl, (by repeat' (first | with_reducible exact World.Exts.refl _ | with_reducible refine World.Exts.alloc ?_ _ | with_reducible refine World.Exts.drew ?_ | with_reducible refine World.Exts.drewN ?_ _ | with_reducible refine World.Exts.ext ?_ _ | with_reducible refine World.Exts.setCell ?_ ?_ _ | (simp; done) | exact World.size_ext_le _ _ | (simp; omega))), fun e => (by cases e), fun e => (by cases e), fun _ => ⟨_, _, rfl, row_span1 _ _ _ rfl⟩, fun e => (by cases e), fun e => (by cases e)⟩
              · simp only [List.getElem?_cons_succ, List.getElem?_cons_zero, Option.some.injEq] at hc
                subst hc
                obtain ⟨q12, k12, e12, h12⟩ := (hΦ 12 rfl ⟨⟨12, .data⟩, by simp, rfl, rfl⟩).2.2.1 rfl
                refine Oper.gives_fn rfl rfl rfl (enters_of Tryz.func36 (by kernel_rfl) rfl) ?_ rfl
                refine (r04_known_any [hd1] n.hard (ν 12) W h12).mono ?_
                rintro e W' ⟨rfl, h2⟩
                exact ⟨_, rfl, h2, fun e => (by cases e), fun e => (by cases e), fun e => (by cases e), fun _ => rfl, fun e => (by cases e)⟩
              · simp only [List.getElem?_cons_succ, List.getElem?_cons_zero, Option.some.injEq] at hc
                subst hc
                refine Oper.gives_fn rfl rfl rfl (enters_of Tryz.func37 (by kernel_rfl) rfl) ?_ rfl
                have hcon := r04_told_any (g.stamp || !n.stamp) W
                rw [hst] at hcon
                refine hcon.mono ?_
                rintro e W' ⟨rfl, h2⟩
                exact ⟨_, rfl, h2, fun e => (by cases e), fun e => (by cases e), fun e => (by cases e), fun e => (by cases e), fun _ => (by rw [hst])⟩
            rotate_left 1
            case mono => exact fun c v W W' h hE => h.mono hE
            have hVW : V.Exts W := World.Exts.trans (by repeat' (first | with_reducible exact World.Exts.refl _ | with_reducible refine World.Exts.alloc ?_ _ | with_reducible refine World.Exts.drew ?_ | with_reducible refine World.Exts.drewN ?_ _ | with_reducible refine World.Exts.ext ?_ _ | with_reducible refine World.Exts.setCell ?_ ?_ _ | (simp; done) | exact World.size_ext_le _ _ | (simp; omega))) hE
            obtain ⟨a1, e3, ha1⟩ : ∃ a, ν 3 = .int .u8 a ∧ knownR (s0 :: sr) n.total = a := ⟨_, (hΦ 3 (by decide) rfl).1 rfl, rfl⟩
            obtain ⟨a2, e9, ha2⟩ : ∃ a, ν 9 = .int .u8 a ∧ sureR (decide (g.added ≤ n.added)) = a := ⟨_, (hΦ 9 (by decide) rfl).2.1 rfl, rfl⟩
            obtain ⟨a4, e15, ha4⟩ : ∃ a, ν 15 = .int .u8 a ∧ knownR [hd1] n.hard = a := ⟨_, (hΦ 15 (by decide) rfl).2.2.2.1 rfl, rfl⟩
            obtain ⟨a5, e23, ha5⟩ : ∃ a, ν 23 = .int .u8 a ∧ sureR (g.stamp || !n.stamp) = a := ⟨_, (hΦ 23 (by decide) rfl).2.2.2.2 rfl, rfl⟩
            simp only [List.drop_succ_cons, List.drop_zero]
            rw [e3, e9, e15, e23]
            clear hΦ e3 e9 e15 e23
            have HA1 := Lib.hid ha1
            clear ha1
            have HA2 := Lib.hid ha2
            clear ha2
            have HA4 := Lib.hid ha4
            clear ha4
            have HA5 := Lib.hid ha5
            clear ha5
            have hR5 := row_five W a1 a2 wu a4 a5 _ rfl
            have hP5 : ∃ P : List Int, P = [a1, a2, wu, a4, a5] := ⟨_, rfl⟩
            obtain ⟨P, hP⟩ := hP5
            have hPl : P.length = 5 := by rw [hP]; rfl
            rw [← hP] at hR5
            obtain ⟨pr, br, orr, capr, er, hmr, hpr, hcr⟩ := hR5.ex
            rw [hPl] at er
            cases er
            obtain ⟨ebr, hlr⟩ := hpr (by omega)
            cases ebr
            have HP := Lib.hid hP
            clear hP
            have HR5 := Lib.hid hR5
            clear hR5
            have HCR := Lib.hid hcr
            clear hcr
            have HPL := Lib.hid hPl
            clear hPl
            clear hpr hmr
            have hE5 : w.Exts (W.alloc (.cells #[.int .u8 a1, .int .u8 a2, .int .u8 wu, .int .u8 a4, .int .u8 a5] 5)) := (hEV.trans hVW).alloc _
            go_wp2_with fail
            generalize W.alloc (.cells #[.int .u8 a1, .int .u8 a2, .int .u8 wu, .int .u8 a4, .int .u8 a5] 5) = V5 at *
            go_loopw [18, 19] (fun wh i wr => ∃ k : Nat, k ≤ 5 ∧ i = .int .i64 k ∧ wh = .int .u8 ((P.take k).foldl min 2) ∧ V5.Exts wr) (fun _ i _ => 5 - (intOf i).toNat)
            case atStart => exact ⟨0, Nat.zero_le _, rfl, rfl, World.Exts.refl _⟩
            case round =>
              obtain ⟨k, hk, rfl, rfl, hE9⟩ := hrel
              obtain ⟨X9, rfl⟩ := hE9
              have hPL := HPL.out
              by_cases hlt : k < 5
              · obtain ⟨x, hx⟩ := some_of_lt (xs := P) (k := k) (by omega)
                have hcs := HCR.out k x hx
                have c0 := hcs 0 _ rfl
                simp only [Nat.mul_one, Nat.add_zero] at c0
                rw [Nat.zero_add] at c0
                have hnx : (P.take (k + 1)).foldl min 2 = min ((P.take k).foldl min 2) x := by rw [take_snoc hx, List.foldl_append]; rfl
                generalize (P.take k).foldl min 2 = m at hnx ⊢
                have HNX := Lib.hid hnx
                clear hnx
                clear hx hcs hPL
                rcases Int.lt_trichotomy m x with hc1 | hc1 | hc1
                all_goals
                  go_wp2_with fail
                  go_roundw
                  case rel => exact ⟨k + 1, by omega, by go_num, by rw [HNX.out]; try exact congrArg (Value.int .u8) (by omega), (by repeat' (first | with_reducible exact World.Exts.refl _ | with_reducible refine World.Exts.alloc ?_ _ | with_reducible refine World.Exts.drew ?_ | with_reducible refine World.Exts.drewN ?_ _ | with_reducible refine World.Exts.ext ?_ _ | with_reducible refine World.Exts.setCell ?_ ?_ _ | (simp; done) | exact World.size_ext_le _ _ | (simp; omega)))⟩
                  case measure => (simp [intOf]; try omega)
              · have hkn : P.take k = P := by rw [List.take_of_length_le (by omega)]
                rw [hkn]
                clear hkn hPL
                go_wp2_with fail
                refine bodyPost_ret (v := .tuple #[.slice (some ⟨W.heap.size, 0, none⟩) 5 5, .int .u8 (P.foldl min 2), .int .i64 0]) (by simp [results, Tryz.results10, go_sem]) rfl ?_
                have hPP : [knownR (s0 :: sr) n.total, sureR (decide (g.added ≤ n.added)), L.foldl (warmStep n.warm) 2, knownR [hd1] n.hard, sureR (g.stamp || !n.stamp)] = P := by rw [HP.out, HA1.out, HA2.out, HA4.out, HWU.out, HA5.out]
                rw [hPP]
                exact ⟨_, rfl, HR5.out.mono (by repeat' (first | with_reducible exact World.Exts.refl _ | with_reducible refine World.Exts.alloc ?_ _ | with_reducible refine World.Exts.drew ?_ | with_reducible refine World.Exts.drewN ?_ _ | with_reducible refine World.Exts.ext ?_ _ | with_reducible refine World.Exts.setCell ?_ ?_ _ | (simp; done) | exact World.size_ext_le _ _ | (simp; omega))), (by repeat' (first | exact hE5 | with_reducible exact World.Exts.refl _ | with_reducible refine World.Exts.alloc ?_ _ | with_reducible refine World.Exts.drew ?_ | with_reducible refine World.Exts.drewN ?_ _ | with_reducible refine World.Exts.ext ?_ _ | with_reducible refine World.Exts.setCell ?_ ?_ _ | (simp; done) | exact World.size_ext_le _ _ | (simp; omega)))⟩
    · rw [judge_bad hz hnb (by rw [hd]; simp) (by rw [hh]; decide), hh]
      have HN := Lib.hid hnb
      clear hnb
      have HE := Lib.hid hz
      clear hz
      have HD := Lib.hid hd
      clear hd
      have HH := Lib.hid hh
      clear hh
      clear hwm hbare
      go_enter Tryz.func10, Tryz.ntmps10
      go_wp2_with (first
        | (go_at_call 32; refine (r04_Check_any ts _ g _ _ _ _ (HB.out.mono (by repeat' (first | with_reducible exact World.Exts.refl _ | with_reducible refine World.Exts.alloc ?_ _ | with_reducible refine World.Exts.drew ?_ | with_reducible refine World.Exts.drewN ?_ _ | with_reducible refine World.Exts.ext ?_ _ | with_reducible refine World.Exts.setCell ?_ ?_ _ | (simp; done) | exact World.size_ext_le _ _ | (simp; omega)))) (HG.out.l.mono (by repeat' (first | with_reducible exact World.Exts.refl _ | with_reducible refine World.Exts.alloc ?_ _ | with_reducible refine World.Exts.drew ?_ | with_reducible refine World.Exts.drewN ?_ _ | with_reducible refine World.Exts.ext ?_ _ | with_reducible refine World.Exts.setCell ?_ ?_ _ | (simp; done) | exact World.size_ext_le _ _ | (simp; omega)))) (HG.out.r.mono (by repeat' (first | with_reducible exact World.Exts.refl _ | with_reducible refine World.Exts.alloc ?_ _ | with_reducible refine World.Exts.drew ?_ | with_reducible refine World.Exts.drewN ?_ _ | with_reducible refine World.Exts.ext ?_ _ | with_reducible refine World.Exts.setCell ?_ ?_ _ | (simp; done) | exact World.size_ext_le _ _ | (simp; omega)))) (HG.out.s.mono (by repeat' (first | with_reducible exact World.Exts.refl _ | with_reducible refine World.Exts.alloc ?_ _ | with_reducible refine World.Exts.drew ?_ | with_reducible refine World.Exts.drewN ?_ _ | with_reducible refine World.Exts.ext ?_ _ | with_reducible refine World.Exts.setCell ?_ ?_ _ | (simp; done) | exact World.size_ext_le _ _ | (simp; omega))))).mono ?_; rintro e w' ⟨rfl, X2, rfl⟩; rw [HE.out])
        | (go_at_call 21; refine (r04_Norm_any n _).mono ?_; rintro e w' ⟨rfl, X3, rfl⟩; rw [HN.out])
        | (go_at_call 33; refine (r04_totals_any ts _ g _ _ _ _ (HB.out.mono (by repeat' (first | with_reducible exact World.Exts.refl _ | with_reducible refine World.Exts.alloc ?_ _ | with_reducible refine World.Exts.drew ?_ | with_reducible refine World.Exts.drewN ?_ _ | with_reducible refine World.Exts.ext ?_ _ | with_reducible refine World.Exts.setCell ?_ ?_ _ | (simp; done) | exact World.size_ext_le _ _ | (simp; omega)))) (HG.out.mono (by repeat' (first | with_reducible exact World.Exts.refl _ | with_reducible refine World.Exts.alloc ?_ _ | with_reducible refine World.Exts.drew ?_ | with_reducible refine World.Exts.drewN ?_ _ | with_reducible refine World.Exts.ext ?_ _ | with_reducible refine World.Exts.setCell ?_ ?_ _ | (simp; done) | exact World.size_ext_le _ _ | (simp; omega)))) hn HRT.out h6 HSH.out had).mono ?_; rw [HD.out]; rintro e w' ⟨vt, rfl, ht, X4, rfl⟩; obtain ⟨qt, ct, rfl⟩ := ht.len; have HT := Lib.hid ht; clear ht)
        | (go_at_call 34; refine (r04_Hard_any g _ _ _ _ (HG.out.mono (by repeat' (first | with_reducible exact World.Exts.refl _ | with_reducible refine World.Exts.alloc ?_ _ | with_reducible refine World.Exts.drew ?_ | with_reducible refine World.Exts.drewN ?_ _ | with_reducible refine World.Exts.ext ?_ _ | with_reducible refine World.Exts.setCell ?_ ?_ _ | (simp; done) | exact World.size_ext_le _ _ | (simp; omega))))).mono ?_; rw [HH.out]; rintro e w' ⟨rfl, X5, rfl⟩)
        | (go_at_call 35; refine (r04_Warm_any g _ _ _ _ (HG.out.mono (by repeat' (first | with_reducible exact World.Exts.refl _ | with_reducible refine World.Exts.alloc ?_ _ | with_reducible refine World.Exts.drew ?_ | with_reducible refine World.Exts.drewN ?_ _ | with_reducible refine World.Exts.ext ?_ _ | with_reducible refine World.Exts.setCell ?_ ?_ _ | (simp; done) | exact World.size_ext_le _ _ | (simp; omega))))).mono ?_; rw [HWM.out]; rintro e w' ⟨vw, rfl, hw, X6, rfl⟩; obtain ⟨qw, cw, rfl⟩ := hw.len; have HW := Lib.hid hw; clear hw))
      refine bodyPost_ret (v := .tuple #[.slice none 0 0, .int .u8 0, .int .i64 8]) (by simp [results, Tryz.results10, go_sem]) rfl ?_
      exact ⟨_, rfl, IsRow.nil _, (by repeat' (first | with_reducible exact World.Exts.refl _ | with_reducible refine World.Exts.alloc ?_ _ | with_reducible refine World.Exts.drew ?_ | with_reducible refine World.Exts.drewN ?_ _ | with_reducible refine World.Exts.ext ?_ _ | with_reducible refine World.Exts.setCell ?_ ?_ _ | (simp; done) | exact World.size_ext_le _ _ | (simp; omega)))⟩
  · rw [judge_err hz]
    have hc := check_three (ts.map Prod.fst) g
    rcases hc with hc | hc | hc
    · exact absurd hc hz
    · clear hz
      rw [hc]
      have HE := Lib.hid hc
      clear hc
      go_enter Tryz.func10, Tryz.ntmps10
      go_wp2_with (go_at_call 32; refine (r04_Check_any ts _ g _ _ _ _ (HB.out.mono (by repeat' (first | with_reducible exact World.Exts.refl _ | with_reducible refine World.Exts.alloc ?_ _ | with_reducible refine World.Exts.drew ?_ | with_reducible refine World.Exts.drewN ?_ _ | with_reducible refine World.Exts.ext ?_ _ | with_reducible refine World.Exts.setCell ?_ ?_ _ | (simp; done) | exact World.size_ext_le _ _ | (simp; omega)))) (HG.out.l.mono (by repeat' (first | with_reducible exact World.Exts.refl _ | with_reducible refine World.Exts.alloc ?_ _ | with_reducible refine World.Exts.drew ?_ | with_reducible refine World.Exts.drewN ?_ _ | with_reducible refine World.Exts.ext ?_ _ | with_reducible refine World.Exts.setCell ?_ ?_ _ | (simp; done) | exact World.size_ext_le _ _ | (simp; omega)))) (HG.out.r.mono (by repeat' (first | with_reducible exact World.Exts.refl _ | with_reducible refine World.Exts.alloc ?_ _ | with_reducible refine World.Exts.drew ?_ | with_reducible refine World.Exts.drewN ?_ _ | with_reducible refine World.Exts.ext ?_ _ | with_reducible refine World.Exts.setCell ?_ ?_ _ | (simp; done) | exact World.size_ext_le _ _ | (simp; omega)))) (HG.out.s.mono (by repeat' (first | with_reducible exact World.Exts.refl _ | with_reducible refine World.Exts.alloc ?_ _ | with_reducible refine World.Exts.drew ?_ | with_reducible refine World.Exts.drewN ?_ _ | with_reducible refine World.Exts.ext ?_ _ | with_reducible refine World.Exts.setCell ?_ ?_ _ | (simp; done) | exact World.size_ext_le _ _ | (simp; omega))))).mono ?_; rintro e w' ⟨rfl, X2, rfl⟩; rw [HE.out])
      refine bodyPost_ret (v := .tuple #[.slice none 0 0, .int .u8 0, .int .i64 41]) (by simp [results, Tryz.results10, go_sem]) rfl ?_
      exact ⟨_, rfl, IsRow.nil _, (by repeat' (first | with_reducible exact World.Exts.refl _ | with_reducible refine World.Exts.alloc ?_ _ | with_reducible refine World.Exts.drew ?_ | with_reducible refine World.Exts.drewN ?_ _ | with_reducible refine World.Exts.ext ?_ _ | with_reducible refine World.Exts.setCell ?_ ?_ _ | (simp; done) | exact World.size_ext_le _ _ | (simp; omega)))⟩
    · clear hz
      rw [hc]
      have HE := Lib.hid hc
      clear hc
      go_enter Tryz.func10, Tryz.ntmps10
      go_wp2_with (go_at_call 32; refine (r04_Check_any ts _ g _ _ _ _ (HB.out.mono (by repeat' (first | with_reducible exact World.Exts.refl _ | with_reducible refine World.Exts.alloc ?_ _ | with_reducible refine World.Exts.drew ?_ | with_reducible refine World.Exts.drewN ?_ _ | with_reducible refine World.Exts.ext ?_ _ | with_reducible refine World.Exts.setCell ?_ ?_ _ | (simp; done) | exact World.size_ext_le _ _ | (simp; omega)))) (HG.out.l.mono (by repeat' (first | with_reducible exact World.Exts.refl _ | with_reducible refine World.Exts.alloc ?_ _ | with_reducible refine World.Exts.drew ?_ | with_reducible refine World.Exts.drewN ?_ _ | with_reducible refine World.Exts.ext ?_ _ | with_reducible refine World.Exts.setCell ?_ ?_ _ | (simp; done) | exact World.size_ext_le _ _ | (simp; omega)))) (HG.out.r.mono (by repeat' (first | with_reducible exact World.Exts.refl _ | with_reducible refine World.Exts.alloc ?_ _ | with_reducible refine World.Exts.drew ?_ | with_reducible refine World.Exts.drewN ?_ _ | with_reducible refine World.Exts.ext ?_ _ | with_reducible refine World.Exts.setCell ?_ ?_ _ | (simp; done) | exact World.size_ext_le _ _ | (simp; omega)))) (HG.out.s.mono (by repeat' (first | with_reducible exact World.Exts.refl _ | with_reducible refine World.Exts.alloc ?_ _ | with_reducible refine World.Exts.drew ?_ | with_reducible refine World.Exts.drewN ?_ _ | with_reducible refine World.Exts.ext ?_ _ | with_reducible refine World.Exts.setCell ?_ ?_ _ | (simp; done) | exact World.size_ext_le _ _ | (simp; omega))))).mono ?_; rintro e w' ⟨rfl, X2, rfl⟩; rw [HE.out])
      refine bodyPost_ret (v := .tuple #[.slice none 0 0, .int .u8 0, .int .i64 40]) (by simp [results, Tryz.results10, go_sem]) rfl ?_
      exact ⟨_, rfl, IsRow.nil _, (by repeat' (first | with_reducible exact World.Exts.refl _ | with_reducible refine World.Exts.alloc ?_ _ | with_reducible refine World.Exts.drew ?_ | with_reducible refine World.Exts.drewN ?_ _ | with_reducible refine World.Exts.ext ?_ _ | with_reducible refine World.Exts.setCell ?_ ?_ _ | (simp; done) | exact World.size_ext_le _ _ | (simp; omega)))⟩
end Go.Proofs.YtomcenfikdmmkaaGreatDoor
